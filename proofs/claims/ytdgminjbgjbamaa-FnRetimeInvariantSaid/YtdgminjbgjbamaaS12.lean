import Derived.Test.YtdgminjbgjbamaaS11
import Derived.Test.YtdgminjbgjbamaaS10
import Derived.Test.YtdgminjbgjbamaaS05
import Derived.Test.YtdgminjbgjbamaaS02
import Derived.Test.YtdgminjbgjbamaaS07
import Derived.Laws.BytesArg
import Derived.Test.YtdgminjbgjbamaaS03
import Derived.Test.YtdgminjbgjbamaaProg
import Derived.Test.YtdgminjbgjbamaaS01
import Derived.RegionTactic
set_option linter.unusedVariables false
set_option linter.unusedSimpArgs false
set_option maxRecDepth 100000
set_option maxHeartbeats 16000000
namespace Go.Proofs.Ytdgminjbgjbamaa
open Go.RowKit
theorem valid_outs {c : Cz} (h : Cir.valid c = true) : c.outs.length ≤ 3 := (valid_sizes h).2.2.2.2
theorem viol_field0 (b : Bool) (A : Option Addr) (n c : Nat) (w : World) : (Instr.field 31 (.agg #[.bool b, .slice A n c]) 0).run Try.prog w = .ok (.bool b) w := by kernel_rfl
def Cir.invI (c : Cz) (o : Int) : Bool := Cir.valid c && (decide (0 ≤ o) && (decide (o < c.outs.length) && !(Cir.violI c o).isSome))
theorem implInv_any (v : Value) (c : Cz) (o : Int) (w : World) (h : CircAt w v c) :
    Calls Try.prog 23 #[v, .int .i64 o] w fun e w' => e = .returned (.bool (Cir.invI c o)) ∧ Below w.heap.size w w' := by
  have HC := Lib.hid h
  obtain ⟨An, cn, Ag, cg, Ao, co, rfl⟩ := h.shape
  have B0 := Lib.hid (bel_new w (.cells #[.int .i64 c.ins, .slice An c.next.length cn, .slice Ag c.gates.length cg, .slice Ao c.outs.length co] 26))
  have PC := Lib.hid (PCells.boxed w c.ins (.slice An c.next.length cn) (.slice Ag c.gates.length cg) (.slice Ao c.outs.length co) 26)
  have hsz : (w.alloc (.cells #[.int .i64 c.ins, .slice An c.next.length cn, .slice Ag c.gates.length cg, .slice Ao c.outs.length co] 26)).heap.size = w.heap.size + 1 := by simp
  obtain ⟨z, p0, p1, p2, p3⟩ := PC.out
  have HC0 := Lib.hid (HC.out.below B0.out)
  have HV := Lib.hid (implValid_any _ _ _ HC0.out)
  clear HC h
  cases hv : Cir.valid c
  · rw [hv] at HV
    have HR : Hid (Cir.invI c o = false) := Lib.hid (by unfold Cir.invI; rw [hv]; rfl)
    rw [HR.out]
    clear HR hv
    go_enter Try.func23, Try.ntmps23
    go_wp2_with fail
    refine HV.out.mono ?_
    rintro e w1 ⟨rfl, hb1⟩
    have B1 := Lib.hid (B0.out.trans (hb1.mono B0.out.size))
    clear hb1
    go_wp2_with fail
    go_ret
    exact ⟨rfl, B1.out⟩
  · rw [hv] at HV
    have hl := valid_outs hv
    by_cases h0 : o < 0
    · have t0 : decide (0 ≤ o) = false := decide_eq_false (by omega)
      have HR : Hid (Cir.invI c o = false) := Lib.hid (by unfold Cir.invI; rw [hv, t0]; rfl)
      rw [HR.out]
      clear HR hv hl h0
      go_enter Try.func23, Try.ntmps23
      go_wp2_with fail
      generalize w.alloc (.cells #[.int .i64 c.ins, .slice An c.next.length cn, .slice Ag c.gates.length cg, .slice Ao c.outs.length co] 26) = W at *
      refine HV.out.mono ?_
      rintro e w1 ⟨rfl, hb1⟩
      have B1 := Lib.hid (B0.out.trans (hb1.mono B0.out.size))
      have HC1 := Lib.hid (HC0.out.below hb1)
      have PC1 := Lib.hid (PC.out.below hb1)
      have z1 := hb1.size
      clear hb1 p0 p1 p2 p3 z HV PC HC0
      obtain ⟨z, p0, p1, p2, p3⟩ := PC1.out
      go_wp2_with fail
      go_ret
      exact ⟨rfl, B1.out⟩
    · by_cases h1 : (c.outs.length : Int) ≤ o
      · have t0 : decide (0 ≤ o) = true := decide_eq_true (by omega)
        have t1 : decide (o < (c.outs.length : Int)) = false := decide_eq_false (by omega)
        have HR : Hid (Cir.invI c o = false) := Lib.hid (by unfold Cir.invI; rw [hv, t0, t1]; rfl)
        rw [HR.out]
        clear HR hv hl h0 h1
        go_enter Try.func23, Try.ntmps23
        go_wp2_with fail
        generalize w.alloc (.cells #[.int .i64 c.ins, .slice An c.next.length cn, .slice Ag c.gates.length cg, .slice Ao c.outs.length co] 26) = W at *
        refine HV.out.mono ?_
        rintro e w1 ⟨rfl, hb1⟩
        have B1 := Lib.hid (B0.out.trans (hb1.mono B0.out.size))
        have HC1 := Lib.hid (HC0.out.below hb1)
        have PC1 := Lib.hid (PC.out.below hb1)
        have z1 := hb1.size
        clear hb1 p0 p1 p2 p3 z HV PC HC0
        obtain ⟨z, p0, p1, p2, p3⟩ := PC1.out
        go_wp2_with fail
        go_ret
        exact ⟨rfl, B1.out⟩
      · have t0 : decide (0 ≤ o) = true := decide_eq_true (by omega)
        have t1 : decide (o < (c.outs.length : Int)) = true := decide_eq_true (by omega)
        have HR : Hid (Cir.invI c o = !(Cir.violI c o).isSome) := Lib.hid (by unfold Cir.invI; rw [hv, t0, t1]; rfl)
        rw [HR.out]
        clear HR hv hl h0 h1
        go_enter Try.func23, Try.ntmps23
        go_wp2_with fail
        generalize w.alloc (.cells #[.int .i64 c.ins, .slice An c.next.length cn, .slice Ag c.gates.length cg, .slice Ao c.outs.length co] 26) = W at *
        refine HV.out.mono ?_
        rintro e w1 ⟨rfl, hb1⟩
        have B1 := Lib.hid (B0.out.trans (hb1.mono B0.out.size))
        have HC1 := Lib.hid (HC0.out.below hb1)
        have PC1 := Lib.hid (PC.out.below hb1)
        have z1 := hb1.size
        clear hb1 p0 p1 p2 p3 z HV PC HC0
        obtain ⟨z, p0, p1, p2, p3⟩ := PC1.out
        go_wp2_with fail
        refine (implViol_any _ c o _ HC1.out).mono ?_
        rintro e w2 ⟨v2, rfl, hO, hb2⟩
        obtain ⟨A2, c2, hv2, -⟩ := hO.at.shape
        subst hv2
        have B2 := Lib.hid (B1.out.trans (hb2.mono B1.out.size))
        clear hb2 hO
        generalize hbb : (Cir.violI c o).isSome = bb at *
        have Hbb := Lib.hid hbb
        clear hbb
        have hff := viol_field0 bb A2 (vrows (Cir.nat c).ins (Cir.violI c o)).length c2
        go_wp2_with fail
        go_ret
        exact ⟨ret_bool (by rw [Hbb.out]), B2.out⟩
end Go.Proofs.Ytdgminjbgjbamaa
namespace Go.Proofs.Ytdgminjbgjbamaa
namespace Cir
theorem inv_sim {c d : Ci} {f : List Bool → List Bool} (hc : Ok c) (hd : Ok d) (h : Sim c d f) (o : Nat) : invI (toCz d) (o : Nat) = invI (toCz c) (o : Nat) := by
  have l1 : (toCz d).outs.length = d.outs.length := List.length_map _
  have l2 : (toCz c).outs.length = c.outs.length := List.length_map _
  unfold invI violI
  rw [ok_valid hc, ok_valid hd, l1, l2, h.outss, nat_toCz, nat_toCz, Int.toNat_natCast]
  by_cases ho : (o : Int) < c.outs.length
  · rw [if_pos ⟨rfl, by omega, ho⟩, if_pos ⟨rfl, by omega, ho⟩, h.isSome hc hd]
  · rw [decide_eq_false ho]
    simp
theorem inv_opt {c : Cz} (h : valid c = true) (o : Nat) : invI (optZ c) (o : Nat) = invI c (o : Nat) := by
  obtain ⟨d1, d2⟩ := nat_ok h
  unfold optZ
  rw [if_pos h]
  conv => rhs; rw [d1]
  exact inv_sim d2 (optI_ok d2) (optI_same d2).sim o
theorem inv_rem {c : Cz} (h : valid c = true) {V : List Bool} (hn : Needs (nat c) V) (o : Nat) : invI (toCz (optI (remC (nat c) V))) (o : Nat) = invI c (o : Nat) := by
  obtain ⟨d1, d2⟩ := nat_ok h
  have h3 := remC_ok d2 V
  conv => rhs; rw [d1]
  rw [inv_sim h3 (optI_ok h3) (optI_same h3).sim o]
  exact inv_sim d2 h3 (rem_sim d2 hn) o
theorem inv_ret {c : Cz} {i : Int} (h : canI c i = true) (o : Nat) : invI (retZ c i) (o : Nat) = invI c (o : Nat) := by
  obtain ⟨d1, d2, d3, d4, k, rfl, hk⟩ := canI_nat h
  have hr := CanR.of d4
  unfold retZ
  rw [if_pos h]
  conv => rhs; rw [d1]
  exact inv_sim d2 (retC_ok d2 hr) (ret_sim d2 hr) o
theorem retZ_len (c : Cz) (i : Int) : (retZ c i).next.length ≤ 1000000 ∧ (retZ c i).gates.length ≤ 1000000 ∧ (retZ c i).outs.length ≤ 1000000 := by
  unfold retZ
  split
  · rename_i h
    obtain ⟨d1, d2, d3, d4, k, rfl, hk⟩ := canI_nat h
    have := retC_ok d2 (CanR.of d4)
    have h1 := this.nexts
    have h2 := this.gatess
    have h3 := this.outss
    simp only [toCz, List.length_map, Int.toNat_natCast]
    omega
  · simp
end Cir
end Go.Proofs.Ytdgminjbgjbamaa
namespace Go.Proofs.Ytdgminjbgjbamaa
open Go.RowKit Go.Maps
structure NedB (w0 : World) (g gc gs gf gk n : Nat) (V : List Bool) (w : World) : Prop where
  b : Below w0.heap.size w0 w
  s : w.heap[gs]? = some (.cells #[.slice (some ⟨gk, 0, none⟩) n n] 64 (0, 0))
  c : w.heap[gc]? = some (.cells #[.pointer (some ⟨g, 0, none⟩)] 61 (0, 0))
  f : w.heap[gf]? = some (.cells #[.func (.func 98) #[] #[.pointer (some ⟨gs, 0, none⟩), .pointer (some ⟨gc, 0, none⟩), .pointer (some ⟨gf, 0, none⟩)]] 120 (0, 0))
  k : w.ownsRow gk 4 1 (.slice (some ⟨gk, 0, none⟩) n n) n (bools V)
  lc : w0.heap.size ≤ gc
  ck : gc < gk
  ks : gk < gs
  sf : gs < gf
  len : V.length = n
section
variable {w0 w w' : World} {g gc gs gf gk n : Nat} {V : List Bool}
theorem NedB.step (h : NedB w0 g gc gs gf gk n V w) (hb : Below w.heap.size w w') : NedB w0 g gc gs gf gk n V w' :=
  ⟨h.b.trans (hb.mono h.b.size), (hb.block gs (blk_ltB h.s)).trans h.s, (hb.block gc (blk_ltB h.c)).trans h.c, (hb.block gf (blk_ltB h.f)).trans h.f, own_below h.k hb, h.lc, h.ck, h.ks, h.sf, h.len⟩
theorem NedB.set (h : NedB w0 g gc gs gf gk n V w) (v : Nat) : NedB w0 g gc gs gf gk n (V.set v true) (w.setCell ⟨gk, v, none⟩ (.bool true)) := by
  have l1 := h.lc
  have l2 := h.ck
  have l3 := h.ks
  have l4 := h.sf
  have hs := h.k.stored v (.bool true)
  rw [bools_set] at hs
  exact ⟨h.b.setCell (by simp only; omega) _, (heap_setCell_other' _ _ _ _ _ (by omega)).trans h.s, (heap_setCell_other' _ _ _ _ _ (by omega)).trans h.c, (heap_setCell_other' _ _ _ _ _ (by omega)).trans h.f, hs.1, h.lc, h.ck, h.ks, h.sf, by rw [List.length_set]; exact h.len⟩
end
def TGate0 (B : Nat) : Ty := fun w v => ∃ k, v = .pointer (some ⟨k, 0, none⟩) ∧ B ≤ k ∧ w.heap[k]? = some (.cells #[.int .i64 0, .int .i64 0] 72 (0, 0))
theorem stb_gate0 (B : Nat) : Stb (fun _ => False) (TGate0 B) := fun _ _ _ ⟨k, h1, h2, h3⟩ ho => ⟨k, h1, h2, ((only_below ho).block k (blk_ltB h3)).trans h3⟩
theorem visit_any (w0 : World) (g gc gs gf gk : Nat) (d : Ci) (hP : PCirc w0 g (Cir.toCz d)) (hd : Cir.Ok d) : ∀ (m : Nat) (V : List Bool) (v : Nat) (w : World), Cir.unm V ≤ m → v < Cir.nvars d → NedB w0 g gc gs gf gk (Cir.nvars d) V w →
    Calls Try.prog 98 #[.int .i64 (v : Int), .pointer (some ⟨gs, 0, none⟩), .pointer (some ⟨gc, 0, none⟩), .pointer (some ⟨gf, 0, none⟩)] w fun e w' => e = .returned (.tuple #[]) ∧ ∃ V', Cir.Vis d V V' ∧ V'.getD v false = true ∧ NedB w0 g gc gs gf gk (Cir.nvars d) V' w' ∧ Only (fun x => x = gk) w w' := by
  have s1 := hd.ins
  have s2 := hd.nexts
  have s3 := hd.gatess
  have HFg : Hid (∀ w', Below w0.heap.size w0 w' → Calls Try.prog 61 #[.pointer (some ⟨g, 0, none⟩)] w' fun e w'' => e = .returned (.int .i64 (Cir.nfirst d : Nat)) ∧ Below w'.heap.size w' w'') := Lib.hid fun w' hb => by
    have := firstGate_any g _ w' (hP.below hb) (by show (0 : Int) ≤ (d.ins : Int); omega) (by show (d.ins : Int) ≤ 100; omega) (by show (List.map _ _).length ≤ 100; rw [List.length_map]; omega)
    rwa [Cir.first_toCz] at this
  have HLt : Hid (∀ w' (v : Nat), Below w0.heap.size w0 w' → v ≤ 1000000 → Calls Try.prog 68 #[.pointer (some ⟨g, 0, none⟩), .int .i64 (v : Int)] w' fun e w'' => e = .returned (.bool (Cir.latV d v)) ∧ Below w'.heap.size w' w'') := Lib.hid fun w' v hb h => isLatch_any g d v w' (hP.below hb) hd h
  have HSl := Lib.hid (fun v (h : v < Cir.nvars d) => Cir.succs_lt hd h)
  have HP := Lib.hid hP
  have hnl : (Cir.toCz d).next.length = d.next.length := List.length_map _
  have hgl : (Cir.toCz d).gates.length = d.gates.length := List.length_map _
  obtain ⟨vn, vg, vo, hg, c0, c1, c2, c3, r1, r2, r3⟩ := hP
  have c0x : w0.cell? ⟨g, 0, none⟩ = some (.int .i64 (d.ins : Int)) := c0
  obtain ⟨An, cn, rfl, -, -⟩ := Row.shape r1
  obtain ⟨Ag, cg, rfl, -, -⟩ := Row.shape r2
  rw [hnl] at c1
  rw [hgl] at c2
  have R1 : Hid (Row w0 1 (.slice An d.next.length cn) d.next.length (ints (d.next.map Int.ofNat))) := Lib.hid (by have := r1; unfold IntsAt at this; rwa [hnl] at this)
  have R2 : Hid (Row w0 2 (.slice Ag d.gates.length cg) d.gates.length (cubes (Cir.toCz d).gates)) := Lib.hid (by have := r2; unfold CubesAt at this; rwa [hgl] at this)
  have C0 := Lib.hid c0x
  have C1 := Lib.hid c1
  have C2 := Lib.hid c2
  have HD := Lib.hid hd
  obtain ⟨n, hn⟩ : ∃ n, Cir.nvars d = n := ⟨_, rfl⟩
  obtain ⟨F, hF⟩ : ∃ F, Cir.nfirst d = F := ⟨_, rfl⟩
  have hFe : F = 1 + d.ins + d.next.length := by rw [← hF]; rfl
  have hne : n = F + d.gates.length := by rw [← hn, ← hF]; rfl
  have HFe := Lib.hid hFe
  have HF := Lib.hid hF
  have Hn := Lib.hid hn
  have Hne := Lib.hid hne
  have hFb : F ≤ 8 := by omega
  have hnb : n ≤ 22 := by omega
  rw [hF] at HFg
  rw [hn] at HSl ⊢
  clear c0 c0x c1 c2 c3 r1 r2 r3 hd hnl hgl hn hF hFe hne
  intro m
  induction m with
  | zero =>
    intro V v w hm hv h
    have hl := h.len
    cases hV : V.getD v false with
    | false =>
      have := Cir.unm_set (V := V) (v := v) (by omega) hV
      omega
    | true =>
      have H := Lib.hid h
      have HV := Lib.hid hV
      have q1 := blk_cell h.s 0
      simp at q1
      have hsk : (bools V)[v]? = some (.bool true) := by
        unfold bools
        rw [List.getElem?_map, Cir.at_getD false (show v < V.length by omega), hV]
        rfl
      obtain ⟨u0, hu0, hd0, hf0⟩ := own_slot h.k (j := v) (by omega)
      obtain rfl : u0 = .bool true := Option.some.inj (hu0.symm.trans hsk)
      clear h hsk hu0 hV
      go_enter Try.func98, Try.ntmps98
      go_wp2_with fail
      exact bodyPost_ret (v := .tuple #[]) (by simp [results, Try.results98, go_sem]) rfl ⟨rfl, V, Cir.Vis.refl d V, HV.out, H.out, Only.refl _ _⟩
  | succ m ih =>
    intro V v w hm hv h
    have IH := Lib.hid ih
    have hl := h.len
    have H := Lib.hid h
    have q1 := blk_cell h.s 0
    simp at q1
    cases hV : V.getD v false with
    | true =>
      have HV := Lib.hid hV
      have hsk : (bools V)[v]? = some (.bool true) := by
        unfold bools
        rw [List.getElem?_map, Cir.at_getD false (show v < V.length by omega), hV]
        rfl
      obtain ⟨u0, hu0, hd0, hf0⟩ := own_slot h.k (j := v) (by omega)
      obtain rfl : u0 = .bool true := Option.some.inj (hu0.symm.trans hsk)
      clear h hsk hu0 hV ih
      go_enter Try.func98, Try.ntmps98
      go_wp2_with fail
      exact bodyPost_ret (v := .tuple #[]) (by simp [results, Try.results98, go_sem]) rfl ⟨rfl, V, Cir.Vis.refl d V, HV.out, H.out, Only.refl _ _⟩
    | false =>
      have hm' := Cir.unm_set (V := V) (v := v) (by omega) hV
      have hm2 : Cir.unm (V.set v true) ≤ m := by omega
      have hsk : (bools V)[v]? = some (.bool false) := by
        unfold bools
        rw [List.getElem?_map, Cir.at_getD false (show v < V.length by omega), hV]
        rfl
      obtain ⟨u0, hu0, hd0, hf0⟩ := own_slot h.k (j := v) (by omega)
      obtain rfl : u0 = .bool false := Option.some.inj (hu0.symm.trans hsk)
      have h1 := h.set v
      have hv0 : (V.set v true).getD v false = true := by rw [Cir.getD_set', if_pos ⟨rfl, by omega⟩]
      have Hstep : Hid (∀ V', Cir.Vis d (V.set v true) V' → (∀ s ∈ Cir.succs d v, V'.getD s false = true) → Cir.Vis d V V' ∧ V'.getD v false = true) := Lib.hid fun V' h1 h2 => ⟨h1.step h2, h1.mono v hv0⟩
      have H1 := Lib.hid h1
      have hb1 := h1.b
      obtain ⟨w1, hw1⟩ : ∃ w1, w.setCell ⟨gk, v, none⟩ (.bool true) = w1 := ⟨_, rfl⟩
      rw [hw1] at H1 hb1
      obtain ⟨V1, hV1⟩ : ∃ V1, V.set v true = V1 := ⟨_, rfl⟩
      rw [hV1] at H1 hm2 Hstep
      have HW1 := Lib.hid hw1
      have HO1 : Hid (Only (fun x => x = gk) w w1) := Lib.hid (by rw [← hw1]; exact set1_only w gk v (.bool true))
      have p1 := blk_cell H1.out.c 0
      simp at p1
      rw [← hw1] at p1
      clear h h1 hsk hu0 hV ih hm' hV1 hv0 hw1 H
      go_enter Try.func98, Try.ntmps98
      go_wp2_with fail
      rw [HW1.out]
      refine (HFg.out _ hb1).mono ?_
      rintro e w2 ⟨rfl, hb2⟩
      have H2 := Lib.hid (H1.out.step hb2)
      have HO2 := Lib.hid (HO1.out.trans (Only.of_below _ hb2))
      have p2 := blk_cell H2.out.c 0
      simp at p2
      clear hb1 hb2 H1 p1 HW1 HO1
      by_cases hge : F ≤ v
      · have dg : decide ((v : Int) ≥ (F : Int)) = true := decide_eq_true (by omega)
        obtain ⟨k, hk⟩ : ∃ k, v - F = k := ⟨_, rfl⟩
        have hvk : (v : Int) - (F : Int) = (k : Int) := by omega
        have hkl : k < d.gates.length := by have := Hne.out; omega
        have hwk : IntKind.i64.wrap ((v : Int) - (F : Int)) = (k : Int) := by rw [hvk]; exact IntWalk.i64_in _ (by omega)
        obtain ⟨bq, o, x, rfl, hbl, hx, hs1, hs2⟩ := cubes_open R2.out H2.out.b (show d.gates.length = (Cir.toCz d).gates.length from (List.length_map _).symm) (i := k) (by rw [show (Cir.toCz d).gates.length = d.gates.length from List.length_map _]; exact hkl)
        obtain ⟨⟨x1, x2⟩, hgt⟩ := at_some hkl
        have hxe : x = ((x1 : Int), (x2 : Int)) := by
          have h1 := hx.out
          unfold Cir.toCz at h1
          simp only [List.getElem?_map, hgt] at h1
          exact (Option.some.inj h1).symm
        subst hxe
        simp only at hs1 hs2
        have hsu : Cir.succs d v = [x1 / 2, x2 / 2] := by
          unfold Cir.succs
          rw [HF.out, if_pos hge, hk, List.getD_eq_getElem?_getD, hgt, Option.getD_some]
        have hl1 := HSl.out v hv (x1 / 2) (by rw [hsu]; simp)
        have hl2 := HSl.out v hv (x2 / 2) (by rw [hsu]; simp)
        have Hsu := Lib.hid hsu
        have t1 := tdiv_two x1
        have t2 := tdiv_two x2
        obtain ⟨q1', hq1⟩ : ∃ q, x1 / 2 = q := ⟨_, rfl⟩
        obtain ⟨q2', hq2⟩ : ∃ q, x2 / 2 = q := ⟨_, rfl⟩
        rw [hq1] at t1 hl1
        rw [hq2] at t2 hl2
        rw [hq1, hq2] at Hsu
        have hwq1 : IntKind.i64.wrap (q1' : Int) = (q1' : Int) := IntWalk.i64_in _ (by omega)
        have hwq2 : IntKind.i64.wrap (q2' : Int) = (q2' : Int) := IntWalk.i64_in _ (by omega)
        have hbq : bq < w2.heap.size := Nat.lt_of_lt_of_le hbl H2.out.b.size
        clear hx hgt hsu hk hvk hq1 hq2
        go_wp2_with fail
        refine wp_region_rsl (quietRS Try.prog _ w2 _) quietRS_ok (by kernel_rfl) (by kernel_rfl) (by kernel_rfl) 11 _ rfl rfl (by kernel_rfl) (show (0 : Nat) < 11 by decide) trivial trivial ?_
        apply rs_eq quietRS_ok quiet_any
        · intro ρ w' ho hK
          have ho : Only _ w2 w' := ho
          obtain ⟨h0, -⟩ := hK
          have h0' : ρ (.tmp 2) = _ := h0
          have hb := only_below ho
          have hB := H2.out.step hb
          have k1 := blk_cell hB.c 0
          simp at k1
          have k2 := (hB.b.cell (p := ⟨g, 2, none⟩) hg).trans C2.out
          have e1 := (hb.cell (p := ⟨bq, o + k * 2, none⟩) hbq).trans hs1
          have e2 := (hb.cell (p := ⟨bq, o + k * 2 + 1, none⟩) hbq).trans hs2
          go_simp
          try exact rfl
        apply rs_eq quietRS_ok quiet_any
        · intro ρ w' ho hK
          have ho : Only _ w2 w' := ho
          obtain ⟨h0, -⟩ := hK
          have h0' : ρ (.tmp 18) = _ := h0
          go_simp
          try exact rfl
        apply rs_eq quietRS_ok quiet_any
        · intro ρ w' ho hK
          have ho : Only _ w2 w' := ho
          obtain ⟨h0, -⟩ := hK
          have h0' : ρ (.tmp 19) = _ := h0
          go_simp
          try exact rfl
        apply rs_eq quietRS_ok quiet_any
        · intro ρ w' ho hK
          have ho : Only _ w2 w' := ho
          obtain ⟨h0, -⟩ := hK
          have h0' : ρ (.tmp 20) = _ := h0
          have hb := only_below ho
          have hB := H2.out.step hb
          have k1 := blk_cell hB.c 0
          simp at k1
          have k2 := (hB.b.cell (p := ⟨g, 2, none⟩) hg).trans C2.out
          have e1 := (hb.cell (p := ⟨bq, o + k * 2, none⟩) hbq).trans hs1
          have e2 := (hb.cell (p := ⟨bq, o + k * 2 + 1, none⟩) hbq).trans hs2
          go_simp
          try exact rfl
        refine rs_old quietRS_ok quiet_any _ (.inl rfl) _ rfl rfl ?_
        apply rs_eq quietRS_ok quiet_any
        · intro ρ w' ho hK
          have ho : Only _ w2 w' := ho
          obtain ⟨h0, -⟩ := hK
          have h0' : ρ (.tmp 2) = _ := h0
          have hb := only_below ho
          have hB := H2.out.step hb
          have k1 := blk_cell hB.c 0
          simp at k1
          have k2 := (hB.b.cell (p := ⟨g, 2, none⟩) hg).trans C2.out
          have e1 := (hb.cell (p := ⟨bq, o + k * 2, none⟩) hbq).trans hs1
          have e2 := (hb.cell (p := ⟨bq, o + k * 2 + 1, none⟩) hbq).trans hs2
          go_simp
          try exact rfl
        refine rs_call quietRS_ok quiet_any (TEq (.int .i64 ((F : Nat) : Int))) (stb_eq _ _) 61 _ _ rfl (fun ρ w' ho hK => by
          have ho : Only _ w2 w' := ho
          obtain ⟨h0, h1, -⟩ := hK
          have h0' : ρ (.func 61) = .func (.func 61) #[] #[] := h0
          have h1' : ρ (.tmp 23) = _ := h1
          refine ⟨#[ρ (.tmp 23)], ?_, ?_⟩
          · go_simp
          · rw [h1']
            refine (HFg.out w' (H2.out.step (only_below ho)).b).mono ?_
            rintro e w2 ⟨rfl, hb⟩
            exact ⟨_, rfl, rfl, hb⟩) ?_
        apply rs_eq quietRS_ok quiet_any
        · intro ρ w' ho hK
          have ho : Only _ w2 w' := ho
          obtain ⟨h0, h1, -⟩ := hK
          have h0' : ρ (.tmp 22) = _ := h0
          have h1' : ρ (.tmp 24) = _ := h1
          go_simp
          try exact rfl
        apply rs_eq quietRS_ok quiet_any
        · intro ρ w' ho hK
          have ho : Only _ w2 w' := ho
          obtain ⟨h0, h1, -⟩ := hK
          have h0' : ρ (.tmp 21) = _ := h0
          have h1' : ρ (.tmp 25) = _ := h1
          go_simp
          try exact rfl
        apply rs_eq quietRS_ok quiet_any
        · intro ρ w' ho hK
          have ho : Only _ w2 w' := ho
          obtain ⟨h0, -⟩ := hK
          have h0' : ρ (.tmp 26) = _ := h0
          have hb := only_below ho
          have hB := H2.out.step hb
          have k1 := blk_cell hB.c 0
          simp at k1
          have k2 := (hB.b.cell (p := ⟨g, 2, none⟩) hg).trans C2.out
          have e1 := (hb.cell (p := ⟨bq, o + k * 2, none⟩) hbq).trans hs1
          have e2 := (hb.cell (p := ⟨bq, o + k * 2 + 1, none⟩) hbq).trans hs2
          go_simp
          try exact rfl
        refine rs_alloc quietRS_ok quiet_any (TGate0 w2.heap.size) (stb_gate0 _) (fun ρ w' ho hK => by
          refine ⟨.pointer (some ⟨w'.heap.size, 0, none⟩), .cells #[.int .i64 0, .int .i64 0] 72, ?_, w'.heap.size, rfl, ho.size, heap_alloc_new _ _⟩
          go_simp) ?_
        intro f w9 k9 hk9 hI9 ht9 hcp9
        have E0 : f 0 = _ := ht9 0 (Nat.le_of_ble_eq_true rfl)
        have E1 : f 1 = _ := ht9 1 (Nat.le_of_ble_eq_true rfl)
        have E2 : f 2 = _ := ht9 2 (Nat.le_of_ble_eq_true rfl)
        have E3 : f 3 = _ := ht9 3 (Nat.le_of_ble_eq_true rfl)
        have E4 : f 4 = _ := ht9 4 (Nat.le_of_ble_eq_true rfl)
        conv at E4 => rhs; whnf
        have E5 : f 5 = _ := ht9 5 (Nat.le_of_ble_eq_true rfl)
        have E6 : f 6 = _ := ht9 6 (Nat.le_of_ble_eq_true rfl)
        have E7 : f 7 = _ := ht9 7 (Nat.le_of_ble_eq_true rfl)
        have E8 : f 8 = _ := ht9 8 (Nat.le_of_ble_eq_true rfl)
        have E9 : f 9 = _ := ht9 9 (Nat.le_of_ble_eq_true rfl)
        have E10 : (TGate0 w2.heap.size) w9 (f 10) := ht9 10 (Nat.le_of_ble_eq_true rfl)
        have Ho9 : Only _ w2 w9 := hI9.2.1
        simp only [putAll, E0, E1, E2, E3, E4, E5, E6, E7, E8, E9, Nat.zero_add, Nat.reduceAdd, Act.put, List.setIfInBounds_toArray, List.set_cons_succ, List.set_cons_zero, List.take, List.getElem_toArray, List.getElem_cons_succ, List.getElem_cons_zero]
        clear E0 E1 E2 E3 E4 E5 E6 E7 E8 E9
        clear hI9 ht9 hcp9 hk9
        generalize f 10 = r10 at *
        have hb9 := only_below Ho9
        have E10' : TGate0 w2.heap.size w9 r10 := E10
        obtain ⟨k5, rfl, hk5, hX5⟩ := E10'
        have f0 := blk_free hX5 0
        have u0 := blk_cell hX5 0
        simp at u0
        have hX6 := heap_setCell_same w9 k5 0 _ _ (.int .i64 (x1 : Int)) hX5
        simp at hX6
        have f1 := blk_free hX6 1
        have u1 := blk_cell hX6 1
        simp at u1
        have hX7 := heap_setCell_same _ k5 1 _ _ (.int .i64 (x2 : Int)) hX6
        simp at hX7
        have hb10 : Below w2.heap.size w2 ((w9.setCell ⟨k5, 0, none⟩ (.int .i64 (x1 : Int))).setCell ⟨k5, 1, none⟩ (.int .i64 (x2 : Int))) := (hb9.setCell (by simp only; omega) _).setCell (by simp only; omega) _
        have H10 := Lib.hid (H2.out.step hb10)
        have HO10 := Lib.hid (HO2.out.trans (Only.of_below _ hb10))
        have HX7 := Lib.hid hX7
        have p3 := blk_cell H10.out.f 0
        have y0 := blk_cell hX7 0
        have y1 := blk_cell hX7 1
        simp at p3 y0 y1
        have hkg : gk < w2.heap.size := by
          have h1 := blk_ltB H2.out.s
          have h2 := H2.out.ks
          omega
        clear hb9 hb10 E10 Ho9 hX5 hX6 hX7 hs1 hs2 H2 HO2
        go_wp2_with fail
        refine (IH.out V1 q1' _ hm2 hl1 H10.out).mono ?_
        rintro e w11 ⟨rfl, V2, hvis, hmk, h11, ho11⟩
        have hm3 : Cir.unm V2 ≤ m := Nat.le_trans hvis.unm hm2
        have HX8 := Lib.hid ((ho11.block k5 (blk_ltB HX7.out) (fun e => by omega)).trans HX7.out)
        have H11 := Lib.hid h11
        have HO11 := Lib.hid (HO10.out.trans ho11)
        have Hvis := Lib.hid (And.intro hvis hmk)
        clear p3 y0 y1 f0 f1 u0 u1 hvis hmk h11 ho11 HX7 H10 HO10
        have p3 := blk_cell H11.out.f 0
        have y0 := blk_cell HX8.out 0
        have y1 := blk_cell HX8.out 1
        simp at p3 y0 y1
        go_wp2_with fail
        refine (IH.out V2 q2' _ hm3 hl2 H11.out).mono ?_
        rintro e w12 ⟨rfl, V3, hvis, hmk, h12, ho12⟩
        have hfin := Hstep.out V3 (Hvis.out.1.trans hvis) (by
          intro s hs
          rw [Hsu.out] at hs
          simp only [List.mem_cons, List.mem_nil_iff, or_false] at hs
          rcases hs with rfl | rfl
          · exact hvis.mono _ Hvis.out.2
          · exact hmk)
        have hO12 := HO11.out.trans ho12
        go_wp2_with fail
        exact bodyPost_end (v := .tuple #[]) (by simp [results, Try.results98, go_sem]) rfl ⟨rfl, V3, hfin.1, hfin.2, h12, hO12⟩
      · have dg : decide ((F : Int) ≤ (v : Int)) = false := decide_eq_false (by omega)
        have dgn : decide (F ≤ v) = false := decide_eq_false hge
        go_wp2_with fail
        refine (HLt.out _ v H2.out.b (by omega)).mono ?_
        rintro e w3 ⟨rfl, hb3⟩
        have H3 := Lib.hid (H2.out.step hb3)
        have HO3 := Lib.hid (HO2.out.trans (Only.of_below _ hb3))
        clear hb3 H2 HO2 p2
        have p2 := blk_cell H3.out.c 0
        simp at p2
        have hlat : Cir.latV d v = decide (d.ins < v) := by unfold Cir.latV; rw [HF.out, decide_eq_true (show v < F by omega), Bool.and_true]
        rw [hlat]
        clear hlat
        by_cases hl0 : d.ins < v
        · rw [decide_eq_true hl0]
          obtain ⟨k, hk⟩ : ∃ k, v - 1 - d.ins = k := ⟨_, rfl⟩
          have hvk : (v : Int) - 1 - (d.ins : Int) = (k : Int) := by omega
          have hkl : k < d.next.length := by have := HFe.out; omega
          have hwa : IntKind.i64.wrap ((v : Int) - 1) = (v : Int) - 1 := IntWalk.i64_in _ (by omega)
          have hwk : IntKind.i64.wrap ((v : Int) - 1 - (d.ins : Int)) = (k : Int) := by rw [hvk]; exact IntWalk.i64_in _ (by omega)
          obtain ⟨bq, o, rfl, hbl, hs⟩ := nat_cell R1.out H3.out.b rfl hkl
          have hsu : Cir.succs d v = [d.next.getD k 0 / 2] := by
            unfold Cir.succs
            rw [HF.out, if_neg hge, if_pos (by omega), hk]
          have hl1 := HSl.out v hv (d.next.getD k 0 / 2) (by rw [hsu]; simp)
          have t1 := tdiv_two (d.next.getD k 0)
          have Hsu := Lib.hid hsu
          clear hsu
          generalize d.next.getD k 0 = x at *
          obtain ⟨q1', hq1⟩ : ∃ q, x / 2 = q := ⟨_, rfl⟩
          rw [hq1] at t1 hl1 Hsu
          have hwq1 : IntKind.i64.wrap (q1' : Int) = (q1' : Int) := IntWalk.i64_in _ (by omega)
          have hbq : bq < w3.heap.size := Nat.lt_of_lt_of_le hbl H3.out.b.size
          clear hk hvk hq1
          go_wp2_with fail
          refine wp_region_rsl (quietRS Try.prog _ w3 _) quietRS_ok (by kernel_rfl) (by kernel_rfl) (by kernel_rfl) 15 _ rfl rfl (by kernel_rfl) (show (0 : Nat) < 15 by decide) trivial trivial ?_
          apply rs_eq quietRS_ok quiet_any
          · intro ρ w' ho hK
            have ho : Only _ w3 w' := ho
            obtain ⟨h0, -⟩ := hK
            have h0' : ρ (.tmp 3) = _ := h0
            have hb := only_below ho
            have hB := H3.out.step hb
            have k1 := blk_cell hB.c 0
            have k3 := blk_cell hB.f 0
            simp at k1 k3
            have k2 := (hB.b.cell (p := ⟨g, 1, none⟩) hg).trans C1.out
            have k4 := (hB.b.cell (p := ⟨g, 0, none⟩) hg).trans C0.out
            have e1 := (hb.cell (p := ⟨bq, o + k, none⟩) hbq).trans hs
            go_simp
            try exact rfl
          apply rs_eq quietRS_ok quiet_any
          · intro ρ w' ho hK
            have ho : Only _ w3 w' := ho
            obtain ⟨h0, -⟩ := hK
            have h0' : ρ (.tmp 2) = _ := h0
            have hb := only_below ho
            have hB := H3.out.step hb
            have k1 := blk_cell hB.c 0
            have k3 := blk_cell hB.f 0
            simp at k1 k3
            have k2 := (hB.b.cell (p := ⟨g, 1, none⟩) hg).trans C1.out
            have k4 := (hB.b.cell (p := ⟨g, 0, none⟩) hg).trans C0.out
            have e1 := (hb.cell (p := ⟨bq, o + k, none⟩) hbq).trans hs
            go_simp
            try exact rfl
          apply rs_eq quietRS_ok quiet_any
          · intro ρ w' ho hK
            have ho : Only _ w3 w' := ho
            obtain ⟨h0, -⟩ := hK
            have h0' : ρ (.tmp 43) = _ := h0
            go_simp
            try exact rfl
          apply rs_eq quietRS_ok quiet_any
          · intro ρ w' ho hK
            have ho : Only _ w3 w' := ho
            obtain ⟨h0, -⟩ := hK
            have h0' : ρ (.tmp 44) = _ := h0
            go_simp
            try exact rfl
          apply rs_eq quietRS_ok quiet_any
          · intro ρ w' ho hK
            have ho : Only _ w3 w' := ho
            obtain ⟨h0, -⟩ := hK
            have h0' : ρ (.tmp 45) = _ := h0
            have hb := only_below ho
            have hB := H3.out.step hb
            have k1 := blk_cell hB.c 0
            have k3 := blk_cell hB.f 0
            simp at k1 k3
            have k2 := (hB.b.cell (p := ⟨g, 1, none⟩) hg).trans C1.out
            have k4 := (hB.b.cell (p := ⟨g, 0, none⟩) hg).trans C0.out
            have e1 := (hb.cell (p := ⟨bq, o + k, none⟩) hbq).trans hs
            go_simp
            try exact rfl
          refine rs_old quietRS_ok quiet_any _ (.inl rfl) _ rfl rfl ?_
          apply rs_eq quietRS_ok quiet_any
          · intro ρ w' ho hK
            have ho : Only _ w3 w' := ho
            obtain ⟨h0, h1, -⟩ := hK
            have h0' : ρ (.tmp 47) = _ := h0
            have h1' : ρ (.const (Value.int IntKind.i64 1)) = (Value.int IntKind.i64 1) := h1
            go_simp
            try exact rfl
          apply rs_eq quietRS_ok quiet_any
          · intro ρ w' ho hK
            have ho : Only _ w3 w' := ho
            obtain ⟨h0, -⟩ := hK
            have h0' : ρ (.tmp 2) = _ := h0
            have hb := only_below ho
            have hB := H3.out.step hb
            have k1 := blk_cell hB.c 0
            have k3 := blk_cell hB.f 0
            simp at k1 k3
            have k2 := (hB.b.cell (p := ⟨g, 1, none⟩) hg).trans C1.out
            have k4 := (hB.b.cell (p := ⟨g, 0, none⟩) hg).trans C0.out
            have e1 := (hb.cell (p := ⟨bq, o + k, none⟩) hbq).trans hs
            go_simp
            try exact rfl
          apply rs_eq quietRS_ok quiet_any
          · intro ρ w' ho hK
            have ho : Only _ w3 w' := ho
            obtain ⟨h0, -⟩ := hK
            have h0' : ρ (.tmp 49) = _ := h0
            go_simp
            try exact rfl
          apply rs_eq quietRS_ok quiet_any
          · intro ρ w' ho hK
            have ho : Only _ w3 w' := ho
            obtain ⟨h0, -⟩ := hK
            have h0' : ρ (.tmp 50) = _ := h0
            go_simp
            try exact rfl
          apply rs_eq quietRS_ok quiet_any
          · intro ρ w' ho hK
            have ho : Only _ w3 w' := ho
            obtain ⟨h0, -⟩ := hK
            have h0' : ρ (.tmp 51) = _ := h0
            have hb := only_below ho
            have hB := H3.out.step hb
            have k1 := blk_cell hB.c 0
            have k3 := blk_cell hB.f 0
            simp at k1 k3
            have k2 := (hB.b.cell (p := ⟨g, 1, none⟩) hg).trans C1.out
            have k4 := (hB.b.cell (p := ⟨g, 0, none⟩) hg).trans C0.out
            have e1 := (hb.cell (p := ⟨bq, o + k, none⟩) hbq).trans hs
            go_simp
            try exact rfl
          apply rs_eq quietRS_ok quiet_any
          · intro ρ w' ho hK
            have ho : Only _ w3 w' := ho
            obtain ⟨h0, h1, -⟩ := hK
            have h0' : ρ (.tmp 48) = _ := h0
            have h1' : ρ (.tmp 52) = _ := h1
            go_simp
            try exact rfl
          apply rs_eq quietRS_ok quiet_any
          · intro ρ w' ho hK
            have ho : Only _ w3 w' := ho
            obtain ⟨h0, h1, -⟩ := hK
            have h0' : ρ (.tmp 46) = _ := h0
            have h1' : ρ (.tmp 53) = _ := h1
            go_simp
            try exact rfl
          apply rs_eq quietRS_ok quiet_any
          · intro ρ w' ho hK
            have ho : Only _ w3 w' := ho
            obtain ⟨h0, -⟩ := hK
            have h0' : ρ (.tmp 54) = _ := h0
            have hb := only_below ho
            have hB := H3.out.step hb
            have k1 := blk_cell hB.c 0
            have k3 := blk_cell hB.f 0
            simp at k1 k3
            have k2 := (hB.b.cell (p := ⟨g, 1, none⟩) hg).trans C1.out
            have k4 := (hB.b.cell (p := ⟨g, 0, none⟩) hg).trans C0.out
            have e1 := (hb.cell (p := ⟨bq, o + k, none⟩) hbq).trans hs
            go_simp
            try exact rfl
          apply rs_eq quietRS_ok quiet_any
          · intro ρ w' ho hK
            have ho : Only _ w3 w' := ho
            obtain ⟨h0, h1, -⟩ := hK
            have h0' : ρ (.tmp 55) = _ := h0
            have h1' : ρ (.const (Value.int IntKind.i64 2)) = (Value.int IntKind.i64 2) := h1
            go_simp
            try exact rfl
          intro f w9 k9 hk9 hI9 ht9 hcp9
          have E0 : f 0 = _ := ht9 0 (Nat.le_of_ble_eq_true rfl)
          have E1 : f 1 = _ := ht9 1 (Nat.le_of_ble_eq_true rfl)
          have E2 : f 2 = _ := ht9 2 (Nat.le_of_ble_eq_true rfl)
          have E3 : f 3 = _ := ht9 3 (Nat.le_of_ble_eq_true rfl)
          have E4 : f 4 = _ := ht9 4 (Nat.le_of_ble_eq_true rfl)
          have E5 : f 5 = _ := ht9 5 (Nat.le_of_ble_eq_true rfl)
          conv at E5 => rhs; whnf
          have E6 : f 6 = _ := ht9 6 (Nat.le_of_ble_eq_true rfl)
          have E7 : f 7 = _ := ht9 7 (Nat.le_of_ble_eq_true rfl)
          have E8 : f 8 = _ := ht9 8 (Nat.le_of_ble_eq_true rfl)
          have E9 : f 9 = _ := ht9 9 (Nat.le_of_ble_eq_true rfl)
          have E10 : f 10 = _ := ht9 10 (Nat.le_of_ble_eq_true rfl)
          have E11 : f 11 = _ := ht9 11 (Nat.le_of_ble_eq_true rfl)
          have E12 : f 12 = _ := ht9 12 (Nat.le_of_ble_eq_true rfl)
          have E13 : f 13 = _ := ht9 13 (Nat.le_of_ble_eq_true rfl)
          have E14 : f 14 = _ := ht9 14 (Nat.le_of_ble_eq_true rfl)
          have Ho9 : Only _ w3 w9 := hI9.2.1
          simp only [putAll, E0, E1, E2, E3, E4, E5, E6, E7, E8, E9, E10, E11, E12, E13, E14, Nat.zero_add, Nat.reduceAdd, Act.put, List.setIfInBounds_toArray, List.set_cons_succ, List.set_cons_zero, List.take, List.getElem_toArray, List.getElem_cons_succ, List.getElem_cons_zero]
          clear E0 E1 E2 E3 E4 E5 E6 E7 E8 E9 E10 E11 E12 E13 E14
          clear hI9 ht9 hcp9 hk9
          have hb9 := only_below Ho9
          have H9 := Lib.hid (H3.out.step hb9)
          have HO9 := Lib.hid (HO3.out.trans (Only.of_below _ hb9))
          clear hb9 Ho9 H3 HO3 hs p2
          go_wp2_with fail
          refine (IH.out V1 q1' _ hm2 hl1 H9.out).mono ?_
          rintro e w12 ⟨rfl, V3, hvis, hmk, h12, ho12⟩
          have hfin := Hstep.out V3 hvis (by
            intro s hs
            rw [Hsu.out] at hs
            simp only [List.mem_cons, List.mem_nil_iff, or_false] at hs
            rw [hs]
            exact hmk)
          have hO12 := HO9.out.trans ho12
          go_wp2_with fail
          exact bodyPost_end (v := .tuple #[]) (by simp [results, Try.results98, go_sem]) rfl ⟨rfl, V3, hfin.1, hfin.2, h12, hO12⟩
        · rw [decide_eq_false hl0]
          have hsu : Cir.succs d v = [] := by
            unfold Cir.succs
            rw [HF.out, if_neg hge, if_neg (by omega)]
          have hfin := Hstep.out V1 (Cir.Vis.refl d V1) (by
            intro s hs
            rw [hsu] at hs
            cases hs)
          go_wp2_with fail
          exact bodyPost_end (v := .tuple #[]) (by simp [results, Try.results98, go_sem]) rfl ⟨rfl, V1, hfin.1, hfin.2, H3.out, HO3.out⟩
end Go.Proofs.Ytdgminjbgjbamaa
namespace Go.Proofs.Ytdgminjbgjbamaa
open Go.RowKit Go.Maps
theorem needed_any (g : Nat) (d : Ci) (w : World) (h : PCirc w g (Cir.toCz d)) (hd : Cir.Ok d) :
    Calls Try.prog 66 #[.pointer (some ⟨g, 0, none⟩)] w fun e w' => ∃ v V, e = .returned v ∧ w'.ownsRow w.heap.size 4 1 v (Cir.nvars d) (bools V) ∧ V.length = Cir.nvars d ∧ Cir.Needs d V ∧ Below w.heap.size w w' := by
  have s1 := hd.ins
  have s2 := hd.nexts
  have s3 := hd.gatess
  have s4 := hd.outss
  have HVi := Lib.hid (visit_any w g · · · · d h hd)
  have HNe := Lib.hid (fun (V : List Bool) => Cir.needs_of (d := d) (V := V))
  have HVa : Hid (∀ w', Below w.heap.size w w' → Calls Try.prog 67 #[.pointer (some ⟨g, 0, none⟩)] w' fun e w'' => e = .returned (.int .i64 (Cir.nvars d : Nat)) ∧ Below w'.heap.size w' w'') := Lib.hid fun w' hb => by
    have := vars_any g _ w' (h.below hb) (by show (0 : Int) ≤ (d.ins : Int); omega) (by show (d.ins : Int) ≤ 100; omega) (by show (List.map _ _).length ≤ 100; rw [List.length_map]; omega) (by show (List.map _ _).length ≤ 100; rw [List.length_map]; omega)
    rwa [Cir.vars_toCz] at this
  have HOl := Lib.hid hd.out
  have hol : (Cir.toCz d).outs.length = d.outs.length := List.length_map _
  obtain ⟨vn, vg, vo, hg, c0, c1, c2, c3, r1, r2, r3⟩ := h
  obtain ⟨Ao, co, rfl, -, -⟩ := Row.shape r3
  rw [hol] at c3
  have R3 : Hid (Row w 1 (.slice Ao d.outs.length co) d.outs.length (ints (d.outs.map Int.ofNat))) := Lib.hid (by have := r3; unfold IntsAt at this; rwa [hol] at this)
  have C3 := Lib.hid c3
  have hnd : Cir.nvars d = 1 + d.ins + d.next.length + d.gates.length := rfl
  obtain ⟨n, hn⟩ : ∃ n, Cir.nvars d = n := ⟨_, rfl⟩
  rw [hn] at HVi HNe HVa HOl hnd ⊢
  have hnb : n ≤ 22 := by omega
  have hn0 : 0 < n := by omega
  have hmk := run_make_row' (P := Try.prog) 64 4 (.bool false) 1 Try.underlying64 info_bool rfl .i64 .i64 n (by omega) (by omega)
  have hb1 := bel_new w (.cells #[.pointer (some ⟨g, 0, none⟩)] 61)
  have hc1 := heap_alloc_new w (.cells #[.pointer (some ⟨g, 0, none⟩)] 61)
  have p1 := blk_cell hc1 0
  simp at p1
  have hz1 : (w.alloc (.cells #[.pointer (some ⟨g, 0, none⟩)] 61)).heap.size = w.heap.size + 1 := by simp
  clear c0 c1 c2 c3 r1 r2 r3 hd hol hn hnd
  go_enter Try.func66, Try.ntmps66
  go_wp2_with fail
  refine (HVa.out _ hb1).mono ?_
  rintro e w2 ⟨rfl, hb2⟩
  have hz2 := hb2.size
  have hO3 : (w2.alloc (.cells (madeCells #[Value.bool false] n) 4)).ownsRow w2.heap.size 4 1 (.slice (some ⟨w2.heap.size, 0, none⟩) n n) n (bools (List.replicate n false)) := by
    have h := World.ownsRow_lit (base := w2.heap.size) (e := 4) (size := 1) w2 (madeCells #[Value.bool false] n) n (Nat.le_refl _) (by unfold maxLen; omega) (by simp [madeCells])
    have e : (madeCells #[Value.bool false] n).toList = bools (List.replicate n false) := by simp [madeCells, bools, Nat.mod_one, List.map_const']
    rwa [e] at h
  have hb3 := bel_new w2 (.cells (madeCells #[Value.bool false] n) 4)
  obtain ⟨gk, hgk⟩ : ∃ gk, w2.heap.size = gk := ⟨_, rfl⟩
  obtain ⟨gs, hgs⟩ : ∃ gs, gk + 1 = gs := ⟨_, rfl⟩
  obtain ⟨gf, hgf⟩ : ∃ gf, gs + 1 = gf := ⟨_, rfl⟩
  obtain ⟨gc, hgc⟩ : ∃ gc, w.heap.size = gc := ⟨_, rfl⟩
  have hz3 : (w2.alloc (.cells (madeCells #[Value.bool false] n) 4)).heap.size = gs := by rw [World.size_alloc, hgk, hgs]
  obtain ⟨W3, hW3⟩ : ∃ W, w2.alloc (.cells (madeCells #[Value.bool false] n) 4) = W := ⟨_, rfl⟩
  rw [hW3] at hO3 hb3 hz3
  rw [hgk] at hO3
  have hb4 := bel_new W3 (.cells #[.slice (some ⟨gk, 0, none⟩) n n] 64)
  have hk4 := heap_alloc_new W3 (.cells #[.slice (some ⟨gk, 0, none⟩) n n] 64)
  have hz4 : (W3.alloc (.cells #[.slice (some ⟨gk, 0, none⟩) n n] 64)).heap.size = gf := by rw [World.size_alloc, hz3, hgf]
  rw [hz3] at hk4
  obtain ⟨W4, hW4⟩ : ∃ W, W3.alloc (.cells #[.slice (some ⟨gk, 0, none⟩) n n] 64) = W := ⟨_, rfl⟩
  rw [hW4] at hb4 hk4 hz4
  have hb5 := bel_new W4 (.cells #[.nilFunc] 120)
  have hk5 := heap_alloc_new W4 (.cells #[.nilFunc] 120)
  have hz5 : (W4.alloc (.cells #[.nilFunc] 120)).heap.size = gf + 1 := by rw [World.size_alloc, hz4]
  rw [hz4] at hk5
  obtain ⟨W5, hW5⟩ : ∃ W, W4.alloc (.cells #[.nilFunc] 120) = W := ⟨_, rfl⟩
  rw [hW5] at hb5 hk5 hz5
  have u5 := blk_cell hk5 0
  have f5 := blk_free hk5 0
  simp at u5
  obtain ⟨vf, hvf⟩ : ∃ vf, vf = Value.func (.func 98) #[] #[.pointer (some ⟨gs, 0, none⟩), .pointer (some ⟨gc, 0, none⟩), .pointer (some ⟨gf, 0, none⟩)] := ⟨_, rfl⟩
  have hk6 := heap_setCell_same W5 gf 0 _ _ vf hk5
  simp at hk6
  have hz2k : w.heap.size + 1 ≤ gk := by rw [← hgk, ← hz1]; exact hz2
  have hb25 : Below w2.heap.size w2 W5 := (hb3.trans (hb4.mono hb3.size)).trans (hb5.mono (by omega))
  have hB5 : Below w.heap.size w W5 := (hb1.trans (hb2.mono hb1.size)).trans (hb25.mono (by omega))
  have hc5 := (hb25.block w.heap.size (by omega)).trans ((hb2.block w.heap.size (by omega)).trans hc1)
  have hs5 := (hb5.block gs (by omega)).trans hk4
  have hO5 := own_below (own_below hO3 hb4) hb5
  have H6 : NedB w g gc gs gf gk n (List.replicate n false) (W5.setCell ⟨gf, 0, none⟩ vf) :=
    ⟨hB5.setCell (by simp only; omega) _, (heap_setCell_other' _ _ _ _ _ (by omega)).trans hs5, (heap_setCell_other' _ _ _ _ _ (by omega)).trans (by rw [← hgc]; exact hc5), by rw [hk6, hvf], own_setN hO5 (fun e => by have := Option.some.inj e; simp only at this; omega), by omega, by omega, by omega, by omega, by simp⟩
  have p6 := blk_cell H6.c 0
  have k6 := (H6.b.cell (p := ⟨g, 3, none⟩) hg).trans C3.out
  simp at p6
  have H6' := Lib.hid H6
  subst hvf
  have HW := Lib.hid (And.intro hW3 (And.intro hW4 hW5))
  have Hgs := Lib.hid (And.intro hgk (And.intro hgs (And.intro hgf hgc)))
  have hgce : w.heap.size = gc := hgc
  clear hb1 hb2 hb3 hb4 hb5 hb25 hB5 hc1 hc5 hs5 hO3 hO5 hk4 hk5 hk6 hz3 hz4 hz5 H6 hW3 hW4 hW5 hgk hgs hgf hgc hz2 hz2k hz1
  go_wp2_with fail
  clear hmk p1
  rw [Hgs.out.1, Hgs.out.2.1, Hgs.out.2.2.1, HW.out.1, HW.out.2.1, HW.out.2.2]
  rw [run_store _ _ _ _ _ rfl]
  go_simp
  go_wp2_with fail
  clear p6 k6 u5 f5 hgce
  generalize W5.setCell ⟨gf, 0, none⟩ (.func (.func 98) #[] #[.pointer (some ⟨gs, 0, none⟩), .pointer (some ⟨gc, 0, none⟩), .pointer (some ⟨gf, 0, none⟩)]) = W6 at *
  go_loopw [16] (fun i wr => ∃ (k : Nat) (V : List Bool), k ≤ d.outs.length ∧ i = .int .i64 k ∧ Hid (NedB w g gc gs gf gk n V wr) ∧ Hid (Cir.Vis d (List.replicate n false) V) ∧ Hid (∀ l ∈ d.outs.take k, V.getD (l / 2) false = true)) (fun i _ => d.outs.length - (intOf i).toNat)
  case atStart => exact ⟨0, _, Nat.zero_le _, rfl, H6', Lib.hid (Cir.Vis.refl _ _), Lib.hid (fun l hl => by cases hl)⟩
  case round =>
    obtain ⟨k, V, hk, rfl, HN, HV, HM⟩ := hrel
    clear H6'
    by_cases hlt : k < d.outs.length
    · obtain ⟨l, hl⟩ := at_some hlt
      have hl2 := HOl.out l (List.mem_of_getElem? hl)
      obtain ⟨bq, o, rfl, hbl, hs⟩ := nat_cell R3.out HN.out.b rfl hlt
      have hlD : d.outs.getD k 0 = l := by rw [List.getD_eq_getElem?_getD, hl, Option.getD_some]
      rw [hlD] at hs
      have Hl := Lib.hid hl
      have p4 := blk_cell HN.out.f 0
      simp at p4
      have hq := tdiv_two l
      obtain ⟨q, hqe⟩ : ∃ q, l / 2 = q := ⟨_, rfl⟩
      rw [hqe] at hq
      have hwq : IntKind.i64.wrap (q : Int) = (q : Int) := IntWalk.i64_in _ (by omega)
      have hqn : q < n := by omega
      have Hqe := Lib.hid hqe
      clear hl hlD hbl hqe
      go_wp2_with fail
      refine (HVi.out gc gs gf gk (Cir.unm V) V q _ (Nat.le_refl _) hqn HN.out).mono ?_
      rintro e w7 ⟨rfl, V2, hvis, hmk2, h7, -⟩
      have H7 := Lib.hid h7
      have HV2 := Lib.hid (HV.out.trans hvis)
      have HM2 : Hid (∀ l ∈ d.outs.take (k + 1), V2.getD (l / 2) false = true) := Lib.hid fun l' hl' => by
        rw [take_snoc Hl.out, List.mem_append, List.mem_singleton] at hl'
        rcases hl' with hl' | rfl
        · exact hvis.mono _ (HM.out l' hl')
        · rw [Hqe.out]; exact hmk2
      clear hvis hmk2 h7 HM HV HN hs p4
      go_wp2_with fail
      go_roundw
      case rel => exact ⟨k + 1, V2, by omega, by go_num, H7, HV2, HM2⟩
      case measure => simp [intOf] <;> omega
    · obtain rfl : k = d.outs.length := by omega
      rw [List.take_length] at HM
      have p4 := blk_cell HN.out.s 0
      simp at p4
      have hown := HN.out.k
      go_wp2_with fail
      go_ret
      exact ⟨_, V, rfl, own_mono hown (by have h1 := HN.out.lc; have h2 := HN.out.ck; omega), HN.out.len, HNe.out V HV.out HM.out, HN.out.b⟩
end Go.Proofs.Ytdgminjbgjbamaa
namespace Go.Proofs.Ytdgminjbgjbamaa
open Go.RowKit Go.Maps
namespace Cir
def remP1 (d : Ci) (V : List Bool) (v : Nat) : Nat := if v < nfirst d then remP d V v else 0
def remK (d : Ci) (V : List Bool) (v : Nat) : Nat := 1 + d.ins + (keptI (1 + d.ins) V (min v (nfirst d) - (1 + d.ins))).length
def rowF (f : Nat → Nat) (n v : Nat) : List Nat := (List.range v).map f ++ List.replicate (n - v) 0
theorem rowF_length (f : Nat → Nat) {n v : Nat} (h : v ≤ n) : (rowF f n v).length = n := by unfold rowF; simp; omega
theorem rowF_set {f : Nat → Nat} {n v x : Nat} (hv : v < n) (hx : x = f v) : (rowF f n v).set v x = rowF f n (v + 1) := by
  subst hx
  unfold rowF
  have e : List.replicate (n - v) 0 = 0 :: List.replicate (n - (v + 1)) 0 := by
    rw [show n - v = (n - (v + 1)) + 1 from by omega, List.replicate_succ]
  rw [e, List.range_succ, List.set_append_right _ _ (by simp)]
  simp
theorem rowF_zero {f : Nat → Nat} {n v : Nat} (hv : v < n) (hx : f v = 0) : rowF f n v = rowF f n (v + 1) := by
  unfold rowF
  have e : List.replicate (n - v) 0 = 0 :: List.replicate (n - (v + 1)) 0 := by
    rw [show n - v = (n - (v + 1)) + 1 from by omega, List.replicate_succ]
  rw [e, List.range_succ]
  simp [hx]
theorem rowF_full (f : Nat → Nat) (n : Nat) : rowF f n n = (List.range n).map f := by unfold rowF; simp
theorem rowF_first {d : Ci} {V : List Bool} {n : Nat} (h : nfirst d ≤ n) : rowF (remP1 d V) n n = rowF (remP d V) n (nfirst d) := by
  unfold rowF
  have e : List.range n = List.range (nfirst d) ++ (List.range (n - nfirst d)).map (nfirst d + ·) := by
    have := List.range_add (n := nfirst d) (m := n - nfirst d)
    rwa [show nfirst d + (n - nfirst d) = n from by omega] at this
  rw [Nat.sub_self, List.replicate_zero, List.append_nil, e, List.map_append]
  congr 1
  · refine List.map_congr_left fun v hv => ?_
    unfold remP1
    rw [if_pos (List.mem_range.1 hv)]
  · rw [List.map_map, List.map_congr_left (g := fun _ => 0) (fun v _ => by
      show remP1 d V (nfirst d + v) = 0
      unfold remP1
      rw [if_neg (by omega)]), List.map_const', List.length_range]
theorem remK_in {d : Ci} {V : List Bool} {v : Nat} (h : v < 1 + d.ins) : remK d V (v + 1) = remK d V v := by
  unfold remK
  rw [show min (v + 1) (nfirst d) - (1 + d.ins) = 0 from by omega, show min v (nfirst d) - (1 + d.ins) = 0 from by omega]
theorem remK_out {d : Ci} {V : List Bool} {v : Nat} (h : nfirst d ≤ v) : remK d V (v + 1) = remK d V v := by
  unfold remK
  rw [show min (v + 1) (nfirst d) = min v (nfirst d) from by omega]
theorem remK_yes {d : Ci} {V : List Bool} {v : Nat} (h1 : 1 + d.ins ≤ v) (h2 : v < nfirst d) (hk : V.getD v false = true) : remK d V (v + 1) = remK d V v + 1 ∧ remP1 d V v = remK d V v := by
  have hs := keptI_succ (1 + d.ins) V (v - (1 + d.ins))
  rw [show 1 + d.ins + (v - (1 + d.ins)) = v from by omega, if_pos hk] at hs
  unfold remK remP1 remP
  rw [show min (v + 1) (nfirst d) - (1 + d.ins) = v - (1 + d.ins) + 1 from by omega, show min v (nfirst d) - (1 + d.ins) = v - (1 + d.ins) from by omega, hs, if_pos h2, if_neg (by omega), if_pos h2, if_pos hk]
  simp
  omega
theorem remK_no {d : Ci} {V : List Bool} {v : Nat} (h1 : 1 + d.ins ≤ v) (h2 : v < nfirst d) (hk : V.getD v false = false) : remK d V (v + 1) = remK d V v ∧ remP1 d V v = 0 := by
  have hs := keptI_succ (1 + d.ins) V (v - (1 + d.ins))
  rw [show 1 + d.ins + (v - (1 + d.ins)) = v from by omega, if_neg (by rw [hk]; simp)] at hs
  unfold remK remP1 remP
  rw [show min (v + 1) (nfirst d) - (1 + d.ins) = v - (1 + d.ins) + 1 from by omega, show min v (nfirst d) - (1 + d.ins) = v - (1 + d.ins) from by omega, hs, if_pos h2, if_neg (by omega), if_pos h2, if_neg (by rw [hk]; simp)]
  simp
theorem remK_le {d : Ci} {V : List Bool} {v : Nat} : remK d V v ≤ 1 + d.ins + d.next.length := by
  unfold remK
  have := keptI_le (1 + d.ins) V (min v (nfirst d) - (1 + d.ins))
  have hf : nfirst d = 1 + d.ins + d.next.length := rfl
  omega
theorem remK_end {d : Ci} {V : List Bool} {n v : Nat} (hn : nfirst d ≤ n) (hv : nfirst d ≤ v) : remP d V v = remK d V n + (v - nfirst d) := by
  have hf : nfirst d = 1 + d.ins + d.next.length := rfl
  unfold remP remK
  rw [if_neg (by omega), if_neg (by omega), show min n (nfirst d) - (1 + d.ins) = d.next.length from by omega]
theorem remP_le {d : Ci} {V : List Bool} {v : Nat} : remP d V v ≤ 1 + d.ins + d.next.length + v := by
  unfold remP
  have := keptI_le (1 + d.ins) V (v - (1 + d.ins))
  have := keptI_le (1 + d.ins) V d.next.length
  split
  · omega
  · split
    · split <;> omega
    · omega
end Cir
theorem nints_set (l : List Nat) (i x : Nat) : (nints l).set i (.int .i64 (x : Nat)) = nints (l.set i x) := by
  unfold nints ints nats
  rw [List.map_map, List.map_map, List.map_set]
  rfl
structure RmA (W2 : World) (gs gx gp gk n ck : Nat) (ins : Int) (V : List Bool) (row : List Nat) (wr : World) : Prop where
  b : Below W2.heap.size W2 wr
  s : wr.heap[gs]? = some (.cells #[.slice (some ⟨gp, 0, none⟩) n n] 23 (0, 0))
  o : wr.heap[gx]? = some (.cells #[.int .i64 ins, .slice none 0 0, .slice none 0 0, .slice none 0 0] 26 (0, 0))
  m : wr.ownsRow W2.heap.size 3 1 (.slice (some ⟨gp, 0, none⟩) n n) n (nints row)
  k : wr.ownsRow W2.heap.size 4 1 (.slice (some ⟨gk, 0, none⟩) n ck) n (bools V)
section
variable {W2 wr w' : World} {gs gx gp gk n ck : Nat} {ins : Int} {V : List Bool} {row : List Nat}
theorem RmA.step (h : RmA W2 gs gx gp gk n ck ins V row wr) (hb : Below wr.heap.size wr w') : RmA W2 gs gx gp gk n ck ins V row w' :=
  ⟨h.b.trans (hb.mono h.b.size), (hb.block gs (blk_ltB h.s)).trans h.s, (hb.block gx (blk_ltB h.o)).trans h.o, own_below h.m hb, own_below h.k hb⟩
theorem RmA.set (h : RmA W2 gs gx gp gk n ck ins V row wr) (hn : 0 < n) (v x : Nat) : RmA W2 gs gx gp gk n ck ins V (row.set v x) (wr.setCell ⟨gp, v, none⟩ (.int .i64 (x : Nat))) := by
  have e1 : gs ≠ gp := fun e => own_ne_tag h.m h.s (by decide) (by rw [e]; rfl)
  have e2 : gx ≠ gp := fun e => own_ne_tag h.m h.o (by decide) (by rw [e]; rfl)
  have l1 := (h.m.lt gp rfl).1
  have hs := h.m.stored v (.int .i64 (x : Nat))
  rw [nints_set] at hs
  exact ⟨h.b.setCell (by simp only; omega) _, (heap_setCell_other' _ _ _ _ _ e1).trans h.s, (heap_setCell_other' _ _ _ _ _ e2).trans h.o, hs.1, own_setN h.k (fun e => own_ne_own h.k h.m (by decide) e rfl)⟩
end
structure RmB (w W2 : World) (gC gR gx gs gp gk n ck : Nat) (ins : Int) (cn cg co vN vG vO : Value) (V : List Bool) (M N O : List Nat) (G : List (Nat × Nat)) (wr : World) : Prop where
  x : Bx w W2.heap.size gC gR gx ins cn cg co (.slice (some ⟨gp, 0, none⟩) n n) vN vG vO M N O G wr
  b : Below W2.heap.size W2 wr
  s : wr.heap[gs]? = some (.cells #[.slice (some ⟨gp, 0, none⟩) n n] 23 (0, 0))
  k : wr.ownsRow W2.heap.size 4 1 (.slice (some ⟨gk, 0, none⟩) n ck) n (bools V)
  sx : gs ≠ gx
  lx : W2.heap.size ≤ gx
section
variable {w W2 wr w' w9 : World} {gC gR gx gs gp gk n ck y z : Nat} {ins : Int} {cn cg co vN vG vO v' : Value} {V : List Bool} {M N O : List Nat} {G : List (Nat × Nat)}
theorem RmB.step (h : RmB w W2 gC gR gx gs gp gk n ck ins cn cg co vN vG vO V M N O G wr) (hb : Below wr.heap.size wr w') : RmB w W2 gC gR gx gs gp gk n ck ins cn cg co vN vG vO V M N O G w' :=
  ⟨h.x.step hb, h.b.trans (hb.mono h.b.size), (hb.block gs (blk_ltB h.s)).trans h.s, own_below h.k hb, h.sx, h.lx⟩
theorem RmB.mid {tX sX nX : Nat} {vX : Value} {cs : List Value} (h : RmB w W2 gC gR gx gs gp gk n ck ins cn cg co vN vG vO V M N O G wr) (hX : wr.ownsRow W2.heap.size tX sX vX nX cs) (t1 : tX ≠ 23) (t2 : 4 ≠ tX) (ho : Only (fun g => vX.ownBlock = some g) wr w') :
    w'.heap[gs]? = some (.cells #[.slice (some ⟨gp, 0, none⟩) n n] 23 (0, 0)) ∧ w'.ownsRow W2.heap.size 4 1 (.slice (some ⟨gk, 0, none⟩) n ck) n (bools V) ∧ Below W2.heap.size W2 w' :=
  ⟨(ho.block gs (blk_ltB h.s) (fun e => own_ne_tag hX h.s t1 e)).trans h.s, own_only h.k ho (fun g hg e => own_ne_own h.k hX t2 hg e), Only.below h.b ho h.b.size (fun q hq => (hX.lt q hq).1)⟩
theorem RmB.midN (h : RmB w W2 gC gR gx gs gp gk n ck ins cn cg co vN vG vO V M N O G wr) (ho : Only (fun g => vN.ownBlock = some g) wr w') :
    w'.heap[gs]? = some (.cells #[.slice (some ⟨gp, 0, none⟩) n n] 23 (0, 0)) ∧ w'.ownsRow W2.heap.size 3 1 (.slice (some ⟨gp, 0, none⟩) n n) M.length (nints M) ∧ w'.ownsRow W2.heap.size 4 1 (.slice (some ⟨gk, 0, none⟩) n ck) n (bools V) ∧ Below W2.heap.size W2 w' := by
  obtain ⟨a, b, c⟩ := h.mid h.x.n (by decide) (by decide) ho
  exact ⟨a, own_only h.x.m ho (fun g h2 h3 => h.x.mn g h2 h3), b, c⟩
theorem RmB.midO (h : RmB w W2 gC gR gx gs gp gk n ck ins cn cg co vN vG vO V M N O G wr) (ho : Only (fun g => vO.ownBlock = some g) wr w') :
    w'.heap[gs]? = some (.cells #[.slice (some ⟨gp, 0, none⟩) n n] 23 (0, 0)) ∧ w'.ownsRow W2.heap.size 3 1 (.slice (some ⟨gp, 0, none⟩) n n) M.length (nints M) ∧ w'.ownsRow W2.heap.size 4 1 (.slice (some ⟨gk, 0, none⟩) n ck) n (bools V) ∧ Below W2.heap.size W2 w' := by
  obtain ⟨a, b, c⟩ := h.mid h.x.o (by decide) (by decide) ho
  exact ⟨a, own_only h.x.m ho (fun g h2 h3 => h.x.mo g h2 h3), b, c⟩
theorem RmB.midG (h : RmB w W2 gC gR gx gs gp gk n ck ins cn cg co vN vG vO V M N O G wr) (ho : Only (fun g => vG.ownBlock = some g) wr w') :
    w'.heap[gs]? = some (.cells #[.slice (some ⟨gp, 0, none⟩) n n] 23 (0, 0)) ∧ w'.ownsRow W2.heap.size 3 1 (.slice (some ⟨gp, 0, none⟩) n n) M.length (nints M) ∧ w'.ownsRow W2.heap.size 4 1 (.slice (some ⟨gk, 0, none⟩) n ck) n (bools V) ∧ Below W2.heap.size W2 w' := by
  obtain ⟨a, b, c⟩ := h.mid h.x.g (by decide) (by decide) ho
  exact ⟨a, own_only h.x.m ho (fun g h2 h3 => own_ne_own h.x.m h.x.g (by decide) h2 h3), b, c⟩
theorem RmB.appN (h : RmB w W2 gC gR gx gs gp gk n ck ins cn cg co vN vG vO V M N O G wr) (own : w9.ownsRow W2.heap.size 3 1 v' (N.length + 1) (nints N ++ [.int .i64 (y : Int)])) (ho : Only (fun g => vN.ownBlock = some g) wr w9) (hat : ∀ g, v'.ownBlock = some g → vN.ownBlock = some g ∨ wr.heap.size ≤ g) : RmB w W2 gC gR gx gs gp gk n ck ins cn cg co v' vG vO V M (N ++ [y]) O G (w9.setCell ⟨gx, 1, none⟩ v') := by
  obtain ⟨a, b, c, e⟩ := h.midN ho
  have hx := (h.x.rowN ho).2.2.1
  exact ⟨h.x.appN own ho hat, e.setCell (by simp only; exact h.lx) _, (heap_setCell_other' _ _ _ _ _ h.sx).trans a, own_setN c (fun e => own_ne_tag c hx (by decide) e), h.sx, h.lx⟩
theorem RmB.appO (h : RmB w W2 gC gR gx gs gp gk n ck ins cn cg co vN vG vO V M N O G wr) (own : w9.ownsRow W2.heap.size 3 1 v' (O.length + 1) (nints O ++ [.int .i64 (y : Int)])) (ho : Only (fun g => vO.ownBlock = some g) wr w9) (hat : ∀ g, v'.ownBlock = some g → vO.ownBlock = some g ∨ wr.heap.size ≤ g) : RmB w W2 gC gR gx gs gp gk n ck ins cn cg co vN vG v' V M N (O ++ [y]) G (w9.setCell ⟨gx, 3, none⟩ v') := by
  obtain ⟨a, b, c, e⟩ := h.midO ho
  have hx := (h.x.rowO ho).2.2.1
  exact ⟨h.x.appO own ho hat, e.setCell (by simp only; exact h.lx) _, (heap_setCell_other' _ _ _ _ _ h.sx).trans a, own_setN c (fun e => own_ne_tag c hx (by decide) e), h.sx, h.lx⟩
theorem RmB.appG (h : RmB w W2 gC gR gx gs gp gk n ck ins cn cg co vN vG vO V M N O G wr) (own : w9.ownsRow W2.heap.size 72 2 v' (G.length + 1) (cubes (gz G) ++ [.int .i64 (y : Int), .int .i64 (z : Int)])) (ho : Only (fun g => vG.ownBlock = some g) wr w9) : RmB w W2 gC gR gx gs gp gk n ck ins cn cg co vN v' vO V M N O (G ++ [(y, z)]) (w9.setCell ⟨gx, 2, none⟩ v') := by
  obtain ⟨a, b, c, e⟩ := h.midG ho
  have hx := (h.x.rowG ho).2.2.1
  exact ⟨h.x.appG own ho, e.setCell (by simp only; exact h.lx) _, (heap_setCell_other' _ _ _ _ _ h.sx).trans a, own_setN c (fun e => own_ne_tag c hx (by decide) e), h.sx, h.lx⟩
end
end Go.Proofs.Ytdgminjbgjbamaa
namespace Go.Proofs.Ytdgminjbgjbamaa
open Go.RowKit Go.Maps
structure RmN (w W2 : World) (gC gR gx gs gp gk n ck : Nat) (ins : Int) (cn cg co : Value) (d : Ci) (V : List Bool) (M : List Nat) (k : Nat) (wr : World) : Prop where
  out : ∃ vN, Hid (RmB w W2 gC gR gx gs gp gk n ck ins cn cg co vN (.slice none 0 0) (.slice none 0 0) V M ((Cir.keptI (1 + d.ins) V k).map fun j => Cir.remU d V (d.next.getD j 0)) [] [] wr)
structure RmG (w W2 : World) (gC gR gx gs gp gk n ck : Nat) (ins : Int) (cn cg co vN : Value) (d : Ci) (V : List Bool) (M N : List Nat) (k : Nat) (wr : World) : Prop where
  out : ∃ vG, Hid (RmB w W2 gC gR gx gs gp gk n ck ins cn cg co vN vG (.slice none 0 0) V M N [] ((d.gates.take k).map fun g => (Cir.remU d V g.1, Cir.remU d V g.2)) wr)
structure RmO (w W2 : World) (gC gR gx gs gp gk n ck : Nat) (ins : Int) (cn cg co vN vG : Value) (d : Ci) (V : List Bool) (M N : List Nat) (G : List (Nat × Nat)) (k : Nat) (wr : World) : Prop where
  out : ∃ vO, Hid (RmB w W2 gC gR gx gs gp gk n ck ins cn cg co vN vG vO V M N ((d.outs.take k).map (Cir.remU d V)) G wr)
theorem implRem_ok (v : Value) (d : Ci) (w : World) (h : CircAt w v (Cir.toCz d)) (hd : Cir.Ok d) (hv : Cir.valid (Cir.toCz d) = true) :
    Calls Try.prog 24 #[v] w (fun e w' => (∃ v' V, e = .returned v' ∧ Cir.Needs d V ∧ CircOwn 0 w' v' (Cir.toCz (Cir.optI (Cir.remC d V)))) ∧ Below w.heap.size w w') := by
  have s1 := hd.ins
  have s2 := hd.nexts
  have s3 := hd.gatess
  have s4 := hd.outss
  have HC := Lib.hid h
  obtain ⟨An, cn, Ag, cg, Ao, co, rfl⟩ := h.shape
  have hln : (Cir.toCz d).next.length = d.next.length := List.length_map _
  have hlg : (Cir.toCz d).gates.length = d.gates.length := List.length_map _
  have hlo : (Cir.toCz d).outs.length = d.outs.length := List.length_map _
  have hins : (Cir.toCz d).ins = (d.ins : Int) := rfl
  have hP0 : PCirc (w.alloc (.cells #[.int .i64 (Cir.toCz d).ins, .slice An (Cir.toCz d).next.length cn, .slice Ag (Cir.toCz d).gates.length cg, .slice Ao (Cir.toCz d).outs.length co] 26)) w.heap.size (Cir.toCz d) := by
    obtain ⟨vn, vg, vo, e, i1, i2, i3⟩ := h
    injection e with e
    simp only [Array.mk.injEq, List.cons.injEq, and_true] at e
    obtain ⟨-, e1, e2, e3⟩ := e
    subst e1 e2 e3
    exact PCirc.boxed _ i1 i2 i3
  rw [hln, hlg, hlo, hins] at HC hP0 ⊢
  obtain ⟨vn, vg, vo, e, r1, r2, r3⟩ := HC.out
  injection e with e
  simp only [Array.mk.injEq, List.cons.injEq, and_true] at e
  obtain ⟨-, e1, e2, e3⟩ := e
  subst e1 e2 e3
  have RN : Hid (Row w 1 (.slice An d.next.length cn) d.next.length (ints (d.next.map Int.ofNat))) := Lib.hid (by have := r1; unfold IntsAt at this; rwa [hln] at this)
  have RG : Hid (Row w 2 (.slice Ag d.gates.length cg) d.gates.length (cubes (Cir.toCz d).gates)) := Lib.hid (by have := r2; unfold CubesAt at this; rwa [hlg] at this)
  have RO : Hid (Row w 1 (.slice Ao d.outs.length co) d.outs.length (ints (d.outs.map Int.ofNat))) := Lib.hid (by have := r3; unfold IntsAt at this; rwa [hlo] at this)
  have hb0 := bel_new w (.cells #[.int .i64 (d.ins : Int), .slice An d.next.length cn, .slice Ag d.gates.length cg, .slice Ao d.outs.length co] 26)
  have P0 := PCells.boxed w (d.ins : Int) (.slice An d.next.length cn) (.slice Ag d.gates.length cg) (.slice Ao d.outs.length co) 26
  obtain ⟨gC, hgC⟩ : ∃ g, w.heap.size = g := ⟨_, rfl⟩
  have hs0 : (w.alloc (.cells #[.int .i64 (d.ins : Int), .slice An d.next.length cn, .slice Ag d.gates.length cg, .slice Ao d.outs.length co] 26)).heap.size = gC + 1 := by rw [World.size_alloc, hgC]
  obtain ⟨W1, hW1⟩ : ∃ W1, w.alloc (.cells #[.int .i64 (d.ins : Int), .slice An d.next.length cn, .slice Ag d.gates.length cg, .slice Ao d.outs.length co] 26) = W1 := ⟨_, rfl⟩
  rw [hW1] at hb0 hP0 P0 hs0
  rw [hgC] at hP0 P0
  have hb2 := bel_new W1 (.cells #[.int .i64 0, .slice none 0 0, .slice none 0 0, .slice none 0 0] 26)
  have hR2 := heap_alloc_new W1 (.cells #[.int .i64 0, .slice none 0 0, .slice none 0 0, .slice none 0 0] 26)
  obtain ⟨gR, hgR⟩ : ∃ g, gC + 1 = g := ⟨_, rfl⟩
  rw [hgR] at hs0
  rw [hs0] at hR2
  have hs2 : (W1.alloc (.cells #[.int .i64 0, .slice none 0 0, .slice none 0 0, .slice none 0 0] 26)).heap.size = gR + 1 := by rw [World.size_alloc, hs0]
  obtain ⟨W2, hW2⟩ : ∃ W2, W1.alloc (.cells #[.int .i64 0, .slice none 0 0, .slice none 0 0, .slice none 0 0] 26) = W2 := ⟨_, rfl⟩
  rw [hW2] at hb2 hR2 hs2
  have HB2 := Lib.hid (hb0.trans (hb2.mono hb0.size))
  have HP2 := Lib.hid (hP0.below hb2)
  have PC2 := Lib.hid (P0.below hb2)
  have HR2 := Lib.hid hR2
  have HC2 := Lib.hid (HC.out.below HB2.out)
  have HW := Lib.hid (And.intro hW1 hW2)
  have Hg := Lib.hid (And.intro hgC hgR)
  have hgCR : gC < gR := by omega
  have hwC : w.heap.size ≤ gC := by omega
  have HD := Lib.hid hd
  obtain ⟨n, hn⟩ : ∃ n, Cir.nvars d = n := ⟨_, rfl⟩
  obtain ⟨F, hF⟩ : ∃ F, Cir.nfirst d = F := ⟨_, rfl⟩
  have hFe : F = 1 + d.ins + d.next.length := by rw [← hF]; rfl
  have hne : n = F + d.gates.length := by rw [← hn, ← hF]; rfl
  have hFb : F ≤ 8 := by omega
  have hnb : n ≤ 22 := by omega
  have hn0 : 0 < n := by omega
  have HF := Lib.hid (And.intro hF (And.intro hn (And.intro hFe hne)))
  have HVal : Hid (Calls Try.prog 34 #[.agg #[.int .i64 (d.ins : Int), .slice An d.next.length cn, .slice Ag d.gates.length cg, .slice Ao d.outs.length co]] W2 fun e w'' => e = .returned (.bool true) ∧ Below W2.heap.size W2 w'') := Lib.hid (by
    have := implValid_any _ _ W2 HC2.out
    rwa [hv] at this)
  have HNd : Hid (∀ w', Below W2.heap.size W2 w' → Calls Try.prog 66 #[.pointer (some ⟨gC, 0, none⟩)] w' fun e w'' => ∃ v V, e = .returned v ∧ w''.ownsRow w'.heap.size 4 1 v n (bools V) ∧ V.length = n ∧ Cir.Needs d V ∧ Below w'.heap.size w' w'') := Lib.hid fun w' hb => by
    have := needed_any gC d w' (HP2.out.below hb) HD.out
    rwa [hn] at this
  have HFi : Hid (∀ w', Below W2.heap.size W2 w' → Calls Try.prog 61 #[.pointer (some ⟨gC, 0, none⟩)] w' fun e w'' => e = .returned (.int .i64 (F : Nat)) ∧ Below w'.heap.size w' w'') := Lib.hid fun w' hb => by
    have := firstGate_any gC _ w' (HP2.out.below hb) (by show (0 : Int) ≤ (d.ins : Int); omega) (by show (d.ins : Int) ≤ 100; omega) (by show (List.map _ _).length ≤ 100; rw [List.length_map]; omega)
    rwa [Cir.first_toCz, hF] at this
  have HVa : Hid (∀ w', Below W2.heap.size W2 w' → Calls Try.prog 67 #[.pointer (some ⟨gC, 0, none⟩)] w' fun e w'' => e = .returned (.int .i64 (n : Nat)) ∧ Below w'.heap.size w' w'') := Lib.hid fun w' hb => by
    have := vars_any gC _ w' (HP2.out.below hb) (by show (0 : Int) ≤ (d.ins : Int); omega) (by show (d.ins : Int) ≤ 100; omega) (by show (List.map _ _).length ≤ 100; rw [List.length_map]; omega) (by show (List.map _ _).length ≤ 100; rw [List.length_map]; omega)
    rwa [Cir.vars_toCz, hn] at this
  have HLa : Hid (∀ w' (v : Nat), Below W2.heap.size W2 w' → v ≤ 1000000 → Calls Try.prog 68 #[.pointer (some ⟨gC, 0, none⟩), .int .i64 (v : Int)] w' fun e w'' => e = .returned (.bool (decide (d.ins < v) && decide (v < F))) ∧ Below w'.heap.size w' w'') := Lib.hid fun w' v hb h => by
    have := isLatch_any gC d v w' (HP2.out.below hb) HD.out h
    unfold Cir.latV at this
    rwa [hF] at this
  obtain ⟨zz, p0, p1, p2, p3⟩ := PC2.out
  have hmk := run_make_row' (P := Try.prog) 23 3 (.int .i64 0) 8 Try.underlying23 info_int rfl .i64 .i64 n (by omega) (by omega)
  clear h hd hv hln hlg hlo hins hP0 P0 r1 r2 r3 hb0 hb2 hR2 hs0 hW1 hW2 hgC hgR hn hF hFe hne HC2
  go_enter Try.func24, Try.ntmps24
  go_wp2_with fail
  rw [Hg.out.1, HW.out.1, HW.out.2]
  try rw [Hg.out.2]
  refine HVal.out.mono ?_
  rintro e w3 ⟨rfl, hb3⟩
  clear zz p0 p1 p2 p3 HVal
  go_wp2_with fail
  refine (HNd.out _ hb3).mono ?_
  rintro e w4 ⟨vk, V, rfl, hok, hVl, hneed, hb4⟩
  have hb24 := hb3.trans (hb4.mono hb3.size)
  have Hok := Lib.hid (own_mono hok hb3.size)
  obtain ⟨gk, ck, hvk, -, -, -, -⟩ := own_open hok hn0
  subst hvk
  have HNe := Lib.hid hneed
  have HB4 := Lib.hid hb24
  clear hb3 hb4 hok hneed hb24 HNd
  go_wp2_with fail
  refine (HVa.out _ HB4.out).mono ?_
  rintro e w5 ⟨rfl, hb5⟩
  have Hok5 := Lib.hid (own_below Hok.out hb5)
  have HB5 := Lib.hid (HB4.out.trans (hb5.mono HB4.out.size))
  clear hb5 Hok HB4 HVa
  obtain ⟨gp, hgp⟩ : ∃ g, w5.heap.size = g := ⟨_, rfl⟩
  have hz5 := HB5.out.size
  have hO6 : (w5.alloc (.cells (madeCells #[Value.int .i64 0] n) 3)).ownsRow W2.heap.size 3 1 (.slice (some ⟨gp, 0, none⟩) n n) n (nints (Cir.rowF (Cir.remP1 d V) n 0)) := by
    have h := World.ownsRow_lit (base := W2.heap.size) (e := 3) (size := 1) w5 (madeCells #[Value.int .i64 0] n) n hz5 (by unfold maxLen; omega) (by simp [madeCells])
    have e : (madeCells #[Value.int .i64 0] n).toList = nints (Cir.rowF (Cir.remP1 d V) n 0) := by simp [madeCells, nints, nats, ints, Nat.mod_one, List.map_const', Cir.rowF]
    rwa [e, hgp] at h
  have hb6 := bel_new w5 (.cells (madeCells #[Value.int .i64 0] n) 3)
  obtain ⟨gs, hgs⟩ : ∃ g, gp + 1 = g := ⟨_, rfl⟩
  have hs6 : (w5.alloc (.cells (madeCells #[Value.int .i64 0] n) 3)).heap.size = gs := by rw [World.size_alloc, hgp, hgs]
  obtain ⟨W6, hW6⟩ : ∃ W, w5.alloc (.cells (madeCells #[Value.int .i64 0] n) 3) = W := ⟨_, rfl⟩
  rw [hW6] at hO6 hb6 hs6
  have hb7 := bel_new W6 (.cells #[.slice (some ⟨gp, 0, none⟩) n n] 23)
  have hk7 := heap_alloc_new W6 (.cells #[.slice (some ⟨gp, 0, none⟩) n n] 23)
  obtain ⟨gx, hgx⟩ : ∃ g, gs + 1 = g := ⟨_, rfl⟩
  have hs7 : (W6.alloc (.cells #[.slice (some ⟨gp, 0, none⟩) n n] 23)).heap.size = gx := by rw [World.size_alloc, hs6, hgx]
  rw [hs6] at hk7
  obtain ⟨W7, hW7⟩ : ∃ W, W6.alloc (.cells #[.slice (some ⟨gp, 0, none⟩) n n] 23) = W := ⟨_, rfl⟩
  rw [hW7] at hb7 hk7 hs7
  have hb8 := bel_new W7 (.cells #[.int .i64 (d.ins : Int), .slice none 0 0, .slice none 0 0, .slice none 0 0] 26)
  have hk8 := heap_alloc_new W7 (.cells #[.int .i64 (d.ins : Int), .slice none 0 0, .slice none 0 0, .slice none 0 0] 26)
  rw [hs7] at hk8
  obtain ⟨W8, hW8⟩ : ∃ W, W7.alloc (.cells #[.int .i64 (d.ins : Int), .slice none 0 0, .slice none 0 0, .slice none 0 0] 26) = W := ⟨_, rfl⟩
  rw [hW8] at hb8 hk8
  have hb57 := hb6.trans (hb7.mono hb6.size)
  have hb58 := hb57.trans (hb8.mono hb57.size)
  have hB7 := HB5.out.trans (hb57.mono HB5.out.size)
  have hB8 := HB5.out.trans (hb58.mono HB5.out.size)
  have hk78 := (hb8.block gs (by omega)).trans hk7
  have HA8 := Lib.hid (RmA.mk (W2 := W2) (gs := gs) (gx := gx) (ins := (d.ins : Int)) hB8 hk78 hk8 (own_below (own_below hO6 hb7) hb8) (own_below Hok5.out hb58))
  have c7 := (PC2.out.below hB7).2.1
  have c8 := (PC2.out.below hB8).2.1
  have s8 := blk_cell hk78 0
  simp at s8
  have hgsx : gs ≠ gx := by omega
  have hBx : W2.heap.size ≤ gx := by omega
  have hwa : IntKind.i64.wrap (1 + (d.ins : Int)) = 1 + (d.ins : Int) := IntWalk.i64_in _ (by omega)
  clear hO6 hb6 hb7 hb8 hb57 hb58 hB7 hB8 hk7 hk78 hk8 hs6 hs7 Hok5 hz5
  rw [← hW7, ← hW6] at c7
  rw [← hW8, ← hW7, ← hW6] at c8 s8
  rw [← hgp] at c7 c8
  rw [← hgs, ← hgp] at s8
  have HW8 := Lib.hid (And.intro hW6 (And.intro hW7 hW8))
  have Hgs := Lib.hid (And.intro hgp (And.intro hgs hgx))
  clear hW6 hW7 hW8 hgx
  clear hgs hgp
  go_wp2_with fail
  rw [Hgs.out.1, Hgs.out.2.1, Hgs.out.2.2, HW8.out.1, HW8.out.2.1, HW8.out.2.2]
  clear c7 c8 s8 hmk
  obtain ⟨W0, hW0⟩ : ∃ W, W = W8 := ⟨_, rfl⟩
  rw [← hW0] at HA8 ⊢
  have HY0 : Hid (1 + d.ins = Cir.remK d V 0) := Lib.hid (by unfold Cir.remK; rw [show min 0 (Cir.nfirst d) - (1 + d.ins) = 0 from by omega]; rfl)
  clear hW0
  go_loopw [6, 31] (fun x i wr => ∃ (v y : Nat), v ≤ n ∧ i = .int .i64 v ∧ x = .int .i64 y ∧ Hid (y = Cir.remK d V v) ∧ Hid (RmA W2 gs gx gp gk n ck (d.ins : Int) V (Cir.rowF (Cir.remP1 d V) n v) wr)) (fun _ i _ => n - (intOf i).toNat)
  case atStart => exact ⟨0, 1 + d.ins, Nat.zero_le _, rfl, by go_num, HY0, HA8⟩
  case round =>
    obtain ⟨v, y, hv, rfl, rfl, HY, HA⟩ := hrel
    clear HA8 HY0
    have hyb : y ≤ 10 := by
      have := Cir.remK_le (d := d) (V := V) (v := v)
      rw [← HY.out] at this
      omega
    obtain ⟨zz, p0, p1, p2, p3⟩ := PC2.out.below HA.out.b
    have q4 := blk_cell HA.out.s 0
    simp at q4
    by_cases hlt : v < n
    · have hpos : 0 < n := hn0
      obtain ⟨u0, _, hd0, hf0⟩ := own_slot HA.out.m (j := v) (by have := HA.out.m.1; omega)
      by_cases h1 : v < 1 + d.ins
      · have d1 : decide ((v : Int) < 1 + (d.ins : Int)) = true := decide_eq_true (by omega)
        have d2 : decide (v < 1 + d.ins) = true := decide_eq_true h1
        have hst := HA.out.set hpos v v
        have hFe := HF.out.2.2.1
        have hp : v = Cir.remP1 d V v := by unfold Cir.remP1 Cir.remP; rw [HF.out.1, if_pos (by omega), if_pos h1]
        rw [Cir.rowF_set hlt hp] at hst
        have Hst := Lib.hid hst
        have HY2 : Hid (y = Cir.remK d V (v + 1)) := Lib.hid (by rw [Cir.remK_in h1, HY.out])
        clear hst hp hFe HA HY
        go_wp2_with fail
        go_roundw
        case rel => exact ⟨v + 1, y, by omega, by go_num, rfl, HY2, Hst⟩
        case measure => simp [intOf]; omega
      · have d1 : decide ((v : Int) < 1 + (d.ins : Int)) = false := decide_eq_false (by omega)
        have d2 : decide (v < 1 + d.ins) = false := decide_eq_false h1
        go_wp2_with fail
        refine (HLa.out _ v HA.out.b (by omega)).mono ?_
        rintro e w9 ⟨rfl, hb9⟩
        have HA9 := Lib.hid (HA.out.step hb9)
        clear hb9 HA p0 p1 p2 p3 zz q4 hd0 hf0
        have q4 := blk_cell HA9.out.s 0
        simp at q4
        rw [decide_eq_true (show d.ins < v by omega), Bool.true_and]
        by_cases h2 : v < F
        · rw [decide_eq_true h2]
          have hVl2 := hVl
          have hsk : (bools V)[v]? = some (.bool (V.getD v false)) := by
            unfold bools
            rw [List.getElem?_map, Cir.at_getD false (show v < V.length by omega)]
            rfl
          obtain ⟨u1, hu1, hd1, hf1⟩ := own_slot HA9.out.k (j := v) (by have := HA9.out.k.1; omega)
          obtain rfl : u1 = .bool (V.getD v false) := Option.some.inj (hu1.symm.trans hsk)
          obtain ⟨u0', _, hd0, hf0⟩ := own_slot HA9.out.m (j := v) (by have := HA9.out.m.1; omega)
          clear hu1 hf1 hsk
          cases hfl : V.getD v false
          · rw [hfl] at hd1
            obtain ⟨e1, e2⟩ := Cir.remK_no (d := d) (by omega) (by rw [HF.out.1]; exact h2) hfl
            have HY2 : Hid (y = Cir.remK d V (v + 1)) := Lib.hid (by rw [e1, HY.out])
            have HA2 : Hid (RmA W2 gs gx gp gk n ck (d.ins : Int) V (Cir.rowF (Cir.remP1 d V) n (v + 1)) w9) := Lib.hid (by rw [← Cir.rowF_zero hlt e2]; exact HA9.out)
            clear HA9 HY e1 e2 hfl
            go_wp2_with fail
            go_roundw
            case rel => exact ⟨v + 1, y, by omega, by go_num, rfl, HY2, HA2⟩
            case measure => simp [intOf]; omega
          · rw [hfl] at hd1
            obtain ⟨e1, e2⟩ := Cir.remK_yes (d := d) (by omega) (by rw [HF.out.1]; exact h2) hfl
            have HY2 : Hid (y + 1 = Cir.remK d V (v + 1)) := Lib.hid (by rw [e1, HY.out])
            have hst := HA9.out.set hpos v y
            rw [Cir.rowF_set hlt (by rw [e2, HY.out])] at hst
            have Hst := Lib.hid hst
            have hwy : IntKind.i64.wrap ((y : Int) + 1) = (y : Int) + 1 := IntWalk.i64_in _ (by omega)
            clear HA9 HY e1 e2 hfl hst
            go_wp2_with fail
            go_roundw
            case rel => exact ⟨v + 1, y + 1, by omega, by go_num, by go_num, HY2, Hst⟩
            case measure => simp [intOf]; omega
        · rw [decide_eq_false h2]
          have hFl : Cir.nfirst d ≤ v := by rw [HF.out.1]; omega
          have HY2 : Hid (y = Cir.remK d V (v + 1)) := Lib.hid (by rw [Cir.remK_out hFl, HY.out])
          have HA2 : Hid (RmA W2 gs gx gp gk n ck (d.ins : Int) V (Cir.rowF (Cir.remP1 d V) n (v + 1)) w9) := Lib.hid (by rw [← Cir.rowF_zero hlt (by unfold Cir.remP1; rw [if_neg (by omega)])]; exact HA9.out)
          clear HA9 HY hFl
          go_wp2_with fail
          go_roundw
          case rel => exact ⟨v + 1, y, by omega, by go_num, rfl, HY2, HA2⟩
          case measure => simp [intOf]; omega
    · have hvn : n = v := by omega
      subst hvn
      have hFe := HF.out.2.2.1
      have hne := HF.out.2.2.2
      have HA2 : Hid (RmA W2 gs gx gp gk n ck (d.ins : Int) V (Cir.rowF (Cir.remP d V) n F) wr) := Lib.hid (by have h := HA.out; rw [Cir.rowF_first (by rw [HF.out.1]; omega), HF.out.1] at h; exact h)
      clear HA hlt zz p0 p1 p2 p3 q4
      go_wp2_with fail
      refine (HFi.out _ HA2.out.b).mono ?_
      rintro e wz ⟨rfl, hbz⟩
      have HA3 := Lib.hid (HA2.out.step hbz)
      clear hbz HA2
      have hFn : F ≤ n := by omega
      clear hFe hne
      go_wp2_with fail
      go_loopw [8] (fun i wr => ∃ (v : Nat), F ≤ v ∧ v ≤ n ∧ i = .int .i64 v ∧ Hid (RmA W2 gs gx gp gk n ck (d.ins : Int) V (Cir.rowF (Cir.remP d V) n v) wr)) (fun i _ => n - (intOf i).toNat)
      case atStart => exact ⟨F, Nat.le_refl _, hFn, rfl, HA3⟩
      case round =>
        obtain ⟨v, hFv, hv, rfl, HA⟩ := hrel
        clear HA3
        have q4 := blk_cell HA.out.s 0
        simp at q4
        by_cases hlt : v < n
        · obtain ⟨u0, _, hd0, hf0⟩ := own_slot HA.out.m (j := v) (by have := HA.out.m.1; omega)
          obtain ⟨x, hx⟩ : ∃ x, x = Cir.remP d V v := ⟨_, rfl⟩
          have hxe : x = y + (v - F) := by rw [hx, Cir.remK_end (n := n) (by rw [HF.out.1]; exact hFn) (by rw [HF.out.1]; exact hFv), HF.out.1, ← HY.out]
          have hxI : (y : Int) + (v : Int) - (F : Int) = (x : Int) := by omega
          have hw1 : IntKind.i64.wrap ((y : Int) + (v : Int)) = (y : Int) + (v : Int) := IntWalk.i64_in _ (by omega)
          have hw2 : IntKind.i64.wrap ((y : Int) + (v : Int) - (F : Int)) = (x : Int) := by rw [hxI]; exact IntWalk.i64_in _ (by omega)
          have hpos : 0 < n := hn0
          have HSt : Hid (∀ w', Below wr.heap.size wr w' → RmA W2 gs gx gp gk n ck (d.ins : Int) V (Cir.rowF (Cir.remP d V) n (v + 1)) (w'.setCell ⟨gp, v, none⟩ (.int .i64 (x : Nat)))) := Lib.hid fun w' hb => by
            have h := (HA.out.step hb).set hpos v x
            rwa [Cir.rowF_set hlt hx] at h
          have hgpz : gp < wr.heap.size := (HA.out.m.lt gp rfl).2
          clear hx hxe hxI
          go_wp2_with fail
          refine wp_region_rsl (quietRS Try.prog _ wr _) quietRS_ok (by kernel_rfl) (by kernel_rfl) (by kernel_rfl) 8 _ rfl rfl (by kernel_rfl) (show (0 : Nat) < 8 by decide) trivial trivial ?_
          apply rs_eq quietRS_ok quiet_any
          · intro ρ w' ho hK
            have ho : Only _ wr w' := ho
            obtain ⟨h0, -⟩ := hK
            have h0' : ρ (.tmp 4) = _ := h0
            have hb := only_below ho
            have k4 := blk_cell (HA.out.step hb).s 0
            simp at k4
            go_simp
            try exact rfl
          refine rs_old quietRS_ok quiet_any _ (.inl rfl) _ rfl rfl ?_
          refine rs_old quietRS_ok quiet_any _ (.inl rfl) _ rfl rfl ?_
          refine rs_old quietRS_ok quiet_any _ (.inl rfl) _ rfl rfl ?_
          apply rs_eq quietRS_ok quiet_any
          · intro ρ w' ho hK
            have ho : Only _ wr w' := ho
            obtain ⟨h0, h1, -⟩ := hK
            have h0' : ρ (.tmp 69) = _ := h0
            have h1' : ρ (.tmp 70) = _ := h1
            go_simp
            try exact rfl
          refine rs_call quietRS_ok quiet_any (TEq (.int .i64 ((F : Nat) : Int))) (stb_eq _ _) 61 _ _ rfl (fun ρ w' ho hK => by
            have ho : Only _ wr w' := ho
            obtain ⟨h0, h1, -⟩ := hK
            have h0' : ρ (.func 61) = .func (.func 61) #[] #[] := h0
            have h1' : ρ (.tmp 1) = _ := h1
            refine ⟨#[ρ (.tmp 1)], ?_, ?_⟩
            · go_simp
            · rw [h1']
              refine (HFi.out w' (HA.out.step (only_below ho)).b).mono ?_
              rintro e w2 ⟨rfl, hb⟩
              exact ⟨_, rfl, rfl, hb⟩) ?_
          apply rs_eq quietRS_ok quiet_any
          · intro ρ w' ho hK
            have ho : Only _ wr w' := ho
            obtain ⟨h0, h1, -⟩ := hK
            have h0' : ρ (.tmp 71) = _ := h0
            have h1' : ρ (.tmp 72) = _ := h1
            go_simp
            try exact rfl
          apply rs_eq quietRS_ok quiet_any
          · intro ρ w' ho hK
            have ho : Only _ wr w' := ho
            obtain ⟨h0, h1, -⟩ := hK
            have h0' : ρ (.tmp 67) = _ := h0
            have h1' : ρ (.tmp 68) = _ := h1
            go_simp
            try exact rfl
          intro f w9 k9 hk9 hI9 ht9 hcp9
          have E0 : f 0 = _ := ht9 0 (Nat.le_of_ble_eq_true rfl)
          have E1 : f 1 = _ := ht9 1 (Nat.le_of_ble_eq_true rfl)
          conv at E1 => rhs; whnf
          have E2 : f 2 = _ := ht9 2 (Nat.le_of_ble_eq_true rfl)
          conv at E2 => rhs; whnf
          have E3 : f 3 = _ := ht9 3 (Nat.le_of_ble_eq_true rfl)
          conv at E3 => rhs; whnf
          have E4 : f 4 = _ := ht9 4 (Nat.le_of_ble_eq_true rfl)
          have E5 : f 5 = _ := ht9 5 (Nat.le_of_ble_eq_true rfl)
          have E6 : f 6 = _ := ht9 6 (Nat.le_of_ble_eq_true rfl)
          have E7 : f 7 = _ := ht9 7 (Nat.le_of_ble_eq_true rfl)
          have Ho9 : Only _ wr w9 := hI9.2.1
          simp only [putAll, E0, E1, E2, E3, E4, E5, E6, E7, Nat.zero_add, Nat.reduceAdd, Act.put, List.setIfInBounds_toArray, List.set_cons_succ, List.set_cons_zero, List.take, List.getElem_toArray, List.getElem_cons_succ, List.getElem_cons_zero]
          clear E0 E1 E2 E3 E4 E5 E6 E7
          clear hI9 ht9 hcp9 hk9
          have hb9 := only_below Ho9
          obtain ⟨u1, _, hd1, hf1⟩ := own_slot (HA.out.step hb9).m (j := v) (by have := (HA.out.step hb9).m.1; omega)
          have HA9 := Lib.hid (HSt.out w9 hb9)
          clear Ho9 hb9 HA HSt hd0 hf0 q4
          go_wp2_with fail
          go_roundw
          case rel => exact ⟨v + 1, by omega, by omega, by go_num, HA9⟩
          case measure => simp [intOf]; omega
        · have hvn : n = v := by omega
          subst hvn
          obtain ⟨M, hM⟩ : ∃ M, M = Cir.rowF (Cir.remP d V) n n := ⟨_, rfl⟩
          have hMl : M.length = n := by rw [hM]; exact Cir.rowF_length _ (Nat.le_refl _)
          have hMd : Hid (∀ j, j < n → M.getD j 0 = Cir.remP d V j) := Lib.hid fun j hj => by
            rw [hM, Cir.rowF_full, List.getD_eq_getElem?_getD, List.getElem?_map, List.getElem?_range hj]
            rfl
          have hMb : Hid (∀ x ∈ M, x ≤ 100) := Lib.hid fun x hx => by
            rw [hM, Cir.rowF_full] at hx
            obtain ⟨j, hj, rfl⟩ := List.mem_map.1 hx
            have h1 := List.mem_range.1 hj
            have h2 := Cir.remP_le (d := d) (V := V) (v := j)
            omega
          rw [← hM] at HA
          have hBx : RmB w W2 gC gR gx gs gp gk n ck (d.ins : Int) (.slice An d.next.length cn) (.slice Ag d.gates.length cg) (.slice Ao d.outs.length co) (.slice none 0 0) (.slice none 0 0) (.slice none 0 0) V M [] [] [] wr :=
            ⟨⟨PC2.out.below HA.out.b, (HA.out.b.block gR (blk_ltB HR2.out)).trans HR2.out, HA.out.o, by rw [hMl]; exact HA.out.m, World.ownsRow_nil _ _ _ _, World.ownsRow_nil _ _ _ _, World.ownsRow_nil _ _ _ _, fun g _ h => by simp [Value.ownBlock] at h, fun g _ h => by simp [Value.ownBlock] at h, fun g h => by simp [Value.ownBlock] at h, by omega, by omega, by omega, by omega, by omega, by omega, HA.out.b.size, HB2.out.trans (HA.out.b.mono HB2.out.size)⟩, HA.out.b, HA.out.s, HA.out.k, hgsx, hBx⟩
          have HBx := Lib.hid hBx
          have HUse : Hid (∀ (w' : World) (l : Nat), w'.heap[gs]? = some (.cells #[.slice (some ⟨gp, 0, none⟩) n n] 23 (0, 0)) → w'.ownsRow W2.heap.size 3 1 (.slice (some ⟨gp, 0, none⟩) n n) M.length (nints M) → l < 2 * n → Calls Try.prog 69 #[.int .i64 (l : Nat), .pointer (some ⟨gs, 0, none⟩)] w' fun e w'' => e = .returned (.int .i64 (Cir.remU d V l : Nat)) ∧ Below w'.heap.size w' w'') := Lib.hid fun w' l hs hm hl => by
            have := remUse_any gs l M _ w' (blk_cell hs 0) (by
              have h := Row.of_own hm
              unfold IntsAt
              rw [List.length_map]
              exact h) (by rw [hMl]; omega) (by omega) (fun x hx => Nat.le_trans (hMb.out x hx) (by omega))
            rw [hMd.out _ (by omega)] at this
            exact this
          have hUb : Hid (∀ l, l < 2 * n → Cir.remU d V l ≤ 1000) := Lib.hid fun l hl => by
            have := Cir.remP_le (d := d) (V := V) (v := l / 2)
            unfold Cir.remU
            omega
          have HNl : Hid (∀ l ∈ d.next, l < 2 * n) := Lib.hid fun l hl => by have h := HD.out.next l hl; rwa [HF.out.2.1] at h
          have HOl : Hid (∀ l ∈ d.outs, l < 2 * n) := Lib.hid fun l hl => by have h := HD.out.out l hl; rwa [HF.out.2.1] at h
          have HGl : Hid (∀ (k : Nat) (gt : Nat × Nat), d.gates[k]? = some gt → gt.1 < 2 * n ∧ gt.2 < 2 * n) := Lib.hid fun k gt hgt => by
            obtain ⟨g1, g2⟩ := HD.out.gate k gt hgt
            have hk := (List.getElem?_eq_some_iff.1 hgt).1
            have hne := HF.out.2.2.2
            rw [HF.out.1] at g1 g2
            omega
          obtain ⟨zz, p0, p1, p2, p3⟩ := PC2.out.below HA.out.b
          clear hM HA hBx hlt
          go_wp2_with fail
          clear q4 zz p0 p1 p2 p3
          obtain ⟨W3, hW3⟩ : ∃ W, W = wr := ⟨_, rfl⟩
          subst hW3
          go_loopw [79] (fun j wr => ∃ (k : Nat), k ≤ d.next.length ∧ j = .int .i64 k ∧ RmN w W2 gC gR gx gs gp gk n ck (d.ins : Int) (.slice An d.next.length cn) (.slice Ag d.gates.length cg) (.slice Ao d.outs.length co) d V M k wr) (fun j _ => d.next.length - (intOf j).toNat)
          case atStart => exact ⟨0, Nat.zero_le _, rfl, ⟨⟨.slice none 0 0, HBx⟩⟩⟩
          case round =>
            clear HBx
            obtain ⟨k, hk, rfl, HH⟩ := hrel
            obtain ⟨vN, HBx⟩ := HH.out
            obtain ⟨z, p0, p1, p2, p3⟩ := HBx.out.x.hC
            have hzB := HBx.out.x.zB
            by_cases hlt : k < d.next.length
            · obtain ⟨l, hl⟩ := at_some hlt
              obtain ⟨b, oo, rfl, hbl, hs⟩ := nat_cell RN.out HBx.out.x.below rfl hlt
              have hlD : d.next.getD k 0 = l := by rw [List.getD_eq_getElem?_getD, hl, Option.getD_some]
              rw [hlD] at hs
              have hl2 := HNl.out l (List.mem_of_getElem? hl)
              have hsu := Cir.keptI_succ (1 + d.ins) V k
              have hfk : 1 + d.ins + k < n := by have h1 := HF.out.2.2.1; omega
              have hsk : (bools V)[1 + d.ins + k]? = some (.bool (V.getD (1 + d.ins + k) false)) := by
                unfold bools
                rw [List.getElem?_map, Cir.at_getD false (show 1 + d.ins + k < V.length by omega)]
                rfl
              obtain ⟨u1, hu1, hd1, hf1⟩ := own_slot HBx.out.k (j := 1 + d.ins + k) (by have := HBx.out.k.1; omega)
              obtain rfl : u1 = .bool (V.getD (1 + d.ins + k) false) := Option.some.inj (hu1.symm.trans hsk)
              have hix : (1 + (d.ins : Int) + (k : Int)).toNat = 1 + d.ins + k := by omega
              have hwk : IntKind.i64.wrap (1 + (d.ins : Int) + (k : Int)) = 1 + (d.ins : Int) + (k : Int) := IntWalk.i64_in _ (by omega)
              clear hu1 hf1 hsk hl hbl HH
              cases hfl : V.getD (1 + d.ins + k) false
              · rw [hfl] at hd1
                rw [if_neg (by rw [hfl]; simp), List.append_nil] at hsu
                have HS := Lib.hid hsu
                clear hsu hfl
                go_wp2_with fail
                go_roundw
                case rel => exact ⟨k + 1, by omega, by go_num, ⟨⟨vN, by rw [HS.out]; exact HBx⟩⟩⟩
                case measure => simp [intOf] <;> omega
              · rw [hfl] at hd1
                rw [if_pos hfl] at hsu
                have HS : Hid ((Cir.keptI (1 + d.ins) V (k + 1)).map (fun j => Cir.remU d V (d.next.getD j 0)) = (Cir.keptI (1 + d.ins) V k).map (fun j => Cir.remU d V (d.next.getD j 0)) ++ [Cir.remU d V l]) := Lib.hid (by rw [hsu, List.map_append, List.map_singleton, hlD])
                have hNl : ((Cir.keptI (1 + d.ins) V k).map fun j => Cir.remU d V (d.next.getD j 0)).length ≤ 3 := by
                  have := Cir.keptI_le (1 + d.ins) V k
                  rw [List.length_map]
                  omega
                generalize ((Cir.keptI (1 + d.ins) V k).map fun j => Cir.remU d V (d.next.getD j 0)) = N at *
                have HU := Lib.hid (fun w' h1 h2 => HUse.out w' l h1 h2 hl2)
                have hyb2 := hUb.out l hl2
                generalize Cir.remU d V l = q at *
                clear hsu hfl hlD
                go_wp2_with fail
                obtain ⟨i0, hi0, hz0, hz1, hz2⟩ := info_parts info_int
                have hO := fun ops a => appRS2_ok (Pg := Try.prog) (ops := ops) (a := a) (news := [.int .i64 (q : Int)]) (d := 6) (HBx.out.x.n)
                refine wp_region_rsl (appRS2 Try.prog _ wr _ (W2.heap.size) 3 1 (vN) (N.length) (nints N) [.int .i64 (q : Int)] 6) (hO _ _) (by kernel_rfl) (by kernel_rfl) (by kernel_rfl) 8 _ rfl rfl (by kernel_rfl) (show (6 : Nat) < 8 by decide) trivial HBx.out.x.n ?_
                apply rs_eq (hO _ _) (.inl (Nat.ne_of_beq_eq_false rfl))
                · intro ρ w' ho hK
                  have ho : Only _ wr w' := ho
                  obtain ⟨h0, -⟩ := hK
                  have h0' : ρ (.tmp 5) = _ := h0
                  go_simp
                  try exact rfl
                apply rs_eq (hO _ _) (.inl (Nat.ne_of_beq_eq_false rfl))
                · intro ρ w' ho hK
                  have ho : Only _ wr w' := ho
                  obtain ⟨h0, -⟩ := hK
                  have h0' : ρ (.tmp 92) = _ := h0
                  obtain ⟨-, -, hXq, -⟩ := HBx.out.x.rowN ho
                  have k1 := blk_cell hXq 1
                  simp at k1
                  go_simp
                  try exact rfl
                refine rs_old (hO _ _) (.inl (Nat.ne_of_beq_eq_false rfl)) _ (.inl rfl) _ rfl rfl ?_
                refine rs_old (hO _ _) (.inl (Nat.ne_of_beq_eq_false rfl)) _ (.inl rfl) _ rfl rfl ?_
                refine rs_callV (hO _ _) (.inl (Nat.ne_of_beq_eq_false rfl)) (TEq (.int .i64 ((q : Nat) : Int))) (stb_eq _ _) (.tmp 94) _ _ rfl (fun ρ w' ho hK => by
                  have ho : Only _ wr w' := ho
                  obtain ⟨h0, h1, -⟩ := hK
                  have h0' : ρ (.tmp 94) = _ := h0
                  have h1' : ρ (.tmp 95) = _ := h1
                  refine ⟨69, #[ρ (.tmp 95)] ++ #[.pointer (some ⟨gs, 0, none⟩)], ?_, ?_⟩
                  · go_simp
                  · rw [h1']
                    refine (HU.out w' (HBx.out.midN ho).1 (HBx.out.midN ho).2.1).mono ?_
                    rintro e w2 ⟨rfl, hb⟩
                    exact ⟨_, rfl, rfl, hb⟩) ?_
                refine rs_build1 (hO _ _) (.inl (Nat.ne_of_beq_eq_false rfl)) 1 [.int .i64 (q : Int)] 3 rfl (fun ρ w' ho hK => by
                  have ho : Only _ wr w' := ho
                  obtain ⟨h0, -⟩ := hK
                  have h0' : ρ (.tmp 96) = _ := h0
                  go_simp) ?_
                refine rs_append2 rfl (W2.heap.size) 3 23 1 (vN) (N.length) (nints N) _ rfl rfl (fun g hg => hg) (show W2.heap.size ≤ wr.heap.size by omega) _ _ rfl _ _ rfl rfl rfl rfl i0 _ 8 Try.underlying23 hi0 hz0 hz1 hz2 rfl (by decide) (by omega) (by decide) (by simp [Value.oneCell']) ?_
                apply rs_eq (hO _ _) (.inl (Nat.ne_of_beq_eq_false rfl))
                · intro ρ w' ho hK
                  have ho : Only _ wr w' := ho
                  obtain ⟨h0, -⟩ := hK
                  have h0' : ρ (.tmp 5) = _ := h0
                  go_simp
                  try exact rfl
                intro f w9 k9 hk9 hI9 ht9 hcp9
                have E0 : f 0 = _ := ht9 0 (Nat.le_of_ble_eq_true rfl)
                have E1 : f 1 = _ := ht9 1 (Nat.le_of_ble_eq_true rfl)
                have E2 : f 2 = _ := ht9 2 (Nat.le_of_ble_eq_true rfl)
                conv at E2 => rhs; whnf
                have E3 : f 3 = _ := ht9 3 (Nat.le_of_ble_eq_true rfl)
                conv at E3 => rhs; whnf
                have E4 : f 4 = _ := ht9 4 (Nat.le_of_ble_eq_true rfl)
                have E5 : (TNew _ 1 1 [.int .i64 (q : Int)]) w9 (f 5) := ht9 5 (Nat.le_of_ble_eq_true rfl)
                have E6 : (TAny) w9 (f 6) := ht9 6 (Nat.le_of_ble_eq_true rfl)
                have E7 : f 7 = _ := ht9 7 (Nat.le_of_ble_eq_true rfl)
                have Ho9 : Only _ wr w9 := hI9.2.1
                have hown9 : w9.ownsRow (W2.heap.size) 3 1 (f 6) (N.length + 1) (nints N ++ [.int .i64 (q : Int)]) := hI9.2.2.1
                have hat9 : ∀ g, (f 6).ownBlock = some g → (vN).ownBlock = some g ∨ wr.heap.size ≤ g := hI9.2.2.2
                simp only [putAll, E0, E1, E2, E3, E4, E7, Nat.zero_add, Nat.reduceAdd, Act.put, List.setIfInBounds_toArray, List.set_cons_succ, List.set_cons_zero, List.take, List.getElem_toArray, List.getElem_cons_succ, List.getElem_cons_zero]
                clear E0 E1 E2 E3 E4 E7
                clear hI9 ht9 hcp9 hk9
                generalize f 5 = r5 at *
                generalize f 6 = r6 at *
                have O9 : Only (fun g => vN.ownBlock = some g) wr w9 := Ho9
                obtain ⟨A9, c9, hv9⟩ := slice_of_own hown9
                subst hv9
                have hX9 := (HBx.out.x.rowN O9).2.2.1
                have HB9 := Lib.hid (HBx.out.appN (y := q) hown9 O9 hat9)
                have q1 := blk_cell hX9 1
                have f1 := blk_free hX9 1
                simp at q1
                clear Ho9 O9 hX9 hown9 hat9 hO HBx hd1 hs z p0 p1 p2 p3
                go_wp2_with fail
                go_roundw
                case rel => exact ⟨k + 1, by omega, by go_num, ⟨⟨_, by rw [HS.out]; exact HB9⟩⟩⟩
                case measure => simp [intOf] <;> omega
            · obtain rfl : k = d.next.length := by omega
              have HNf : Hid ((Cir.keptI (1 + d.ins) V d.next.length).map (fun j => Cir.remU d V (d.next.getD j 0)) = (Cir.remC d V).next) := Lib.hid rfl
              rw [HNf.out] at HBx
              obtain ⟨N, hN⟩ : ∃ N, (Cir.remC d V).next = N := ⟨_, rfl⟩
              rw [hN] at HBx
              have HN := Lib.hid hN
              clear HH hlt hN HNf
              go_wp2_with fail
              clear z p0 p1 p2 p3
              obtain ⟨W4, hW4⟩ : ∃ W, W = wr := ⟨_, rfl⟩
              subst hW4
              go_loopw [104] (fun j wr => ∃ (k : Nat), k ≤ d.gates.length ∧ j = .int .i64 k ∧ RmG w W2 gC gR gx gs gp gk n ck (d.ins : Int) (.slice An d.next.length cn) (.slice Ag d.gates.length cg) (.slice Ao d.outs.length co) vN d V M N k wr) (fun j _ => d.gates.length - (intOf j).toNat)
              case atStart => exact ⟨0, Nat.zero_le _, rfl, ⟨⟨.slice none 0 0, HBx⟩⟩⟩
              case round =>
                clear HBx
                obtain ⟨k, hk, rfl, HH⟩ := hrel
                obtain ⟨vG, HBx⟩ := HH.out
                obtain ⟨z, p0, p1, p2, p3⟩ := HBx.out.x.hC
                have hzB := HBx.out.x.zB
                by_cases hlt : k < d.gates.length
                · obtain ⟨bq2, o2, x, rfl, hbl2, hx, hs1, hs2⟩ := cubes_open RG.out HBx.out.x.below (show d.gates.length = (Cir.toCz d).gates.length from (List.length_map _).symm) (i := k) (by rw [show (Cir.toCz d).gates.length = d.gates.length from List.length_map _]; exact hlt)
                  obtain ⟨gt, hgt⟩ := at_some hlt
                  have hxe : x = ((gt.1 : Int), (gt.2 : Int)) := by
                    have h1 := hx.out
                    unfold Cir.toCz at h1
                    simp only [List.getElem?_map, hgt] at h1
                    exact (Option.some.inj h1).symm
                  subst hxe
                  obtain ⟨g1, g2⟩ := HGl.out k gt hgt
                  have HS : Hid ((d.gates.take (k + 1)).map (fun g => (Cir.remU d V g.1, Cir.remU d V g.2)) = (d.gates.take k).map (fun g => (Cir.remU d V g.1, Cir.remU d V g.2)) ++ [(Cir.remU d V gt.1, Cir.remU d V gt.2)]) := Lib.hid (by rw [take_snoc hgt, List.map_append]; rfl)
                  have hgl : ((d.gates.take k).map fun g => (Cir.remU d V g.1, Cir.remU d V g.2)).length ≤ 14 := by rw [List.length_map, List.length_take]; omega
                  generalize ((d.gates.take k).map fun g => (Cir.remU d V g.1, Cir.remU d V g.2)) = G at *
                  obtain ⟨l1, hl1⟩ : ∃ l, l = gt.1 := ⟨_, rfl⟩
                  obtain ⟨l2, hl2⟩ : ∃ l, l = gt.2 := ⟨_, rfl⟩
                  rw [← hl1] at g1 hs1 HS
                  rw [← hl2] at g2 hs2 HS
                  have HU1 := Lib.hid (fun w' h1 h2 => HUse.out w' l1 h1 h2 g1)
                  have HU2 := Lib.hid (fun w' h1 h2 => HUse.out w' l2 h1 h2 g2)
                  have hyb1 := hUb.out l1 g1
                  have hyb2 := hUb.out l2 g2
                  generalize Cir.remU d V l1 = y1 at *
                  generalize Cir.remU d V l2 = y2 at *
                  have hba := bel_new wr (.cells #[.int .i64 (l1 : Int), .int .i64 (l2 : Int)] 72)
                  have hg9 := heap_alloc_new wr (.cells #[.int .i64 (l1 : Int), .int .i64 (l2 : Int)] 72)
                  have HBa := Lib.hid (HBx.out.step hba)
                  have hlt2 : ∀ g, vG.ownBlock = some g → g < wr.heap.size := fun g hg => (HBx.out.x.g.lt g hg).2
                  have hza : (wr.alloc (.cells #[.int .i64 (l1 : Int), .int .i64 (l2 : Int)] 72)).heap.size = wr.heap.size + 1 := by simp
                  clear hx hgt hl1 hl2 hbl2 HH hba HBx
                  go_wp2_with fail
                  generalize wr.alloc (.cells #[.int .i64 (l1 : Int), .int .i64 (l2 : Int)] 72) = Wg at *
                  obtain ⟨gj, hgj⟩ : ∃ gj, wr.heap.size = gj := ⟨_, rfl⟩
                  rw [hgj] at hg9 hza hzB hlt2 ⊢
                  have hgjz : gj < Wg.heap.size := by omega
                  have hnj : vG.ownBlock ≠ some gj := fun e => by have := hlt2 gj e; omega
                  have hzB2 : W2.heap.size ≤ Wg.heap.size := by omega
                  have HG9 := Lib.hid hg9
                  clear hlt2 hg9 hgj z p0 p1 p2 p3 hs1 hs2
                  obtain ⟨i0, hi0, hz0, hz1, hz2⟩ := info_parts info_gate
                  have hO := fun ops a => appRS2_ok (Pg := Try.prog) (ops := ops) (a := a) (news := [.int .i64 (y1 : Int), .int .i64 (y2 : Int)]) (d := 12) (HBa.out.x.g)
                  refine wp_region_rsl (appRS2 Try.prog _ Wg _ (W2.heap.size) 72 2 (vG) (G.length) (cubes (gz G)) [.int .i64 (y1 : Int), .int .i64 (y2 : Int)] 12) (hO _ _) (by kernel_rfl) (by kernel_rfl) (by kernel_rfl) 14 _ rfl rfl (by kernel_rfl) (show (12 : Nat) < 14 by decide) trivial HBa.out.x.g ?_
                  apply rs_eq (hO _ _) (.inl (Nat.ne_of_beq_eq_false rfl))
                  · intro ρ w' ho hK
                    have ho : Only _ Wg w' := ho
                    obtain ⟨h0, -⟩ := hK
                    have h0' : ρ (.tmp 5) = _ := h0
                    go_simp
                    try exact rfl
                  apply rs_eq (hO _ _) (.inl (Nat.ne_of_beq_eq_false rfl))
                  · intro ρ w' ho hK
                    have ho : Only _ Wg w' := ho
                    obtain ⟨h0, -⟩ := hK
                    have h0' : ρ (.tmp 108) = _ := h0
                    obtain ⟨-, -, hXq, -⟩ := HBa.out.x.rowG ho
                    have k2 := blk_cell hXq 2
                    have kg := (ho.block gj hgjz (fun e => hnj e)).trans HG9.out
                    have c1 := blk_cell kg 0
                    have c2 := blk_cell kg 1
                    simp at k2 c1 c2
                    go_simp
                    try exact rfl
                  refine rs_old (hO _ _) (.inl (Nat.ne_of_beq_eq_false rfl)) _ (.inl rfl) _ rfl rfl ?_
                  apply rs_eq (hO _ _) (.inl (Nat.ne_of_beq_eq_false rfl))
                  · intro ρ w' ho hK
                    have ho : Only _ Wg w' := ho
                    obtain ⟨h0, -⟩ := hK
                    have h0' : ρ (.tmp 13) = _ := h0
                    go_simp
                    try exact rfl
                  apply rs_eq (hO _ _) (.inl (Nat.ne_of_beq_eq_false rfl))
                  · intro ρ w' ho hK
                    have ho : Only _ Wg w' := ho
                    obtain ⟨h0, -⟩ := hK
                    have h0' : ρ (.tmp 111) = _ := h0
                    obtain ⟨-, -, hXq, -⟩ := HBa.out.x.rowG ho
                    have k2 := blk_cell hXq 2
                    have kg := (ho.block gj hgjz (fun e => hnj e)).trans HG9.out
                    have c1 := blk_cell kg 0
                    have c2 := blk_cell kg 1
                    simp at k2 c1 c2
                    go_simp
                    try exact rfl
                  refine rs_callV (hO _ _) (.inl (Nat.ne_of_beq_eq_false rfl)) (TEq (.int .i64 ((y1 : Nat) : Int))) (stb_eq _ _) (.tmp 110) _ _ rfl (fun ρ w' ho hK => by
                    have ho : Only _ Wg w' := ho
                    obtain ⟨h0, h1, -⟩ := hK
                    have h0' : ρ (.tmp 110) = _ := h0
                    have h1' : ρ (.tmp 112) = _ := h1
                    refine ⟨69, #[ρ (.tmp 112)] ++ #[.pointer (some ⟨gs, 0, none⟩)], ?_, ?_⟩
                    · go_simp
                    · rw [h1']
                      refine (HU1.out w' (HBa.out.midG ho).1 (HBa.out.midG ho).2.1).mono ?_
                      rintro e w2 ⟨rfl, hb⟩
                      exact ⟨_, rfl, rfl, hb⟩) ?_
                  refine rs_old (hO _ _) (.inl (Nat.ne_of_beq_eq_false rfl)) _ (.inl rfl) _ rfl rfl ?_
                  apply rs_eq (hO _ _) (.inl (Nat.ne_of_beq_eq_false rfl))
                  · intro ρ w' ho hK
                    have ho : Only _ Wg w' := ho
                    obtain ⟨h0, -⟩ := hK
                    have h0' : ρ (.tmp 13) = _ := h0
                    go_simp
                    try exact rfl
                  apply rs_eq (hO _ _) (.inl (Nat.ne_of_beq_eq_false rfl))
                  · intro ρ w' ho hK
                    have ho : Only _ Wg w' := ho
                    obtain ⟨h0, -⟩ := hK
                    have h0' : ρ (.tmp 115) = _ := h0
                    obtain ⟨-, -, hXq, -⟩ := HBa.out.x.rowG ho
                    have k2 := blk_cell hXq 2
                    have kg := (ho.block gj hgjz (fun e => hnj e)).trans HG9.out
                    have c1 := blk_cell kg 0
                    have c2 := blk_cell kg 1
                    simp at k2 c1 c2
                    go_simp
                    try exact rfl
                  refine rs_callV (hO _ _) (.inl (Nat.ne_of_beq_eq_false rfl)) (TEq (.int .i64 ((y2 : Nat) : Int))) (stb_eq _ _) (.tmp 114) _ _ rfl (fun ρ w' ho hK => by
                    have ho : Only _ Wg w' := ho
                    obtain ⟨h0, h1, -⟩ := hK
                    have h0' : ρ (.tmp 114) = _ := h0
                    have h1' : ρ (.tmp 116) = _ := h1
                    refine ⟨69, #[ρ (.tmp 116)] ++ #[.pointer (some ⟨gs, 0, none⟩)], ?_, ?_⟩
                    · go_simp
                    · rw [h1']
                      refine (HU2.out w' (HBa.out.midG ho).1 (HBa.out.midG ho).2.1).mono ?_
                      rintro e w2 ⟨rfl, hb⟩
                      exact ⟨_, rfl, rfl, hb⟩) ?_
                  apply rs_eq (hO _ _) (.inl (Nat.ne_of_beq_eq_false rfl))
                  · intro ρ w' ho hK
                    have ho : Only _ Wg w' := ho
                    obtain ⟨h0, h1, -⟩ := hK
                    have h0' : ρ (.tmp 113) = _ := h0
                    have h1' : ρ (.tmp 117) = _ := h1
                    go_simp
                    try exact rfl
                  refine rs_build1 (hO _ _) (.inl (Nat.ne_of_beq_eq_false rfl)) 2 [.int .i64 (y1 : Int), .int .i64 (y2 : Int)] 72 rfl (fun ρ w' ho hK => by
                    have ho : Only _ Wg w' := ho
                    obtain ⟨h0, -⟩ := hK
                    have h0' : ρ (.tmp 118) = _ := h0
                    go_simp) ?_
                  refine rs_append2 rfl (W2.heap.size) 72 24 2 (vG) (G.length) (cubes (gz G)) _ rfl rfl (fun g hg => hg) (show W2.heap.size ≤ Wg.heap.size by omega) _ _ rfl _ _ rfl rfl rfl rfl i0 _ 16 Try.underlying24 hi0 hz0 hz1 hz2 rfl (by decide) (by omega) (by decide) (by simp [Value.oneCell']) ?_
                  apply rs_eq (hO _ _) (.inl (Nat.ne_of_beq_eq_false rfl))
                  · intro ρ w' ho hK
                    have ho : Only _ Wg w' := ho
                    obtain ⟨h0, -⟩ := hK
                    have h0' : ρ (.tmp 5) = _ := h0
                    go_simp
                    try exact rfl
                  intro f w9 k9 hk9 hI9 ht9 hcp9
                  have E0 : f 0 = _ := ht9 0 (Nat.le_of_ble_eq_true rfl)
                  have E1 : f 1 = _ := ht9 1 (Nat.le_of_ble_eq_true rfl)
                  have E2 : f 2 = _ := ht9 2 (Nat.le_of_ble_eq_true rfl)
                  conv at E2 => rhs; whnf
                  have E3 : f 3 = _ := ht9 3 (Nat.le_of_ble_eq_true rfl)
                  have E4 : f 4 = _ := ht9 4 (Nat.le_of_ble_eq_true rfl)
                  have E5 : f 5 = _ := ht9 5 (Nat.le_of_ble_eq_true rfl)
                  have E6 : f 6 = _ := ht9 6 (Nat.le_of_ble_eq_true rfl)
                  conv at E6 => rhs; whnf
                  have E7 : f 7 = _ := ht9 7 (Nat.le_of_ble_eq_true rfl)
                  have E8 : f 8 = _ := ht9 8 (Nat.le_of_ble_eq_true rfl)
                  have E9 : f 9 = _ := ht9 9 (Nat.le_of_ble_eq_true rfl)
                  have E10 : f 10 = _ := ht9 10 (Nat.le_of_ble_eq_true rfl)
                  have E11 : (TNew _ 2 1 [.int .i64 (y1 : Int), .int .i64 (y2 : Int)]) w9 (f 11) := ht9 11 (Nat.le_of_ble_eq_true rfl)
                  have E12 : (TAny) w9 (f 12) := ht9 12 (Nat.le_of_ble_eq_true rfl)
                  have E13 : f 13 = _ := ht9 13 (Nat.le_of_ble_eq_true rfl)
                  have Ho9 : Only _ Wg w9 := hI9.2.1
                  have hown9 : w9.ownsRow (W2.heap.size) 72 2 (f 12) (G.length + 1) (cubes (gz G) ++ [.int .i64 (y1 : Int), .int .i64 (y2 : Int)]) := hI9.2.2.1
                  have hat9 : ∀ g, (f 12).ownBlock = some g → (vG).ownBlock = some g ∨ Wg.heap.size ≤ g := hI9.2.2.2
                  simp only [putAll, E0, E1, E2, E3, E4, E5, E6, E7, E8, E9, E10, E13, Nat.zero_add, Nat.reduceAdd, Act.put, List.setIfInBounds_toArray, List.set_cons_succ, List.set_cons_zero, List.take, List.getElem_toArray, List.getElem_cons_succ, List.getElem_cons_zero]
                  clear E0 E1 E2 E3 E4 E5 E6 E7 E8 E9 E10 E13
                  clear hI9 ht9 hcp9 hk9
                  generalize f 11 = r11 at *
                  generalize f 12 = r12 at *
                  have O9 : Only (fun g => vG.ownBlock = some g) Wg w9 := Ho9
                  obtain ⟨A9, c9, hv9⟩ := slice_of_own hown9
                  subst hv9
                  have hX9 := (HBa.out.x.rowG O9).2.2.1
                  have HB9 := Lib.hid (HBa.out.appG (y := y1) (z := y2) hown9 O9)
                  have q1 := blk_cell hX9 2
                  have f1 := blk_free hX9 2
                  simp at q1
                  clear Ho9 O9 hX9 hown9 hat9 hO HBa HG9
                  go_wp2_with fail
                  go_roundw
                  case rel => exact ⟨k + 1, by omega, by go_num, ⟨⟨_, by rw [HS.out]; exact HB9⟩⟩⟩
                  case measure => simp [intOf] <;> omega
                · obtain rfl : k = d.gates.length := by omega
                  have HGf : Hid ((d.gates.take d.gates.length).map (fun g => (Cir.remU d V g.1, Cir.remU d V g.2)) = (Cir.remC d V).gates) := Lib.hid (by rw [List.take_length]; rfl)
                  rw [HGf.out] at HBx
                  obtain ⟨G, hG⟩ : ∃ G, (Cir.remC d V).gates = G := ⟨_, rfl⟩
                  rw [hG] at HBx
                  have HG := Lib.hid hG
                  clear HH hlt hG HGf
                  go_wp2_with fail
                  clear z p0 p1 p2 p3
                  obtain ⟨W5, hW5⟩ : ∃ W, W = wr := ⟨_, rfl⟩
                  subst hW5
                  go_loopw [126] (fun j wr => ∃ (k : Nat), k ≤ d.outs.length ∧ j = .int .i64 k ∧ RmO w W2 gC gR gx gs gp gk n ck (d.ins : Int) (.slice An d.next.length cn) (.slice Ag d.gates.length cg) (.slice Ao d.outs.length co) vN vG d V M N G k wr) (fun j _ => d.outs.length - (intOf j).toNat)
                  case atStart => exact ⟨0, Nat.zero_le _, rfl, ⟨⟨.slice none 0 0, HBx⟩⟩⟩
                  case round =>
                    clear HBx
                    obtain ⟨k, hk, rfl, HH⟩ := hrel
                    obtain ⟨vO, HBx⟩ := HH.out
                    have hzB := HBx.out.x.zB
                    by_cases hlt : k < d.outs.length
                    · obtain ⟨l, hl⟩ := at_some hlt
                      obtain ⟨b, oo, rfl, hbl, hs⟩ := nat_cell RO.out HBx.out.x.below rfl hlt
                      have hlD : d.outs.getD k 0 = l := by rw [List.getD_eq_getElem?_getD, hl, Option.getD_some]
                      rw [hlD] at hs
                      have hl2 := HOl.out l (List.mem_of_getElem? hl)
                      have HS : Hid ((d.outs.take (k + 1)).map (Cir.remU d V) = (d.outs.take k).map (Cir.remU d V) ++ [Cir.remU d V l]) := Lib.hid (by rw [take_snoc hl, List.map_append]; rfl)
                      have hOl : ((d.outs.take k).map (Cir.remU d V)).length ≤ 3 := by rw [List.length_map, List.length_take]; omega
                      generalize (d.outs.take k).map (Cir.remU d V) = O at *
                      have HU := Lib.hid (fun w' h1 h2 => HUse.out w' l h1 h2 hl2)
                      have hyb2 := hUb.out l hl2
                      generalize Cir.remU d V l = q at *
                      clear hl hlD hbl HH
                      go_wp2_with fail
                      obtain ⟨i0, hi0, hz0, hz1, hz2⟩ := info_parts info_int
                      have hO := fun ops a => appRS2_ok (Pg := Try.prog) (ops := ops) (a := a) (news := [.int .i64 (q : Int)]) (d := 6) (HBx.out.x.o)
                      refine wp_region_rsl (appRS2 Try.prog _ wr _ (W2.heap.size) 3 1 (vO) (O.length) (nints O) [.int .i64 (q : Int)] 6) (hO _ _) (by kernel_rfl) (by kernel_rfl) (by kernel_rfl) 8 _ rfl rfl (by kernel_rfl) (show (6 : Nat) < 8 by decide) trivial HBx.out.x.o ?_
                      apply rs_eq (hO _ _) (.inl (Nat.ne_of_beq_eq_false rfl))
                      · intro ρ w' ho hK
                        have ho : Only _ wr w' := ho
                        obtain ⟨h0, -⟩ := hK
                        have h0' : ρ (.tmp 5) = _ := h0
                        go_simp
                        try exact rfl
                      apply rs_eq (hO _ _) (.inl (Nat.ne_of_beq_eq_false rfl))
                      · intro ρ w' ho hK
                        have ho : Only _ wr w' := ho
                        obtain ⟨h0, -⟩ := hK
                        have h0' : ρ (.tmp 130) = _ := h0
                        obtain ⟨-, -, hXq, -⟩ := HBx.out.x.rowO ho
                        have k1 := blk_cell hXq 3
                        simp at k1
                        go_simp
                        try exact rfl
                      refine rs_old (hO _ _) (.inl (Nat.ne_of_beq_eq_false rfl)) _ (.inl rfl) _ rfl rfl ?_
                      refine rs_old (hO _ _) (.inl (Nat.ne_of_beq_eq_false rfl)) _ (.inl rfl) _ rfl rfl ?_
                      refine rs_callV (hO _ _) (.inl (Nat.ne_of_beq_eq_false rfl)) (TEq (.int .i64 ((q : Nat) : Int))) (stb_eq _ _) (.tmp 132) _ _ rfl (fun ρ w' ho hK => by
                        have ho : Only _ wr w' := ho
                        obtain ⟨h0, h1, -⟩ := hK
                        have h0' : ρ (.tmp 132) = _ := h0
                        have h1' : ρ (.tmp 133) = _ := h1
                        refine ⟨69, #[ρ (.tmp 133)] ++ #[.pointer (some ⟨gs, 0, none⟩)], ?_, ?_⟩
                        · go_simp
                        · rw [h1']
                          refine (HU.out w' (HBx.out.midO ho).1 (HBx.out.midO ho).2.1).mono ?_
                          rintro e w2 ⟨rfl, hb⟩
                          exact ⟨_, rfl, rfl, hb⟩) ?_
                      refine rs_build1 (hO _ _) (.inl (Nat.ne_of_beq_eq_false rfl)) 1 [.int .i64 (q : Int)] 3 rfl (fun ρ w' ho hK => by
                        have ho : Only _ wr w' := ho
                        obtain ⟨h0, -⟩ := hK
                        have h0' : ρ (.tmp 134) = _ := h0
                        go_simp) ?_
                      refine rs_append2 rfl (W2.heap.size) 3 23 1 (vO) (O.length) (nints O) _ rfl rfl (fun g hg => hg) (show W2.heap.size ≤ wr.heap.size by omega) _ _ rfl _ _ rfl rfl rfl rfl i0 _ 8 Try.underlying23 hi0 hz0 hz1 hz2 rfl (by decide) (by omega) (by decide) (by simp [Value.oneCell']) ?_
                      apply rs_eq (hO _ _) (.inl (Nat.ne_of_beq_eq_false rfl))
                      · intro ρ w' ho hK
                        have ho : Only _ wr w' := ho
                        obtain ⟨h0, -⟩ := hK
                        have h0' : ρ (.tmp 5) = _ := h0
                        go_simp
                        try exact rfl
                      intro f w9 k9 hk9 hI9 ht9 hcp9
                      have E0 : f 0 = _ := ht9 0 (Nat.le_of_ble_eq_true rfl)
                      have E1 : f 1 = _ := ht9 1 (Nat.le_of_ble_eq_true rfl)
                      have E2 : f 2 = _ := ht9 2 (Nat.le_of_ble_eq_true rfl)
                      conv at E2 => rhs; whnf
                      have E3 : f 3 = _ := ht9 3 (Nat.le_of_ble_eq_true rfl)
                      conv at E3 => rhs; whnf
                      have E4 : f 4 = _ := ht9 4 (Nat.le_of_ble_eq_true rfl)
                      have E5 : (TNew _ 1 1 [.int .i64 (q : Int)]) w9 (f 5) := ht9 5 (Nat.le_of_ble_eq_true rfl)
                      have E6 : (TAny) w9 (f 6) := ht9 6 (Nat.le_of_ble_eq_true rfl)
                      have E7 : f 7 = _ := ht9 7 (Nat.le_of_ble_eq_true rfl)
                      have Ho9 : Only _ wr w9 := hI9.2.1
                      have hown9 : w9.ownsRow (W2.heap.size) 3 1 (f 6) (O.length + 1) (nints O ++ [.int .i64 (q : Int)]) := hI9.2.2.1
                      have hat9 : ∀ g, (f 6).ownBlock = some g → (vO).ownBlock = some g ∨ wr.heap.size ≤ g := hI9.2.2.2
                      simp only [putAll, E0, E1, E2, E3, E4, E7, Nat.zero_add, Nat.reduceAdd, Act.put, List.setIfInBounds_toArray, List.set_cons_succ, List.set_cons_zero, List.take, List.getElem_toArray, List.getElem_cons_succ, List.getElem_cons_zero]
                      clear E0 E1 E2 E3 E4 E7
                      clear hI9 ht9 hcp9 hk9
                      generalize f 5 = r5 at *
                      generalize f 6 = r6 at *
                      have O9 : Only (fun g => vO.ownBlock = some g) wr w9 := Ho9
                      obtain ⟨A9, c9, hv9⟩ := slice_of_own hown9
                      subst hv9
                      have hX9 := (HBx.out.x.rowO O9).2.2.1
                      have HB9 := Lib.hid (HBx.out.appO (y := q) hown9 O9 hat9)
                      have q1 := blk_cell hX9 3
                      have f1 := blk_free hX9 3
                      simp at q1
                      clear Ho9 O9 hX9 hown9 hat9 hO HBx hs
                      go_wp2_with fail
                      go_roundw
                      case rel => exact ⟨k + 1, by omega, by go_num, ⟨⟨_, by rw [HS.out]; exact HB9⟩⟩⟩
                      case measure => simp [intOf] <;> omega
                    · obtain rfl : k = d.outs.length := by omega
                      have HOf : Hid ((d.outs.take d.outs.length).map (Cir.remU d V) = (Cir.remC d V).outs) := Lib.hid (by rw [List.take_length]; rfl)
                      rw [HOf.out] at HBx
                      have hx := HBx.out.x.hx
                      have hPf : PCirc wr gx (Cir.toCz (Cir.remC d V)) := by
                        have e1 : (Cir.toCz (Cir.remC d V)).next = nats N := by rw [← HN.out]; rfl
                        have e2 : (Cir.toCz (Cir.remC d V)).gates = gz G := by rw [← HG.out]; rfl
                        have e3 : (Cir.toCz (Cir.remC d V)).outs = nats (Cir.remC d V).outs := rfl
                        refine ⟨vN, vG, vO, blk_ltB hx, blk_cell hx 0, blk_cell hx 1, blk_cell hx 2, blk_cell hx 3, ?_, ?_, ?_⟩
                        · rw [e1]; unfold IntsAt; rw [nats_length]; exact Row.of_own HBx.out.x.n
                        · rw [e2]; unfold CubesAt; rw [gz_length]; exact Row.of_own HBx.out.x.g
                        · rw [e3]; unfold IntsAt; rw [nats_length]; exact Row.of_own HBx.out.x.o
                      have HOp := Lib.hid (optimize_any gx (Cir.remC d V) wr hPf (Cir.remC_ok HD.out V))
                      have HBf := Lib.hid HBx.out.x.below
                      have HRf := Lib.hid HBx.out.x.hR
                      clear hx hPf HBx HH hlt
                      go_wp2_with fail
                      refine HOp.out.mono ?_
                      rintro e w7 ⟨⟨v7, rfl, hC7⟩, hb7⟩
                      have HR7 := Lib.hid ((hb7.block gR (blk_ltB HRf.out)).trans HRf.out)
                      have HB7 := Lib.hid (HBf.out.trans (hb7.mono HBf.out.size))
                      have HC7 := Lib.hid hC7
                      obtain ⟨B1, b1, B2, b2, B4, b4, rfl⟩ := hC7.at.shape
                      have r0 := blk_cell HR7.out 0
                      have r1 := blk_cell HR7.out 1
                      have r2 := blk_cell HR7.out 2
                      have r3 := blk_cell HR7.out 3
                      simp at r0 r1 r2 r3
                      have f0 := blk_free HR7.out 0
                      have f1 := blk_free HR7.out 1
                      have f2 := blk_free HR7.out 2
                      have f3 := blk_free HR7.out 3
                      clear hC7 hb7 HRf HBf HOp
                      generalize (Cir.toCz (Cir.optI (Cir.remC d V))).next.length = M1 at *
                      generalize (Cir.toCz (Cir.optI (Cir.remC d V))).gates.length = M2 at *
                      generalize (Cir.toCz (Cir.optI (Cir.remC d V))).outs.length = M3 at *
                      generalize (Cir.toCz (Cir.optI (Cir.remC d V))).ins = M0 at *
                      have hwR : w.heap.size ≤ gR := by omega
                      go_wp2_with fail
                      refine bodyPost_ret (v := .agg #[.int .i64 M0, .slice B1 M1 b1, .slice B2 M2 b2, .slice B4 M3 b4]) (by simp [results, Try.results24, go_sem, r0, r1, r2, r3]) rfl ⟨⟨_, V, rfl, HNe.out, circOwn_four HC7.out HR7.out⟩, ?_⟩
                      exact (((HB7.out.setCell hwR _).setCell hwR _).setCell hwR _).setCell hwR _
end Go.Proofs.Ytdgminjbgjbamaa
namespace Go.Proofs.Ytdgminjbgjbamaa
namespace Cir
def colV (c : Ci) (v : Nat) : List Bool := (List.range (2 ^ (c.ins + c.next.length))).map fun x => (vals c (bits (x / 2 ^ c.ins) c.next.length) (bits x c.ins)).getD v false
def eqs (a b : List Bool) : Nat → Nat
  | 0 => 0
  | n + 1 => eqs a b n + (if a.getD n false = b.getD n false then 1 else 0)
def cmpC (a b : List Bool) : Int := if eqs a b a.length = a.length then 1 else if eqs a b a.length = 0 then -1 else 0
def swLit (c : Ci) (l u : Nat) : Option Nat := if cmpC (colV c u) (colV c (l / 2)) = 1 then some (2 * u + l % 2) else if cmpC (colV c u) (colV c (l / 2)) = -1 then some (2 * u + 1 - l % 2) else none
def sweepU (c : Ci) (l : Nat) : Nat := ((List.range (l / 2)).findSome? (swLit c l)).getD l
def mapCi (u : Nat → Nat) (c : Ci) : Ci := { ins := c.ins, next := c.next.map u, gates := c.gates.map fun g => (u g.1, u g.2), outs := c.outs.map u }
def sweepC (c : Ci) : Ci := mapCi (sweepU c) c
def sweepI (c : Ci) : Ci := optI (sweepC (optI c))
end Cir
end Go.Proofs.Ytdgminjbgjbamaa
namespace Go.Proofs.Ytdgminjbgjbamaa
open Go.RowKit Go.Maps
def bcode (b : Bool) : Int := if b then 49 else 48
def colS (l : List Bool) : ByteArray := strOfNums (l.map bcode)
end Go.Proofs.Ytdgminjbgjbamaa
namespace Go.Proofs.Ytdgminjbgjbamaa
open Go.RowKit Go.Maps
def colsV (c : Ci) (n : Nat) : List Value := (List.range n).map fun v => Value.string (colS (Cir.colV c v))
end Go.Proofs.Ytdgminjbgjbamaa
namespace Go.Proofs.Ytdgminjbgjbamaa
open Go.RowKit
theorem circInts_same (v v2 : Value) (xs : List Int) (w : World) (h : IntsAt w v xs) (h2 : IntsAt w v2 xs) (hl : xs.length ≤ 1000000) :
    Calls Try.prog 64 #[v, v2] w fun e w' => e = .returned (.bool true) ∧ Drew w w' := by
  obtain ⟨A, c, hv, hc, hcm⟩ := h.shape
  obtain ⟨A2, c2, hv2, hc2, hcm2⟩ := h2.shape
  subst hv hv2
  unfold maxLen at hcm hcm2
  have he1 : ((xs.length : Int) != (xs.length : Int)) = false := by simp
  have H1 := Lib.hid h
  have H2 := Lib.hid h2
  clear h h2
  go_enter Try.func64, Try.ntmps64
  go_wp2_with fail
  go_loopw [5] (fun i wr => ∃ (k : Nat), k ≤ xs.length ∧ i = .int .i64 k ∧ Drew w wr) (fun i _ => xs.length - (intOf i).toNat)
  case atStart => exact ⟨0, Nat.zero_le _, rfl, Drew.refl _⟩
  case round =>
    obtain ⟨k, hk, rfl, hd⟩ := hrel
    by_cases hlt : k < xs.length
    · obtain ⟨b, o, c', hv, _, _, hbl, hcell⟩ := H1.out.open (by omega)
      obtain ⟨rfl, _⟩ : A = some ⟨b, o, none⟩ ∧ True := by injection hv with e1; exact ⟨e1, trivial⟩
      obtain ⟨b2, o2, c2', hv2, _, _, hbl2, hcell2⟩ := H2.out.open (by omega)
      obtain ⟨rfl, _⟩ : A2 = some ⟨b2, o2, none⟩ ∧ True := by injection hv2 with e1; exact ⟨e1, trivial⟩
      obtain ⟨x, hx, hs⟩ := ints_at hlt
      have hsrc : wr.cell? ⟨b, o + k, none⟩ = some (.int .i64 x) := (hd.cell _).trans (hcell k _ hs)
      have hsrc2 : wr.cell? ⟨b2, o2 + k, none⟩ = some (.int .i64 x) := (hd.cell _).trans (hcell2 k _ hs)
      have hxx : (x != x) = false := by simp
      have Hd := Lib.hid hd
      clear hcell hcell2 hv hv2 hs hx hd
      go_wp2_with fail
      go_quiet (fail)
      go_wp2_with fail
      go_roundw
      case rel => exact ⟨k + 1, by omega, by go_num, Hd.out.more _⟩
      case measure => simp [intOf]; omega
    · go_wp2_with fail
      go_ret
      exact ⟨rfl, hd⟩
theorem sameCircuit_same (v v2 : Value) (c : Cz) (w : World) (h : CircAt w v c) (h2 : CircAt w v2 c) (l1 : c.next.length ≤ 1000000) (l2 : c.gates.length ≤ 1000000) (l3 : c.outs.length ≤ 1000000) :
    Calls Try.prog 21 #[v, v2] w fun e w' => e = .returned (.bool true) ∧ Below w.heap.size w w' := by
  obtain ⟨An, cn, Ag, cg, Ao, co, rfl⟩ := h.shape
  obtain ⟨Bn, dn, Bg, dg, Bo, d_o, rfl⟩ := h2.shape
  obtain ⟨vn, vg, vo, e, r1, r2, r3⟩ := h
  injection e with e
  simp only [Array.mk.injEq, List.cons.injEq, and_true] at e
  obtain ⟨-, e1, e2, e3⟩ := e
  subst e1 e2 e3
  obtain ⟨un, ug, uo, e, s1, s2, s3⟩ := h2
  injection e with e
  simp only [Array.mk.injEq, List.cons.injEq, and_true] at e
  obtain ⟨-, e1, e2, e3⟩ := e
  subst e1 e2 e3
  have R1 := Lib.hid r1
  have R2 := Lib.hid r2
  have R3 := Lib.hid r3
  have S1 := Lib.hid s1
  have S2 := Lib.hid s2
  have S3 := Lib.hid s3
  clear r1 r2 r3 s1 s2 s3
  have hn : ((c.ins : Int) != c.ins) = false := by simp
  have hg : ((c.gates.length : Int) != c.gates.length) = false := by simp
  have hb1 := bel_new w (.cells #[.int .i64 c.ins, .slice An c.next.length cn, .slice Ag c.gates.length cg, .slice Ao c.outs.length co] 26)
  have P1 := PCells.boxed w c.ins (.slice An c.next.length cn) (.slice Ag c.gates.length cg) (.slice Ao c.outs.length co) 26
  obtain ⟨W1, hW1⟩ : ∃ W1, w.alloc (.cells #[.int .i64 c.ins, .slice An c.next.length cn, .slice Ag c.gates.length cg, .slice Ao c.outs.length co] 26) = W1 := ⟨_, rfl⟩
  rw [hW1] at hb1 P1
  have hb2 := bel_new W1 (.cells #[.int .i64 c.ins, .slice Bn c.next.length dn, .slice Bg c.gates.length dg, .slice Bo c.outs.length d_o] 26)
  have P2 := PCells.boxed W1 c.ins (.slice Bn c.next.length dn) (.slice Bg c.gates.length dg) (.slice Bo c.outs.length d_o) 26
  obtain ⟨W2, hW2⟩ : ∃ W2, W1.alloc (.cells #[.int .i64 c.ins, .slice Bn c.next.length dn, .slice Bg c.gates.length dg, .slice Bo c.outs.length d_o] 26) = W2 := ⟨_, rfl⟩
  rw [hW2] at hb2 P2
  have HB2 := Lib.hid (hb1.trans (hb2.mono hb1.size))
  have P1 := P1.below hb2
  obtain ⟨g1, hg1⟩ : ∃ g, w.heap.size = g := ⟨_, rfl⟩
  obtain ⟨g2, hg2⟩ : ∃ g, W1.heap.size = g := ⟨_, rfl⟩
  rw [hg1] at P1
  rw [hg2] at P2
  have P1h := Lib.hid P1
  have P2h := Lib.hid P2
  obtain ⟨z1, p0, p1, p2, p3⟩ := P1
  obtain ⟨z2, q0, q1, q2, q3⟩ := P2
  clear hb1 hb2
  go_enter Try.func21, Try.ntmps21
  go_wp2_with fail
  clear hW1 hW2 hg2
  have T1 := R1.out.below HB2.out
  have T2 := S1.out.below HB2.out
  refine (circInts_same _ _ c.next _ T1 T2 l1).mono ?_
  rintro e w1 ⟨rfl, hd⟩
  have hb := hd.below W2.heap.size
  have HB3 := Lib.hid (HB2.out.trans (hb.mono HB2.out.size))
  have P1h := Lib.hid (P1h.out.below hb)
  have P2h := Lib.hid (P2h.out.below hb)
  clear HB2 T1 T2 hd hb z1 p0 p1 p2 p3 z2 q0 q1 q2 q3 R1 S1
  obtain ⟨z1, p0, p1, p2, p3⟩ := P1h.out
  obtain ⟨z2, q0, q1, q2, q3⟩ := P2h.out
  have T1 := R3.out.below HB3.out
  have T2 := S3.out.below HB3.out
  go_wp2_with fail
  refine (circInts_same _ _ c.outs _ T1 T2 l3).mono ?_
  rintro e w2 ⟨rfl, hd⟩
  have hb := hd.below w1.heap.size
  have HB4 := Lib.hid (HB3.out.trans (hb.mono HB3.out.size))
  have P1h := Lib.hid (P1h.out.below hb)
  have P2h := Lib.hid (P2h.out.below hb)
  clear HB3 T1 T2 hd hb z1 p0 p1 p2 p3 z2 q0 q1 q2 q3 R3 S3
  obtain ⟨z1, p0, p1, p2, p3⟩ := P1h.out
  obtain ⟨z2, q0, q1, q2, q3⟩ := P2h.out
  go_wp2_with fail
  go_loopw [5] (fun i wr => ∃ (k : Nat), k ≤ c.gates.length ∧ i = .int .i64 k ∧ Drew w2 wr) (fun i _ => c.gates.length - (intOf i).toNat)
  case atStart => exact ⟨0, Nat.zero_le _, rfl, Drew.refl _⟩
  case round =>
    obtain ⟨k, hk, rfl, hd⟩ := hrel
    have a2 := (hd.cell _).trans p2
    have b2 := (hd.cell _).trans q2
    clear z1 p0 p1 p2 p3 z2 q0 q1 q2 q3
    by_cases hlt : k < c.gates.length
    · obtain ⟨b, o, x, rfl, hbl, hx, hs1, hs2⟩ := cubes_open R2.out (HB4.out.trans ((hd.below w2.heap.size).mono HB4.out.size)) rfl hlt
      obtain ⟨b2, o2, y, rfl, hbl2, hy, ht1, ht2⟩ := cubes_open S2.out (HB4.out.trans ((hd.below w2.heap.size).mono HB4.out.size)) rfl hlt
      have hxy : x = y := Option.some.inj (hx.out.symm.trans hy.out)
      subst hxy
      have Hd := Lib.hid hd
      clear hx hy hd
      have h1 : (x.1 == x.1) = true := by simp
      have h2 : (x.2 == x.2) = true := by simp
      go_wp2_with fail
      go_quiet (fail)
      go_wp2_with fail
      go_roundw
      case rel => exact ⟨k + 1, by omega, by go_num, Hd.out.more _⟩
      case measure => simp [intOf]; omega
    · go_wp2_with fail
      go_ret
      exact ⟨rfl, HB4.out.trans ((hd.below w2.heap.size).mono HB4.out.size)⟩
end Go.Proofs.Ytdgminjbgjbamaa
namespace Go.Proofs.Ytdgminjbgjbamaa
open Go.RowKit
end Go.Proofs.Ytdgminjbgjbamaa
namespace Go.Proofs.Ytdgminjbgjbamaa
open Go.RowKit
theorem append_nil_nil (w : World) : (Builtin.append_ #[23, 23] 23 #[.slice none 0 0, .slice none 0 0]).run Try.prog w = .ok (.slice none 0 0) w := by kernel_rfl
theorem roots_zero (g : Nat) (w : World) (h1 : w.cell? ⟨g, 1, none⟩ = some (.slice none 0 0)) (h3 : w.cell? ⟨g, 3, none⟩ = some (.slice none 0 0)) :
    Calls Try.prog 81 #[.pointer (some ⟨g, 0, none⟩)] w fun e w' => e = .returned (.slice none 0 0) ∧ Drew w w' := by
  have hap := append_nil_nil
  go_enter Try.func81, Try.ntmps81
  go_wp2_with fail
  go_quiet (fail)
  go_wp2_with fail
  go_ret
  exact ⟨rfl, Drew.by _ _⟩
theorem valid_zero (w : World) : Calls Try.prog 34 #[.agg #[.int .i64 0, .slice none 0 0, .slice none 0 0, .slice none 0 0]] w fun e w' => e = .returned (.bool true) ∧ Below w.heap.size w w' := by
  go_enter Try.func34, Try.ntmps34
  go_wp2
  go_loop [44] (fun i => i = .int .i64 0) (fun _ => 0)
  case atStart => rfl
  case round =>
    obtain rfl := hrel
    go_wp2_with fail
    refine (roots_zero w.heap.size _ ?_ ?_).mono ?_
    · simp [World.cell?_alloc_new]
    · simp [World.cell?_alloc_new]
    rintro e w' ⟨rfl, hd⟩
    go_wp2
    go_loop [68] (fun i => i = .int .i64 0) (fun _ => 0)
    case atStart => rfl
    case round =>
      obtain rfl := hrel
      go_wp2
      go_ret
      exact ⟨rfl, ((Below.refl _ _).alloc (Nat.le_refl _) _).trans (hd.below _)⟩
theorem alive_any (w : World) : Calls Try.prog 12 #[] w fun e w' => e = .returned (.bool true) ∧ Below w.heap.size w w' := by
  go_enter Try.func12, Try.ntmps12
  go_wp2_with (go_at_call 34; refine (valid_zero _).mono ?_; rintro e w' ⟨rfl, hb⟩)
  go_ret
  exact ⟨rfl, hb⟩
end Go.Proofs.Ytdgminjbgjbamaa