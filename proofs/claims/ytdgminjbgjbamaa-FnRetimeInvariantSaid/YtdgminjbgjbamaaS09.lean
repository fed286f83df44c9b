import Derived.Test.YtdgminjbgjbamaaS08
import Derived.Deep.RegionWith
import Derived.Deep.DeepCutAuto
import Derived.Test.YtdgminjbgjbamaaS05
import Derived.Test.YtdgminjbgjbamaaS07
import Derived.Test.YtdgminjbgjbamaaS04
import Derived.Test.YtdgminjbgjbamaaS03
import Derived.Test.YtdgminjbgjbamaaS01
set_option linter.unusedVariables false
set_option linter.unusedSimpArgs false
set_option maxRecDepth 100000
set_option maxHeartbeats 16000000
namespace Go.Proofs.Ytdgminjbgjbamaa
open Go.RowKit
namespace Two
theorem rowF_length {f : List (Nat × Nat) → Nat × Nat → List (Nat × Nat)} (hf : ∀ out k, (f out k).length ≤ out.length + 1) (out : List (Nat × Nat)) (c : Nat) : ∀ v, (rowF f out c v).length ≤ out.length + v
  | 0 => Nat.le_refl _
  | v + 1 => by
    have h1 := hf (rowF f out c v) (c, v)
    have h2 := rowF_length hf out c v
    rw [rowF]
    omega
end Two
def primesI (t n : Int) : List (Nat × Nat) := if fitsT t n then Two.primes t.toNat n.toNat else []
def PrimesOut (t n : Int) (w : World) (e : Ending) (w' : World) : Prop :=
  ∃ v, e = .returned v ∧ w'.ownsRow w.heap.size 53 2 v (primesI t n).length (cubes ((primesI t n).map intK)) ∧ Below w.heap.size w w'
end Go.Proofs.Ytdgminjbgjbamaa
namespace Go.Proofs.Ytdgminjbgjbamaa
open Go.RowKit Go.Maps
end Go.Proofs.Ytdgminjbgjbamaa
namespace Go.Proofs.Ytdgminjbgjbamaa
open Go.RowKit
@[reducible] def rdStepRS (Pg : Program) (ops : Array Oper) (R P : Nat) (w : World) (a : Act) (k : Nat) (R0 R1 : World → Prop) (d : Nat) : RS :=
  { P := Pg, ops := ops, E := fun g => g = R ∨ g = k, F := (· = R), rd := some (R, P), w0 := w, J := JStep R0 R1, d := d, a0 := a }
section
variable {S : RS} {Fin : List Ty → Prop} {o : Oper} {l : List Oper} {i : Nat} {τs : List Ty}
end
def DrawnFindViolation (w : World) (e : Ending) (w' : World) : Prop := ∃ v c, ∃ o : Int, e = .returned (.tuple #[v, .int .i64 o]) ∧ OwnC w.heap.size v c w' ∧ Small c ∧ -1 ≤ o ∧ o ≤ 7 ∧ Below w.heap.size w w'
end Go.Proofs.Ytdgminjbgjbamaa
namespace Go.Proofs.Ytdgminjbgjbamaa
open Go.RowKit Go.Maps
@[reducible] def ringRS (Pg : Program) (ops : Array Oper) (R P : Nat) (w : World) (a : Act) : RS := { P := Pg, ops := ops, E := (· = R), F := (· = R), rd := some (R, P), w0 := w, J := fun _ _ => True, d := 0, a0 := a }
theorem ringRS_ok {Pg : Program} {ops : Array Oper} {R P : Nat} {w : World} {a : Act} (h : R < w.heap.size) : (ringRS Pg ops R P w a).Ok :=
  ⟨fun _ h => h, fun _ _ _ _ _ => trivial, fun _ _ e => by cases e; exact ⟨rfl, h⟩, fun _ e => by cases e; exact h⟩
def DrewRing (R : Nat) (w : World) (e : Ending) (w' : World) : Prop := ∃ v c i, e = .returned (.tuple #[v, .int .i64 i]) ∧ CircOwn 0 w' v c ∧ -1 ≤ i ∧ i ≤ 1000 ∧ Only (fun g => g = R) w w'
structure RingX (w : World) (R n0 g4 : Nat) (L0 : Int) (v1 v2 v3 : Value) (c : Cz) (P : Nat) (wr : World) : Prop where
  x : wr.heap[n0]? = some (.cells #[.int .i64 0, .slice none 0 0, .slice none 0 0, .slice none 0 0] 26 (0, 0))
  a : wr.heap[g4]? = some (.cells #[.int .i64 L0, v1, v2, v3] 26 (0, 0))
  o : Only (fun g => g = R) w wr
  r : Rd wr R P
  c : CircOwn w.heap.size wr (.agg #[.int .i64 L0, v1, v2, v3]) c
  lR : R < n0
  l4 : n0 < g4
  lw : w.heap.size ≤ n0
section
variable {w wr w' : World} {R n0 g4 P P' : Nat} {L0 : Int} {v1 v2 v3 : Value} {c : Cz}
theorem RingX.step (h : RingX w R n0 g4 L0 v1 v2 v3 c P wr) (hb : Below wr.heap.size wr w') : RingX w R n0 g4 L0 v1 v2 v3 c P w' :=
  ⟨(hb.block n0 (blk_ltB h.x)).trans h.x, (hb.block g4 (blk_ltB h.a)).trans h.a, h.o.trans (Only.of_below _ hb), h.r.below hb h.r.lt, h.c.below hb, h.lR, h.l4, h.lw⟩
theorem RingX.draw (h : RingX w R n0 g4 L0 v1 v2 v3 c P wr) (hr : Rd w' R P') (ho : Only (fun g => g = R) wr w') : RingX w R n0 g4 L0 v1 v2 v3 c P' w' := by
  have h1 := h.lR
  have h2 := h.l4
  obtain ⟨A, q, p, bs, hh, -⟩ := id h.r
  exact ⟨(ho.block n0 (blk_ltB h.x) (by omega)).trans h.x, (ho.block g4 (blk_ltB h.a) (by omega)).trans h.a, h.o.trans ho, hr, h.c.tag hh (by decide) (by decide) ho, h.lR, h.l4, h.lw⟩
end
theorem l20Ring_any (R P : Nat) (w : World) (h : Rd w R P) (hP : P ≤ 50000) :
    Calls Try.prog 59 #[.pointer (some ⟨R, 0, none⟩), .int .i64 12] w (DrewRing R w) := by
  have zR := h.lt
  have hX0 := heap_alloc_new w (.cells #[.int .i64 0, .slice none 0 0, .slice none 0 0, .slice none 0 0] 26)
  have hb0 := bel_new w (.cells #[.int .i64 0, .slice none 0 0, .slice none 0 0, .slice none 0 0] 26)
  have hs : (w.alloc (.cells #[.int .i64 0, .slice none 0 0, .slice none 0 0, .slice none 0 0] 26)).heap.size = w.heap.size + 1 := by simp
  have Hr0 := Lib.hid (h.alloc (.cells #[.int .i64 0, .slice none 0 0, .slice none 0 0, .slice none 0 0] 26))
  have HB0 := Lib.hid hb0
  have HX0 := Lib.hid hX0
  clear hX0 hb0 h
  go_enter Try.func59, Try.ntmps59
  go_wp2_with fail
  generalize w.alloc (.cells #[.int .i64 0, .slice none 0 0, .slice none 0 0, .slice none 0 0] 26) = W1 at *
  obtain ⟨n0, hn0⟩ : ∃ n0, w.heap.size = n0 := ⟨_, rfl⟩
  have Hn0 := Lib.hid hn0
  rw [hn0] at HX0 hs zR ⊢
  clear hn0
  refine (l20Circuit_any R P 12 _ Hr0.out (by omega) (by omega) (by omega)).mono ?_
  rintro e w3 ⟨v3', c, rfl, hO, hS, hr3, hg3⟩
  have hL1 : c.next.length ≤ 4 := hS.n
  have hL2 : c.gates.length ≤ 15 := hS.g
  have hLi1 := hS.i1
  have hLi2 := hS.i2
  obtain ⟨vN, vG, vO, e3, o1, o2, o3, -⟩ := hO
  obtain ⟨An, cn, hvn⟩ := slice_of_own o1
  obtain ⟨Ag, cg, hvg⟩ := slice_of_own o2
  obtain ⟨Ao, co, hvo⟩ := slice_of_own o3
  subst hvn hvg hvo e3
  have hz3 := hg3.size
  have hX3 := res_grown HX0.out hg3 (fun e => by have := Option.some.inj e; omega)
  have hb4 := bel_new w3 (.cells #[.int .i64 c.ins, .slice An c.next.length cn, .slice Ag c.gates.length cg, .slice Ao c.outs.length co] 26)
  have hA4 := heap_alloc_new w3 (.cells #[.int .i64 c.ins, .slice An c.next.length cn, .slice Ag c.gates.length cg, .slice Ao c.outs.length co] 26)
  have hm : w.heap.size ≤ W1.heap.size := HB0.out.size
  have H4 : RingX w R n0 w3.heap.size c.ins (.slice An c.next.length cn) (.slice Ag c.gates.length cg) (.slice Ao c.outs.length co) c (P + 10000) (w3.alloc (.cells #[.int .i64 c.ins, .slice An c.next.length cn, .slice Ag c.gates.length cg, .slice Ao c.outs.length co] 26)) :=
    ⟨(hb4.block n0 (blk_ltB hX3)).trans hX3, hA4, ((Only.of_below (fun g => g = R) HB0.out).trans (Only.grown hg3 fun k hk => (Option.some.inj hk).symm)).trans (Only.of_below _ hb4), hr3.alloc _, ⟨_, _, _, rfl, own_mono (own_below o1 hb4) hm, own_mono (own_below o2 hb4) hm, own_mono (own_below o3 hb4) hm⟩, by omega, by omega, by have := Hn0.out; omega⟩
  have HO2 : Hid (w3.ownsRow W1.heap.size 72 2 (.slice Ag c.gates.length cg) c.gates.length (cubes c.gates)) := Lib.hid o2
  have H4' := Lib.hid H4
  have a2 := blk_cell H4.a 2
  simp at a2
  have hw2 : IntKind.i64.wrap ((c.gates.length : Int) + 2) = (c.gates.length : Int) + 2 := IntWalk.i64_in _ (by omega)
  clear hX3 hb4 hA4 hS hr3 hg3 o1 o2 o3 HX0 Hr0 H4
  go_wp2_with fail
  generalize w3.alloc (.cells #[.int .i64 c.ins, .slice An c.next.length cn, .slice Ag c.gates.length cg, .slice Ao c.outs.length co] 26) = w4 at *
  obtain ⟨g4, hg4⟩ : ∃ g, w3.heap.size = g := ⟨_, rfl⟩
  rw [hg4] at H4' ⊢
  clear a2 HO2 hz3 hg4
  refine (pick_any ((c.gates.length : Int) + 2) R _ _ H4'.out.r (by omega) (by omega) (by omega)).mono ?_
  rintro e w5 ⟨x, hx0, hx1, rfl, hr5, hg5⟩
  have H5 := Lib.hid (H4'.out.draw hr5 (Only.grown hg5 fun k hk => (Option.some.inj hk).symm))
  have hwx : IntKind.i64.wrap (x - 1) = x - 1 := IntWalk.i64_in _ (by omega)
  obtain ⟨L1, hL1e⟩ : ∃ L, c.next.length = L := ⟨_, rfl⟩
  obtain ⟨L2, hL2e⟩ : ∃ L, c.gates.length = L := ⟨_, rfl⟩
  obtain ⟨L3, hL3e⟩ : ∃ L, c.outs.length = L := ⟨_, rfl⟩
  obtain ⟨L0, hL0e⟩ : ∃ L, c.ins = L := ⟨_, rfl⟩
  rw [hL1e, hL2e, hL3e, hL0e] at H5 ⊢
  rw [hL1e] at hL1
  rw [hL2e] at hL2
  rw [hL2e] at hx1
  rw [hL0e] at hLi1 hLi2
  have HL2 := Lib.hid hL2e
  clear hr5 hg5 H4' hw2 hL1e hL2e hL3e hL0e
  have a0 := blk_cell H5.out.a 0
  have a1 := blk_cell H5.out.a 1
  have a2 := blk_cell H5.out.a 2
  have a3 := blk_cell H5.out.a 3
  simp at a0 a1 a2 a3
  go_wp2_with fail
  refine (specValid_any _ c _ H5.out.c.at).mono ?_
  rintro e w6 ⟨rfl, hb6⟩
  have H6 := Lib.hid (H5.out.step hb6)
  clear a0 a1 a2 a3 hb6 H5
  have a0 := blk_cell H6.out.a 0
  have a1 := blk_cell H6.out.a 1
  have a2 := blk_cell H6.out.a 2
  have a3 := blk_cell H6.out.a 3
  simp at a0 a1 a2 a3
  have x0 := blk_cell H6.out.x 0
  have x1 := blk_cell H6.out.x 1
  have x2 := blk_cell H6.out.x 2
  have x3 := blk_cell H6.out.x 3
  have f0 := blk_free H6.out.x 0
  have f1 := blk_free H6.out.x 1
  have f2 := blk_free H6.out.x 2
  have f3 := blk_free H6.out.x 3
  simp at x0 x1 x2 x3
  cases hv : Cir.valid c
  · clear hv
    go_wp2_with fail
    refine bodyPost_ret (v := .tuple #[.agg #[.int .i64 L0, .slice An L1 cn, .slice Ag L2 cg, .slice Ao L3 co], .int .i64 (x - 1)]) (by simp [results, Try.results59, go_sem, x0, x1, x2, x3]) rfl ⟨_, c, _, rfl, circOwn_four (CircOwn.mono H6.out.c (Nat.zero_le _)) H6.out.x, by omega, by omega, ?_⟩
    exact H6.out.o.aft (set4_only _ n0 _ _ _ _) (fun g hg => .inl (by have := H6.out.lw; omega))
  by_cases h1 : ¬ 0 < L1
  · have d1 : decide (0 < (L1 : Int)) = false := decide_eq_false (by omega)
    have d2 : decide (0 < L1) = false := decide_eq_false h1
    go_wp2_with fail
    refine bodyPost_ret (v := .tuple #[.agg #[.int .i64 L0, .slice An L1 cn, .slice Ag L2 cg, .slice Ao L3 co], .int .i64 (x - 1)]) (by simp [results, Try.results59, go_sem, x0, x1, x2, x3]) rfl ⟨_, c, _, rfl, circOwn_four (CircOwn.mono H6.out.c (Nat.zero_le _)) H6.out.x, by omega, by omega, ?_⟩
    exact H6.out.o.aft (set4_only _ n0 _ _ _ _) (fun g hg => .inl (by have := H6.out.lw; omega))
  have h1' : 0 < L1 := by omega
  have d1 : decide (0 < (L1 : Int)) = true := decide_eq_true (by omega)
  have d2 : decide (0 < L1) = true := decide_eq_true h1'
  by_cases h2 : ¬ 0 < L2
  · have d3 : decide (0 < (L2 : Int)) = false := decide_eq_false (by omega)
    have d4 : decide (0 < L2) = false := decide_eq_false h2
    go_wp2_with fail
    refine bodyPost_ret (v := .tuple #[.agg #[.int .i64 L0, .slice An L1 cn, .slice Ag L2 cg, .slice Ao L3 co], .int .i64 (x - 1)]) (by simp [results, Try.results59, go_sem, x0, x1, x2, x3]) rfl ⟨_, c, _, rfl, circOwn_four (CircOwn.mono H6.out.c (Nat.zero_le _)) H6.out.x, by omega, by omega, ?_⟩
    exact H6.out.o.aft (set4_only _ n0 _ _ _ _) (fun g hg => .inl (by have := H6.out.lw; omega))
  have h2' : 0 < L2 := by omega
  have d3 : decide (0 < (L2 : Int)) = true := decide_eq_true (by omega)
  have d4 : decide (0 < L2) = true := decide_eq_true h2'
  have hok := (Cir.nat_ok hv).1
  have hLi : 0 ≤ L0 := by
    have h := hv
    unfold Cir.valid Cir.sizes at h
    simp only [Bool.and_eq_true, decide_eq_true_eq] at h
    have h3 := h.1.1.1
    have e := H6.out.c
    obtain ⟨_, _, _, e, -⟩ := e
    injection e with e
    simp only [Array.mk.injEq, List.cons.injEq, and_true] at e
    obtain ⟨e0, -⟩ := e
    injection e0 with _ e0
    omega
  clear hok hv h1 h2
  go_wp2_with fail
  refine (pick_any 3 R _ _ H6.out.r (by omega) (by omega) (by omega)).mono ?_
  rintro e w7 ⟨y, hy0, hy1, rfl, hr7, hg7⟩
  have H7 := Lib.hid (H6.out.draw hr7 (Only.grown hg7 fun k hk => (Option.some.inj hk).symm))
  clear a0 a1 a2 a3 x0 x1 x2 x3 f0 f1 f2 f3 hr7 hg7 H6
  have a0 := blk_cell H7.out.a 0
  have a1 := blk_cell H7.out.a 1
  have a2 := blk_cell H7.out.a 2
  have a3 := blk_cell H7.out.a 3
  simp at a0 a1 a2 a3
  by_cases h3 : ¬ 0 < y
  · have d5 : decide (0 < y) = false := decide_eq_false h3
    have x0 := blk_cell H7.out.x 0
    have x1 := blk_cell H7.out.x 1
    have x2 := blk_cell H7.out.x 2
    have x3 := blk_cell H7.out.x 3
    have f0 := blk_free H7.out.x 0
    have f1 := blk_free H7.out.x 1
    have f2 := blk_free H7.out.x 2
    have f3 := blk_free H7.out.x 3
    simp at x0 x1 x2 x3
    go_wp2_with fail
    refine bodyPost_ret (v := .tuple #[.agg #[.int .i64 L0, .slice An L1 cn, .slice Ag L2 cg, .slice Ao L3 co], .int .i64 (x - 1)]) (by simp [results, Try.results59, go_sem, x0, x1, x2, x3]) rfl ⟨_, c, _, rfl, circOwn_four (CircOwn.mono H7.out.c (Nat.zero_le _)) H7.out.x, by omega, by omega, ?_⟩
    exact H7.out.o.aft (set4_only _ n0 _ _ _ _) (fun g hg => .inl (by have := H7.out.lw; omega))
  have h3' : 0 < y := by omega
  have d5 : decide (0 < y) = true := decide_eq_true h3'
  clear h3
  go_wp2_with fail
  refine (pick_any (L2 : Int) R _ _ H7.out.r (by omega) (by omega) (by omega)).mono ?_
  rintro e w8 ⟨k0, hk0, hk1, rfl, hr8, hg8⟩
  obtain ⟨k, rfl⟩ : ∃ k : Nat, k0 = (k : Int) := ⟨k0.toNat, by omega⟩
  have H8 := Lib.hid (H7.out.draw hr8 (Only.grown hg8 fun k hk => (Option.some.inj hk).symm))
  clear a0 a1 a2 a3 hr8 hg8 H7
  have hL11 : L1 - 1 + 1 = L1 := by omega
  have hwl : IntKind.i64.wrap (L0 + 1) = L0 + 1 := IntWalk.i64_in _ (by omega)
  have hOk := fun ops a => ringRS_ok (Pg := Try.prog) (ops := ops) (P := P + 10000 + 1 + 1 + 1) (a := a) H8.out.r.lt
  go_wp2_with fail
  refine wp_region_rs (ringRS Try.prog _ R (P + 10000 + 1 + 1 + 1) w8 _) (hOk _ _) (by kernel_rfl) (by kernel_rfl) (by kernel_rfl) (Nat.le_of_ble_eq_true rfl) H8.out.r trivial ?_
  apply rs_eq (hOk _ _) (.inr (fun _ _ => trivial))
  · intro ρ w' ho hK
    have ho : Only _ w8 w' := ho
    obtain ⟨h0, -⟩ := hK
    have h0' : ρ (.tmp 6) = _ := h0
    go_simp
    try exact rfl
  apply rs_eq (hOk _ _) (.inr (fun _ _ => trivial))
  · intro ρ w' ho hK
    have ho : Only _ w8 w' := ho
    obtain ⟨h0, -⟩ := hK
    have h0' : ρ (.tmp 44) = _ := h0
    have ho' : Only (fun g => g = R) w8 w' := ho
    have b0 := (ho'.block g4 (blk_ltB H8.out.a) (by have q1 := H8.out.lR; have q2 := H8.out.l4; omega)).trans H8.out.a
    have c0 := blk_cell b0 0
    have c1 := blk_cell b0 1
    simp at c0 c1
    go_simp
    try exact rfl
  apply rs_eq (hOk _ _) (.inr (fun _ _ => trivial))
  · intro ρ w' ho hK
    have ho : Only _ w8 w' := ho
    obtain ⟨h0, h1, -⟩ := hK
    have h0' : ρ (.tmp 45) = _ := h0
    have h1' : ρ (.const (Value.int IntKind.i64 1)) = (Value.int IntKind.i64 1) := h1
    go_simp
    try exact rfl
  refine rs_old (hOk _ _) (.inr (fun _ _ => trivial)) _ (.inl rfl) _ rfl rfl ?_
  apply rs_eq (hOk _ _) (.inr (fun _ _ => trivial))
  · intro ρ w' ho hK
    have ho : Only _ w8 w' := ho
    obtain ⟨h0, -⟩ := hK
    have h0' : ρ (.tmp 6) = _ := h0
    go_simp
    try exact rfl
  apply rs_eq (hOk _ _) (.inr (fun _ _ => trivial))
  · intro ρ w' ho hK
    have ho : Only _ w8 w' := ho
    obtain ⟨h0, -⟩ := hK
    have h0' : ρ (.tmp 48) = _ := h0
    have ho' : Only (fun g => g = R) w8 w' := ho
    have b0 := (ho'.block g4 (blk_ltB H8.out.a) (by have q1 := H8.out.lR; have q2 := H8.out.l4; omega)).trans H8.out.a
    have c0 := blk_cell b0 0
    have c1 := blk_cell b0 1
    simp at c0 c1
    go_simp
    try exact rfl
  apply rs_eq (hOk _ _) (.inr (fun _ _ => trivial))
  · intro ρ w' ho hK
    have ho : Only _ w8 w' := ho
    obtain ⟨h0, -⟩ := hK
    have h0' : ρ (.tmp 49) = _ := h0
    go_simp
    try exact rfl
  refine rs_pick (hOk _ _) (.inr (fun _ _ => trivial)) 33 _ _ _ R (P + 10000 + 1 + 1 + 1) (L1 - 1) rfl rfl fn_draw (fun ρ w hK => ⟨hK.1, hK.2.1, (L1 : Int), hK.2.2.1, by omega, by omega⟩) (fun n kk w hk h1n hn hr => pick_upto n (L1 - 1) _ _ w hr (by have hk' : kk < 14 := hk; omega) h1n hn (by omega)) ?_
  refine rs_look (hOk _ _) (.inr (fun _ _ => trivial)) (TInt 0 100) (stb_int _ _ _) (fun ρ w' ho hK => by
    obtain ⟨h0, h1, -⟩ := hK
    have h0' : ρ (.tmp 46) = .int .i64 (L0 + 1) := h0
    obtain ⟨q, h1', q1, q2⟩ : ∃ q : Int, ρ (.tmp 51) = .int .i64 q ∧ 0 ≤ q ∧ q ≤ ((L1 - 1 : Nat) : Int) := h1
    have hwq : IntKind.i64.wrap (L0 + 1 + q) = L0 + 1 + q := IntWalk.i64_in _ (by omega)
    refine ⟨.int .i64 (L0 + 1 + q), ?_, _, rfl, by omega, by omega⟩
    clear q1 q2
    go_simp) ?_
  refine rs_look (hOk _ _) (.inr (fun _ _ => trivial)) (TInt 0 200) (stb_int _ _ _) (fun ρ w' ho hK => by
    obtain ⟨h0, h1, -⟩ := hK
    have h0' : ρ (.const (.int .i64 2)) = .int .i64 2 := h0
    obtain ⟨q, h1', q1, q2⟩ : ∃ q : Int, ρ (.tmp 52) = .int .i64 q ∧ 0 ≤ q ∧ q ≤ 100 := h1
    have hwq : IntKind.i64.wrap (2 * q) = 2 * q := IntWalk.i64_in _ (by omega)
    refine ⟨.int .i64 (2 * q), ?_, _, rfl, by omega, by omega⟩
    clear q1 q2
    go_simp) ?_
  refine rs_old (hOk _ _) (.inr (fun _ _ => trivial)) _ (.inl rfl) _ rfl rfl ?_
  refine rs_pick (hOk _ _) (.inr (fun _ _ => trivial)) 33 _ _ _ R (P + 10000 + 1 + 1 + 1) 1 rfl rfl fn_draw (fun ρ w hK => ⟨hK.1, hK.2.1, 2, hK.2.2.1, by omega, by omega⟩) (fun n kk w hk h1n hn hr => pick_upto n 1 _ _ w hr (by have hk' : kk < 14 := hk; omega) h1n hn (by omega)) ?_
  refine rs_look (hOk _ _) (.inr (fun _ _ => trivial)) (TInt 0 300) (stb_int _ _ _) (fun ρ w' ho hK => by
    obtain ⟨h0, h1, -⟩ := hK
    obtain ⟨q, h0', q1, q2⟩ : ∃ q : Int, ρ (.tmp 53) = .int .i64 q ∧ 0 ≤ q ∧ q ≤ 200 := h0
    obtain ⟨r, h1', r1, r2⟩ : ∃ r : Int, ρ (.tmp 55) = .int .i64 r ∧ 0 ≤ r ∧ r ≤ ((1 : Nat) : Int) := h1
    have hwq : IntKind.i64.wrap (q + r) = q + r := IntWalk.i64_in _ (by omega)
    refine ⟨.int .i64 (q + r), ?_, _, rfl, by omega, by omega⟩
    clear q1 q2 r1 r2
    go_simp) ?_
  refine rs_same (hOk _ _) (.inr (fun _ _ => trivial)) 56 12 (.inr rfl) rfl _ rfl ?_
  intro f w9 k9 hk9 hI9 ht9 hcp9
  have E0 : f 0 = _ := ht9 0 (Nat.le_of_ble_eq_true rfl)
  have E1 : f 1 = _ := ht9 1 (Nat.le_of_ble_eq_true rfl)
  have E2 : f 2 = _ := ht9 2 (Nat.le_of_ble_eq_true rfl)
  have E3 : f 3 = _ := ht9 3 (Nat.le_of_ble_eq_true rfl)
  conv at E3 => rhs; whnf
  have E4 : f 4 = _ := ht9 4 (Nat.le_of_ble_eq_true rfl)
  have E5 : f 5 = _ := ht9 5 (Nat.le_of_ble_eq_true rfl)
  have E6 : f 6 = _ := ht9 6 (Nat.le_of_ble_eq_true rfl)
  have E7 : (TInt 0 ((L1 - 1 : Nat) : Int)) w9 (f 7) := ht9 7 (Nat.le_of_ble_eq_true rfl)
  have E8 : (TInt 0 100) w9 (f 8) := ht9 8 (Nat.le_of_ble_eq_true rfl)
  have E9 : (TInt 0 200) w9 (f 9) := ht9 9 (Nat.le_of_ble_eq_true rfl)
  have E10 : f 10 = _ := ht9 10 (Nat.le_of_ble_eq_true rfl)
  conv at E10 => rhs; whnf
  have E11 : (TInt 0 ((1 : Nat) : Int)) w9 (f 11) := ht9 11 (Nat.le_of_ble_eq_true rfl)
  have E12 : (TInt 0 300) w9 (f 12) := ht9 12 (Nat.le_of_ble_eq_true rfl)
  have E13 : (TInt 0 300) w9 (f 13) := ht9 13 (Nat.le_of_ble_eq_true rfl)
  have Ho9 : Only _ w8 w9 := hI9.2.1
  have HR9 := hI9.1
  have HK9 := hk9
  have C13 : f 13 = f 12 := (hcp9 13 _ 56 12 rfl rfl rfl rfl).2
  simp only [putAll, E0, E1, E2, E3, E4, E5, E6, E10, C13, Nat.zero_add, Nat.reduceAdd, Act.put, List.setIfInBounds_toArray, List.set_cons_succ, List.set_cons_zero]
  clear E0 E1 E2 E3 E4 E5 E6 E10
  clear hI9 ht9 hcp9 hk9
  generalize f 7 = r7 at *
  generalize f 8 = r8 at *
  generalize f 9 = r9 at *
  generalize f 11 = r11 at *
  generalize f 12 = r12 at *
  have E12' : TInt 0 300 w9 r12 := E12
  obtain ⟨A, rfl, hA0, hA1⟩ := E12'
  have ho9 : Only (fun g => g = R) w8 w9 := Ho9
  have hk9' : k9 ≤ 14 := HK9
  have hr9 : Rd w9 R (P + 10000 + 1 + 1 + 1 + 1000) := Rd.more HR9 (by omega)
  have H9 := Lib.hid (H8.out.draw hr9 ho9)
  clear ho9 hr9 Ho9 HR9 HK9 H8 E7 E8 E9 E11 E12 hOk
  obtain ⟨wa, hwa⟩ : ∃ wa, wa = w9 := ⟨_, rfl⟩
  subst hwa
  have hOk := fun ops a => ringRS_ok (Pg := Try.prog) (ops := ops) (P := P + 10000 + 1 + 1 + 1 + 1000) (a := a) H9.out.r.lt
  go_wp2_with fail
  refine wp_region_rs (ringRS Try.prog _ R (P + 10000 + 1 + 1 + 1 + 1000) wa _) (hOk _ _) (by kernel_rfl) (by kernel_rfl) (by kernel_rfl) (Nat.le_of_ble_eq_true rfl) H9.out.r trivial ?_
  apply rs_eq (hOk _ _) (.inr (fun _ _ => trivial))
  · intro ρ w' ho hK
    have ho : Only _ wa w' := ho
    obtain ⟨h0, -⟩ := hK
    have h0' : ρ (.tmp 6) = _ := h0
    go_simp
    try exact rfl
  apply rs_eq (hOk _ _) (.inr (fun _ _ => trivial))
  · intro ρ w' ho hK
    have ho : Only _ wa w' := ho
    obtain ⟨h0, -⟩ := hK
    have h0' : ρ (.tmp 57) = _ := h0
    have ho' : Only (fun g => g = R) wa w' := ho
    have b0 := (ho'.block g4 (blk_ltB H9.out.a) (by have q1 := H9.out.lR; have q2 := H9.out.l4; omega)).trans H9.out.a
    have c0 := blk_cell b0 0
    have c1 := blk_cell b0 1
    simp at c0 c1
    go_simp
    try exact rfl
  apply rs_eq (hOk _ _) (.inr (fun _ _ => trivial))
  · intro ρ w' ho hK
    have ho : Only _ wa w' := ho
    obtain ⟨h0, h1, -⟩ := hK
    have h0' : ρ (.tmp 58) = _ := h0
    have h1' : ρ (.const (Value.int IntKind.i64 1)) = (Value.int IntKind.i64 1) := h1
    go_simp
    try exact rfl
  refine rs_old (hOk _ _) (.inr (fun _ _ => trivial)) _ (.inl rfl) _ rfl rfl ?_
  apply rs_eq (hOk _ _) (.inr (fun _ _ => trivial))
  · intro ρ w' ho hK
    have ho : Only _ wa w' := ho
    obtain ⟨h0, -⟩ := hK
    have h0' : ρ (.tmp 6) = _ := h0
    go_simp
    try exact rfl
  apply rs_eq (hOk _ _) (.inr (fun _ _ => trivial))
  · intro ρ w' ho hK
    have ho : Only _ wa w' := ho
    obtain ⟨h0, -⟩ := hK
    have h0' : ρ (.tmp 61) = _ := h0
    have ho' : Only (fun g => g = R) wa w' := ho
    have b0 := (ho'.block g4 (blk_ltB H9.out.a) (by have q1 := H9.out.lR; have q2 := H9.out.l4; omega)).trans H9.out.a
    have c0 := blk_cell b0 0
    have c1 := blk_cell b0 1
    simp at c0 c1
    go_simp
    try exact rfl
  apply rs_eq (hOk _ _) (.inr (fun _ _ => trivial))
  · intro ρ w' ho hK
    have ho : Only _ wa w' := ho
    obtain ⟨h0, -⟩ := hK
    have h0' : ρ (.tmp 62) = _ := h0
    go_simp
    try exact rfl
  refine rs_pick (hOk _ _) (.inr (fun _ _ => trivial)) 33 _ _ _ R (P + 10000 + 1 + 1 + 1 + 1000) (L1 - 1) rfl rfl fn_draw (fun ρ w hK => ⟨hK.1, hK.2.1, (L1 : Int), hK.2.2.1, by omega, by omega⟩) (fun n kk w hk h1n hn hr => pick_upto n (L1 - 1) _ _ w hr (by have hk' : kk < 14 := hk; omega) h1n hn (by omega)) ?_
  refine rs_look (hOk _ _) (.inr (fun _ _ => trivial)) (TInt 0 100) (stb_int _ _ _) (fun ρ w' ho hK => by
    obtain ⟨h0, h1, -⟩ := hK
    have h0' : ρ (.tmp 59) = .int .i64 (L0 + 1) := h0
    obtain ⟨q, h1', q1, q2⟩ : ∃ q : Int, ρ (.tmp 64) = .int .i64 q ∧ 0 ≤ q ∧ q ≤ ((L1 - 1 : Nat) : Int) := h1
    have hwq : IntKind.i64.wrap (L0 + 1 + q) = L0 + 1 + q := IntWalk.i64_in _ (by omega)
    refine ⟨.int .i64 (L0 + 1 + q), ?_, _, rfl, by omega, by omega⟩
    clear q1 q2
    go_simp) ?_
  refine rs_look (hOk _ _) (.inr (fun _ _ => trivial)) (TInt 0 200) (stb_int _ _ _) (fun ρ w' ho hK => by
    obtain ⟨h0, h1, -⟩ := hK
    have h0' : ρ (.const (.int .i64 2)) = .int .i64 2 := h0
    obtain ⟨q, h1', q1, q2⟩ : ∃ q : Int, ρ (.tmp 65) = .int .i64 q ∧ 0 ≤ q ∧ q ≤ 100 := h1
    have hwq : IntKind.i64.wrap (2 * q) = 2 * q := IntWalk.i64_in _ (by omega)
    refine ⟨.int .i64 (2 * q), ?_, _, rfl, by omega, by omega⟩
    clear q1 q2
    go_simp) ?_
  refine rs_old (hOk _ _) (.inr (fun _ _ => trivial)) _ (.inl rfl) _ rfl rfl ?_
  refine rs_pick (hOk _ _) (.inr (fun _ _ => trivial)) 33 _ _ _ R (P + 10000 + 1 + 1 + 1 + 1000) 1 rfl rfl fn_draw (fun ρ w hK => ⟨hK.1, hK.2.1, 2, hK.2.2.1, by omega, by omega⟩) (fun n kk w hk h1n hn hr => pick_upto n 1 _ _ w hr (by have hk' : kk < 14 := hk; omega) h1n hn (by omega)) ?_
  refine rs_look (hOk _ _) (.inr (fun _ _ => trivial)) (TInt 0 300) (stb_int _ _ _) (fun ρ w' ho hK => by
    obtain ⟨h0, h1, -⟩ := hK
    obtain ⟨q, h0', q1, q2⟩ : ∃ q : Int, ρ (.tmp 66) = .int .i64 q ∧ 0 ≤ q ∧ q ≤ 200 := h0
    obtain ⟨r, h1', r1, r2⟩ : ∃ r : Int, ρ (.tmp 68) = .int .i64 r ∧ 0 ≤ r ∧ r ≤ ((1 : Nat) : Int) := h1
    have hwq : IntKind.i64.wrap (q + r) = q + r := IntWalk.i64_in _ (by omega)
    refine ⟨.int .i64 (q + r), ?_, _, rfl, by omega, by omega⟩
    clear q1 q2 r1 r2
    go_simp) ?_
  refine rs_same (hOk _ _) (.inr (fun _ _ => trivial)) 69 12 (.inr rfl) rfl _ rfl ?_
  intro f w9 k9 hk9 hI9 ht9 hcp9
  have E0 : f 0 = _ := ht9 0 (Nat.le_of_ble_eq_true rfl)
  have E1 : f 1 = _ := ht9 1 (Nat.le_of_ble_eq_true rfl)
  have E2 : f 2 = _ := ht9 2 (Nat.le_of_ble_eq_true rfl)
  have E3 : f 3 = _ := ht9 3 (Nat.le_of_ble_eq_true rfl)
  conv at E3 => rhs; whnf
  have E4 : f 4 = _ := ht9 4 (Nat.le_of_ble_eq_true rfl)
  have E5 : f 5 = _ := ht9 5 (Nat.le_of_ble_eq_true rfl)
  have E6 : f 6 = _ := ht9 6 (Nat.le_of_ble_eq_true rfl)
  have E7 : (TInt 0 ((L1 - 1 : Nat) : Int)) w9 (f 7) := ht9 7 (Nat.le_of_ble_eq_true rfl)
  have E8 : (TInt 0 100) w9 (f 8) := ht9 8 (Nat.le_of_ble_eq_true rfl)
  have E9 : (TInt 0 200) w9 (f 9) := ht9 9 (Nat.le_of_ble_eq_true rfl)
  have E10 : f 10 = _ := ht9 10 (Nat.le_of_ble_eq_true rfl)
  conv at E10 => rhs; whnf
  have E11 : (TInt 0 ((1 : Nat) : Int)) w9 (f 11) := ht9 11 (Nat.le_of_ble_eq_true rfl)
  have E12 : (TInt 0 300) w9 (f 12) := ht9 12 (Nat.le_of_ble_eq_true rfl)
  have E13 : (TInt 0 300) w9 (f 13) := ht9 13 (Nat.le_of_ble_eq_true rfl)
  have Ho9 : Only _ wa w9 := hI9.2.1
  have HR9 := hI9.1
  have HK9 := hk9
  have C13 : f 13 = f 12 := (hcp9 13 _ 69 12 rfl rfl rfl rfl).2
  simp only [putAll, E0, E1, E2, E3, E4, E5, E6, E10, C13, Nat.zero_add, Nat.reduceAdd, Act.put, List.setIfInBounds_toArray, List.set_cons_succ, List.set_cons_zero]
  clear E0 E1 E2 E3 E4 E5 E6 E10
  clear hI9 ht9 hcp9 hk9
  generalize f 7 = r7 at *
  generalize f 8 = r8 at *
  generalize f 9 = r9 at *
  generalize f 11 = r11 at *
  generalize f 12 = r12 at *
  have E12' : TInt 0 300 w9 r12 := E12
  obtain ⟨B, rfl, hB0, hB1⟩ := E12'
  have ho9 : Only (fun g => g = R) wa w9 := Ho9
  have hk9' : k9 ≤ 14 := HK9
  have hr9 : Rd w9 R (P + 10000 + 1 + 1 + 1 + 1000 + 1000) := Rd.more HR9 (by omega)
  have Hx := Lib.hid (H9.out.draw hr9 ho9)
  clear ho9 hr9 Ho9 HR9 HK9 H9 E7 E8 E9 E11 E12 hOk
  have a0 := blk_cell Hx.out.a 0
  have a1 := blk_cell Hx.out.a 1
  have a2 := blk_cell Hx.out.a 2
  have a3 := blk_cell Hx.out.a 3
  simp at a0 a1 a2 a3
  obtain ⟨_, _, _, ec, o1, o2, o3⟩ := id Hx.out.c
  injection ec with ec
  simp only [Array.mk.injEq, List.cons.injEq, and_true] at ec
  obtain ⟨-, rfl, rfl, rfl⟩ := ec
  rw [HL2.out] at o2
  obtain ⟨g8, c8, hv8, hg81, hg82, -, -⟩ := own_open o2 h2'
  injection hv8 with hA8 _ hc8
  subst hA8 hc8
  have hcl := o2.1
  obtain ⟨u1, _, hd1, hf1⟩ := own_slot o2 (j := k * 2) (by omega)
  obtain ⟨u2, _, hd2, hf2⟩ := own_slot o2 (j := k * 2 + 1) (by omega)
  have hst1 := o2.stored (k * 2) (.int .i64 A)
  obtain ⟨u3, _, hd3, hf3⟩ := own_slot hst1.1 (j := k * 2 + 1) (by have := hst1.1.1; omega)
  have hst2 := hst1.1.stored (k * 2 + 1) (.int .i64 B)
  obtain ⟨ks, hks1, hks2⟩ := cubes_of L2 (((cubes c.gates).set (k * 2) (.int .i64 A)).set (k * 2 + 1) (.int .i64 B)) (by have := hst2.1.1; omega) (fun u hu => by
    rcases List.mem_or_eq_of_mem_set hu with hu | rfl
    · rcases List.mem_or_eq_of_mem_set hu with hu | rfl
      · exact cubes_ints c.gates u hu
      · exact ⟨A, rfl⟩
    · exact ⟨B, rfl⟩)
  have hO8 : Only (fun g => g = g8) w9 ((w9.setCell ⟨g8, k * 2, none⟩ (.int .i64 A)).setCell ⟨g8, k * 2 + 1, none⟩ (.int .i64 B)) := (set1_only w9 g8 (k * 2) (.int .i64 A)).trans (set1_only _ g8 (k * 2 + 1) (.int .i64 B))
  have n1 : n0 ≠ g8 := fun e => own_ne_tag o2 Hx.out.x (by decide) (by rw [e]; rfl)
  have n2 : g4 ≠ g8 := fun e => own_ne_tag o2 Hx.out.a (by decide) (by rw [e]; rfl)
  have lR := Hx.out.lR
  have hne := Hn0.out
  have H10 : RingX w R n0 g4 L0 (.slice An L1 cn) (.slice (some ⟨g8, 0, none⟩) L2 cg) (.slice Ao L3 co) ⟨L0, c.next, ks, c.outs⟩ (P + 10000 + 1 + 1 + 1 + 1000 + 1000) ((w9.setCell ⟨g8, k * 2, none⟩ (.int .i64 A)).setCell ⟨g8, k * 2 + 1, none⟩ (.int .i64 B)) := by
    refine ⟨(hO8.block n0 (blk_ltB Hx.out.x) n1).trans Hx.out.x, (hO8.block g4 (blk_ltB Hx.out.a) n2).trans Hx.out.a, Hx.out.o.aft hO8 (fun g hg => .inl (by omega)), rd_set (rd_set Hx.out.r (by omega)) (by omega), ⟨_, _, _, rfl, own_only o1 hO8 (fun g hg e => own_ne_own o1 o2 (by decide) hg (by rw [e]; rfl)), ?_, own_only o3 hO8 (fun g hg e => own_ne_own o3 o2 (by decide) hg (by rw [e]; rfl))⟩, Hx.out.lR, Hx.out.l4, Hx.out.lw⟩
    show World.ownsRow _ w.heap.size 72 2 _ ks.length (cubes ks)
    rw [hks1, ← hks2]
    exact hst2.1
  have H10' := Lib.hid H10
  have b0 := blk_cell H10.a 0
  have b1 := blk_cell H10.a 1
  have b2 := blk_cell H10.a 2
  have b3 := blk_cell H10.a 3
  have x0 := blk_cell H10.x 0
  have x1 := blk_cell H10.x 1
  have x2 := blk_cell H10.x 2
  have x3 := blk_cell H10.x 3
  have f0 := blk_free H10.x 0
  have f1 := blk_free H10.x 1
  have f2 := blk_free H10.x 2
  have f3 := blk_free H10.x 3
  simp at b0 b1 b2 b3 x0 x1 x2 x3
  clear H10 hst1 hst2 hO8 o1 o2 o3 Hx hcl hks2
  go_wp2_with fail
  refine bodyPost_ret (v := .tuple #[.agg #[.int .i64 L0, .slice An L1 cn, .slice (some ⟨g8, 0, none⟩) L2 cg, .slice Ao L3 co], .int .i64 (k : Int)]) (by simp [results, Try.results59, go_sem, x0, x1, x2, x3]) rfl ⟨_, ⟨L0, c.next, ks, c.outs⟩, _, rfl, circOwn_four (CircOwn.mono H10'.out.c (Nat.zero_le _)) H10'.out.x, by omega, by omega, ?_⟩
  exact H10'.out.o.aft (set4_only _ n0 _ _ _ _) (fun g hg => .inl (by have := H10'.out.lw; omega))
theorem drawRetime_any (v : Value) (bs : List Int) (w : World) (h : Row w 1 v bs.length (bs.map (Value.int .u8))) (hb : ∀ x ∈ bs, (Lit.int .u8 x).wf = true) (hl : bs.length ≤ 1048576) :
    Calls Try.prog 19 #[v] w fun e w' => ∃ v c i, e = .returned (.tuple #[v, .int .i64 i]) ∧ CircOwn 0 w' v c ∧ -1 ≤ i ∧ i ≤ 1000 ∧ Below w.heap.size w w' := by
  have H := Lib.hid h
  clear h
  obtain ⟨n0, hn0⟩ : ∃ n0, w.heap.size = n0 := ⟨_, rfl⟩
  have hX0 := heap_alloc_new w (.cells #[.int .i64 0, .slice none 0 0, .slice none 0 0, .slice none 0 0] 26)
  have hb0 := bel_new w (.cells #[.int .i64 0, .slice none 0 0, .slice none 0 0, .slice none 0 0] 26)
  have hs : (w.alloc (.cells #[.int .i64 0, .slice none 0 0, .slice none 0 0, .slice none 0 0] 26)).heap.size = w.heap.size + 1 := by simp
  have HB0 := Lib.hid hb0
  have H0 := Lib.hid (Row.below H.out hb0)
  have HX0 := Lib.hid hX0
  clear hX0 hb0 H
  go_enter Try.func19, Try.ntmps19
  go_wp2_with fail
  generalize w.alloc (.cells #[.int .i64 0, .slice none 0 0, .slice none 0 0, .slice none 0 0] 26) = W2 at *
  rw [hn0] at HX0 hs
  try rw [hn0]
  have Hw := Lib.hid hn0
  clear hn0
  refine (open_any _ bs _ H0.out hb hl).mono ?_
  rintro e w1 ⟨rfl, hr1, hb1⟩
  have HX1 := Lib.hid ((hb1.block n0 (blk_ltB HX0.out)).trans HX0.out)
  have HB1 := Lib.hid (HB0.out.trans (hb1.mono HB0.out.size))
  rw [hs] at hr1
  have Hr1 := Lib.hid hr1
  have hz1 := hb1.size
  have hwn0 : w.heap.size ≤ n0 := by have := Hw.out; omega
  clear hr1 hb1 HX0 HB0 H0 hb hl
  go_wp2_with fail
  refine (l20Ring_any _ 0 w1 Hr1.out (by omega)).mono ?_
  rintro e w3 ⟨v3, c, i, rfl, hC, hi1, hi2, hO3⟩
  obtain ⟨An, cn, Ag, cg, Ao, co, rfl⟩ := hC.shape
  obtain ⟨K1, hK1⟩ : ∃ K1, c.next.length = K1 := ⟨_, rfl⟩
  obtain ⟨K2, hK2⟩ : ∃ K2, c.gates.length = K2 := ⟨_, rfl⟩
  obtain ⟨K3, hK3⟩ : ∃ K3, c.outs.length = K3 := ⟨_, rfl⟩
  obtain ⟨K0, hK0⟩ : ∃ K0, c.ins = K0 := ⟨_, rfl⟩
  rw [hK1, hK2, hK3, hK0] at hC
  rw [hK1, hK2, hK3, hK0]
  clear hK1 hK2 hK3 hK0
  have HX2 := Lib.hid ((hO3.block n0 (blk_ltB HX1.out) (by omega)).trans HX1.out)
  have HB2 := Lib.hid (Only.below HB1.out hO3 HB1.out.size (fun q hq => by omega))
  have HC := Lib.hid hC
  clear hC hO3 HX1 HB1 Hr1
  have x0 := blk_cell HX2.out 0
  have x1 := blk_cell HX2.out 1
  have x2 := blk_cell HX2.out 2
  have x3 := blk_cell HX2.out 3
  have f0 := blk_free HX2.out 0
  have f1 := blk_free HX2.out 1
  have f2 := blk_free HX2.out 2
  have f3 := blk_free HX2.out 3
  simp at x0 x1 x2 x3
  go_wp2_with fail
  refine bodyPost_ret (v := .tuple #[.agg #[.int .i64 K0, .slice An K1 cn, .slice Ag K2 cg, .slice Ao K3 co], .int .i64 i]) (by simp [results, Try.results19, go_sem, x0, x1, x2, x3]) rfl ⟨_, c, i, rfl, circOwn_four HC.out HX2.out, hi1, hi2, ?_⟩
  exact (((HB2.out.setCell hwn0 _).setCell hwn0 _).setCell hwn0 _).setCell hwn0 _
end Go.Proofs.Ytdgminjbgjbamaa
namespace Go.Proofs.Ytdgminjbgjbamaa
def look1 (gl : List (Nat × Option Bool)) (j : Nat) : Option (Option Bool) := gl.lookup j
@[reducible] def gvalO : Option Bool → Value
  | some b => .bool b
  | none => undef
def norm1 (gl : List (Nat × Option Bool)) (o : Oper) : Oper := match o with
  | ⟨d, op, ty, pos, aft, none⟩ => ⟨d, op, ty, pos, aft, none⟩
  | ⟨d, op, ty, pos, aft, some (j, b)⟩ => if look1 gl j = some (some b) then ⟨d, op, ty, pos, aft, none⟩ else ⟨d, .move (.const undef), ty, pos, aft, none⟩
def rgG (gl : List (Nat × Option Bool)) (ops : Array Oper) : Bool :=
  (List.range ops.size).all fun i => match ops[i]? with
    | none => true
    | some o => (match o.guard with | none => true | some (j, _) => decide (j < i) && ancB ops 4 j i && (look1 gl j).isSome && ((ops[j]?).bind (·.dst)).isSome) && o.after.all (fun e => !Region.binds .any e || decide (e.on < i)) &&
        (match o.op with | .select .. => false | .assign _ => o.guard.isNone | _ => true) &&
        (List.range i).all fun j => match ops[j]? with
          | none => true
          | some p => (p.dst.isNone || p.dst != o.dst) && (!clash p o || ancB ops 4 j i)
section
variable {P : Program} {ops : Array Oper} {gl : List (Nat × Option Bool)}
structure RgGOk (gl : List (Nat × Option Bool)) (ops : Array Oper) (i : Nat) (o : Oper) : Prop where
  guard : ∀ j b, o.guard = some (j, b) → j < i ∧ ancB ops 4 j i = true ∧ ∃ x p t, look1 gl j = some x ∧ ops[j]? = some p ∧ p.dst = some t
  back : ∀ e ∈ o.after, Region.binds .any e = true → e.on < i
  sel : ∀ cs b, o.op ≠ .select cs b
  asg : ∀ x, o.op = .assign x → o.guard = none
  one : ∀ j p, j < i → ops[j]? = some p → ∀ d, p.dst = some d → o.dst ≠ some d
  anc : ∀ j p, j < i → ops[j]? = some p → clash p o = true → ancB ops 4 j i = true
theorem rgG_ok (h : rgG gl ops = true) {i : Nat} {o : Oper} (ho : ops[i]? = some o) : RgGOk gl ops i o := by
  have hlt : i < ops.size := (Array.getElem?_eq_some_iff.1 ho).1
  have h1 := List.all_eq_true.1 h i (List.mem_range.2 hlt)
  simp only [ho, Bool.and_eq_true] at h1
  obtain ⟨⟨⟨h1, h2⟩, h3⟩, h4⟩ := h1
  refine ⟨fun j b hg => ?_, fun e he hb => ?_, fun cs b e => by simp [e] at h3, fun x e => by simpa [e] using h3, fun j p hj hp d hd e => ?_, fun j p hj hp hc => ?_⟩
  · rw [hg] at h1
    simp only [Bool.and_eq_true, decide_eq_true_iff] at h1
    obtain ⟨⟨⟨a1, a2⟩, a3⟩, a4⟩ := h1
    obtain ⟨x, hx⟩ := Option.isSome_iff_exists.1 a3
    obtain ⟨t, ht⟩ := Option.isSome_iff_exists.1 a4
    cases hp : ops[j]? with
    | none => rw [hp] at ht; cases ht
    | some p => rw [hp] at ht; exact ⟨a1, a2, x, p, t, hx, rfl, ht⟩
  · have := Array.all_eq_true_iff_forall_mem.1 h2 e he
    simpa [hb] using this
  · have := List.all_eq_true.1 h4 j (List.mem_range.2 hj)
    simp [hp, hd, e] at this
  · have := List.all_eq_true.1 h4 j (List.mem_range.2 hj)
    simp only [hp, Bool.and_eq_true] at this
    simpa [hc] using this.2
theorem Is.stepG (hB : rgG gl ops = true) {a0 a : Act} {L : Nat → Bool} {f : Nat → Value} (h : Is ops a0 L f a) {i : Nat} {o : Oper} (ho : ops[i]? = some o) (hL : L i = false) (v : Value) :
    Is ops a0 (fun j => if j = i then true else L j) (fun j => if j = i then v else f j) (a.put o.dst v) := by
  refine ⟨(put_defers _ _ _).trans h.defers, (put_size _ _ _).trans h.size, fun j p t hj hp ht hlt => ?_, fun t ht => ?_⟩
  · by_cases e : j = i
    · subst e
      obtain rfl := Option.some.inj (ho.symm.trans hp)
      simp only [if_true]
      rw [ht]
      exact put_get _ _ _ (by rw [h.size]; exact hlt)
    · simp only [e, if_false] at hj ⊢
      rw [put_get_ne]
      · exact h.mine j p t hj hp ht hlt
      · intro hd
        rcases Nat.lt_or_gt_of_ne e with hlt' | hgt
        · exact (rgG_ok hB ho).one j p hlt' hp t ht hd
        · exact (rgG_ok hB hp).one i o hgt ho t hd ht
  · rw [put_get_ne]
    · exact h.old t fun j p hj hp => ht j p (by by_cases e : j = i <;> simp [e, hj]) hp
    · exact ht i o (by simp) ho
theorem putAll_isG (hB : rgG gl ops = true) {a0 : Act} {f : Nat → Value} : ∀ (l : List Oper) (k : Nat) (a : Act), ops.toList.drop k = l → Is ops a0 (fun j => decide (j < k)) f a → Is ops a0 (fun j => decide (j < ops.size)) f (putAll l f k a)
  | [], k, a, hl, h => by
    have hk : ops.size ≤ k := by simpa using hl
    have e : Is ops a0 (fun j => decide (j < ops.size)) f a := ⟨h.defers, h.size, fun i o t hi ho => h.mine i o t (by simp at hi ⊢; omega) ho, fun t ht => h.old t fun i o hi ho => ht i o (by
      have := (Array.getElem?_eq_some_iff.1 ho).1
      simpa using this) ho⟩
    exact e
  | o :: l, k, a, hl, h => by
    have hk : k < ops.toList.length := by
      rcases Nat.lt_or_ge k ops.toList.length with h' | h'
      · exact h'
      · rw [List.drop_eq_nil_of_le h'] at hl; cases hl
    rw [List.drop_eq_getElem_cons hk] at hl
    injection hl with h1 h2
    have ho : ops[k]? = some o := by
      rw [← h1, ← Array.getElem?_toList, List.getElem?_eq_getElem hk]
    have hs := h.stepG hB ho (by simp) (f k)
    refine putAll_isG hB l (k + 1) _ h2 ?_
    have e1 : (fun j => if j = k then true else decide (j < k)) = fun j => decide (j < k + 1) := by
      funext j
      by_cases e : j = k
      · subst e; simp
      · simp [e]; omega
    have e2 : (fun j => if j = k then f k else f j) = f := by
      funext j
      by_cases e : j = k <;> simp [e]
    rw [e1, e2] at hs
    exact hs
theorem Inv.knownG {τ : Nat → World → Value → Prop} {d : Nat} {I : Option Value → World → Prop} {a0 a : Act} {L : Nat → Bool} {w : World} (hB : rgG gl ops = true) (hS : (ops.all fun o => match o.dst with | some t => decide (t < a0.tmps.size) | none => true) = true)
    (h : Inv ops τ d I a0 L a w) {i : Nat} {o : Oper} (ho : ops[i]? = some o) (hL : L i = false) (hr : ∀ e ∈ o.after, Region.binds .any e = true → L e.on = true) : (∀ j, ancB ops 4 j i = true → j ≠ i → L j = true) ∧ Known ops τ a0 a.eval w i (norm1 gl o).op.operands.toList := by
  obtain ⟨hC, f, hf, hI, hτ, _⟩ := h
  have anc : ∀ j, ancB ops 4 j i = true → j ≠ i → L j = true := by
    intro j hj hne
    rw [show (4 : Nat) = 3 + 1 from rfl, ancB, Bool.or_eq_true] at hj
    rcases hj with hj | hj
    · exact absurd (by simpa using hj) hne
    · simp only [ho, Option.map_some, Option.getD_some, Array.any_eq_true] at hj
      obtain ⟨k, hk, hj⟩ := hj
      rw [Bool.and_eq_true] at hj
      exact ancB_shut hC 3 j _ hj.2 (hr _ (Array.getElem_mem hk) hj.1)
  have hdst : ∀ (j : Nat) (p : Oper) (t : Tmp), ops[j]? = some p → p.dst = some t → t < a0.tmps.size := by
    intro j p t hp ht
    have := Array.all_eq_true_iff_forall_mem.1 hS p (Array.mem_of_getElem? hp)
    simpa [ht] using this
  refine ⟨anc, ?_⟩
  by_cases hsk : (norm1 gl o).op = .move (.const undef)
  · rw [hsk]; exact ⟨rfl, trivial⟩
  have hop : (norm1 gl o).op = o.op := by
    revert hsk
    obtain ⟨d, op, ty, pos, aft, g⟩ := o
    cases g with
    | none => intro _; rfl
    | some p => obtain ⟨j, b⟩ := p; unfold norm1; simp only; split <;> intro hsk <;> first | rfl | exact absurd rfl hsk
  rw [hop]
  have mem : ∀ t, .tmp t ∈ o.op.operands.toList → ∀ p : Oper, p.dst = some t → clash p o = true := by
    intro t ht p hp
    unfold clash
    rw [hp]
    simp only [Bool.or_eq_true]
    left
    rw [List.contains_iff_mem]
    exact List.mem_filterMap.2 ⟨_, ht, rfl⟩
  have mem' : ∀ t, .tmp t ∈ o.op.operands.toList → ∀ p : Oper, p.dst = some t → clash o p = true := by
    intro t ht p hp
    unfold clash
    rw [hp]
    simp only [Bool.or_eq_true]
    right
    rw [List.contains_iff_mem]
    exact List.mem_filterMap.2 ⟨_, ht, rfl⟩
  -- only what the operation looks at is asked
  have go : ∀ xs : List Operand, (∀ x ∈ xs, x ∈ o.op.operands.toList) → Known ops τ a0 a.eval w i xs := by
    intro xs
    induction xs with
    | nil => intro _; trivial
    | cons x xs ih =>
      intro hx
      have hrest := ih fun y hy => hx y (List.mem_cons_of_mem _ hy)
      cases x with
      | tmp t =>
        have ht := hx (.tmp t) (by simp)
        refine ⟨?_, hrest⟩
        cases hj : writer ops i t with
        | none =>
          show a.tmps.getD t undef = a0.tmps.getD t undef
          refine hf.old t fun j p hLj hp hd => ?_
          have hji : ¬ j < i := fun hlt => by
            have := List.find?_eq_none.1 hj j (List.mem_range.2 hlt)
            simp [hp, hd] at this
          have hne : j ≠ i := fun e => by subst e; rw [hL] at hLj; cases hLj
          -- j comes behind i: then i is listed too
          have hlt : i < j := by omega
          have := ancB_shut hC 4 i j ((rgG_ok hB hp).anc i o hlt ho (mem' t ht p hd)) hLj
          rw [hL] at this; cases this
        | some j =>
          have hj' := List.find?_some hj
          have hji : j < i := List.mem_range.1 (List.mem_of_find?_eq_some hj)
          cases hp : ops[j]? with
          | none => simp [hp] at hj'
          | some p =>
            have hd : p.dst = some t := by simpa [hp] using hj'
            have hLj := anc j ((rgG_ok hB ho).anc j p hji hp (mem t ht p hd)) (by omega)
            have := hf.mine j p t hLj hp hd (hdst j p t hp hd)
            show τ j w (a.tmps.getD t undef)
            rw [this]
            exact (hτ j hLj).2
      | const v => exact ⟨rfl, hrest⟩
      | global v => exact ⟨rfl, hrest⟩
      | func v => exact ⟨rfl, hrest⟩
  exact go _ fun _ h => h
theorem Inv.copyG {τ : Nat → World → Value → Prop} {d : Nat} {I : Option Value → World → Prop} {a0 a : Act} {L : Nat → Bool} {w : World} (hB : rgG gl ops = true) (hS : (ops.all fun o => match o.dst with | some t => decide (t < a0.tmps.size) | none => true) = true)
    (h : Inv ops τ d I a0 L a w) {i : Nat} {o : Oper} (ho : ops[i]? = some o) (hL : L i = false) (hr : ∀ e ∈ o.after, Region.binds .any e = true → L e.on = true) {f : Nat → Value} (hf : Is ops a0 L f a) {t : Tmp} {j : Nat}
    (ha : o.op = .assign (.tmp t)) (hj : writer ops i t = some j) : L j = true ∧ a.eval (.tmp t) = f j := by
  have hC := h.shut
  have hj' := List.find?_some hj
  have hji : j < i := List.mem_range.1 (List.mem_of_find?_eq_some hj)
  cases hp : ops[j]? with
  | none => simp [hp] at hj'
  | some p =>
    have hd : p.dst = some t := by simpa [hp] using hj'
    have hcl : clash p o = true := by
      unfold clash
      rw [hd]
      simp only [Bool.or_eq_true]
      left
      rw [List.contains_iff_mem]
      exact List.mem_filterMap.2 ⟨.tmp t, by rw [ha]; simp [Op.operands], rfl⟩
    have hanc := (rgG_ok hB ho).anc j p hji hp hcl
    have hLj : L j = true := by
      rw [show (4 : Nat) = 3 + 1 from rfl, ancB, Bool.or_eq_true] at hanc
      rcases hanc with h1 | h1
      · exact absurd (by simpa using h1) (Nat.ne_of_lt hji)
      · simp only [ho, Option.map_some, Option.getD_some, Array.any_eq_true] at h1
        obtain ⟨k, hk, h1⟩ := h1
        rw [Bool.and_eq_true] at h1
        exact ancB_shut hC 3 j _ h1.2 (hr _ (Array.getElem_mem hk) h1.1)
    have hdst : t < a0.tmps.size := by
      have := Array.all_eq_true_iff_forall_mem.1 hS p (Array.mem_of_getElem? hp)
      simpa [hd] using this
    exact ⟨hLj, hf.mine j p t hLj hp hd hdst⟩
theorem rg_anyG {Q : Exit → Act → World → Prop} {τ : Nat → World → Value → Prop} {d : Nat} {I : Nat → Option Value → World → Prop} {G : World → World → Prop} {a0 : Act} (hB : rgG gl ops = true) (hS : (ops.all fun o => match o.dst with | some t => decide (t < a0.tmps.size) | none => true) = true)
    (hG : ∀ i v w w', τ i w v → G w w' → τ i w' v)
    (hstep : ∀ i o, ops[i]? = some o → ∀ k ov ρ w, k < ops.size → I k ov w → (ancB ops 8 i d = true → ov = none) → Known ops τ a0 ρ w i (norm1 gl o).op.operands.toList → Good P (norm1 gl o) ρ w fun v w' => τ i w' v ∧ I (k + 1) (if i = d then some v else ov) w' ∧ G w w')
    (hgl : ∀ (i : Nat) (o : Oper) (j : Nat) (b : Bool), ops[i]? = some o → o.guard = some (j, b) → ∀ w v, τ j w v → ∃ x, look1 gl j = some x ∧ v = gvalO x)
    (hd : d < ops.size) (hend : ∀ f w' k, k ≤ ops.size → I k (some (f d)) w' → (∀ i, i < ops.size → τ i w' (f i)) → Copies ops (fun j => decide (j < ops.size)) f → Q .normal (putAll ops.toList f 0 a0) w') :
    ∀ (fuel : Nat) (listed : Array Bool) (a : Act) (w : World) (k : Nat), k + fuel = ops.size → listed.size = ops.size → open_ ops listed ≤ fuel → Inv ops τ d (I k) a0 (fun i => listed.getD i false) a w → wpAny P .any ops Q fuel listed a w := by
  have last : ∀ (listed : Array Bool) (a : Act) (w : World) (k : Nat), k ≤ ops.size → listed.size = ops.size → Inv ops τ d (I k) a0 (fun i => listed.getD i false) a w → Region.ready .any ops listed = [] → Q .normal a w := by
    intro listed a w k hk hsz h hr
    have hall : ∀ i, i < ops.size → listed.getD i false = true := by
      intro i
      induction i using Nat.strongRecOn with
      | _ i ih =>
        intro hi
        rcases hb : listed.getD i false with _ | _
        · exfalso
          have hm : i ∈ Region.ready .any ops listed := mem_ready.2 ⟨by
            have : i < listed.size := by omega
            simpa [Array.getD, this] using hb, ops[i], Array.getElem?_eq_getElem hi, fun e he hbn => ih e.on ((rgG_ok hB (Array.getElem?_eq_getElem hi)).back e he hbn) (by
              have := (rgG_ok hB (Array.getElem?_eq_getElem hi)).back e he hbn
              omega)⟩
          rw [hr] at hm
          cases hm
        · rfl
    obtain ⟨_, f, hf, hI, hτ, hcp⟩ := h
    have hI : I k (some (f d)) w := by simpa [hall d hd] using hI
    have e1 : Is ops a0 (fun j => decide (j < ops.size)) f a := ⟨hf.defers, hf.size, fun i o t hi ho hd hl => hf.mine i o t (hall i (Array.getElem?_eq_some_iff.1 ho).1) ho hd hl,
      fun t ht => hf.old t fun i o hi ho => ht i o (by simpa using (Array.getElem?_eq_some_iff.1 ho).1) ho⟩
    have e0 : Is ops a0 (fun j => decide (j < 0)) f a0 := ⟨rfl, rfl, fun _ _ _ h => by simp at h, fun _ _ => rfl⟩
    rw [e1.same (putAll_isG hB ops.toList 0 a0 rfl e0)]
    refine hend f w k hk hI (fun i hi => (hτ i (hall i hi)).2) fun i o t j hi ho ha hw => ?_
    have hi' : i < ops.size := by simpa using hi
    obtain ⟨h1, h2⟩ := hcp i o t j (hall i hi') ho ha hw
    exact ⟨by simpa using (hτ j h1).1, h2⟩
  intro fuel
  induction fuel with
  | zero =>
    intro listed a w k hk hsz hc h
    have hr : Region.ready .any ops listed = [] := by
      refine List.eq_nil_iff_forall_not_mem.2 fun i hi => ?_
      obtain ⟨h1, o, ho, _⟩ := mem_ready.1 hi
      have hlt := (Array.getElem?_eq_some_iff.1 ho).1
      have hpos : 0 < open_ ops listed := List.countP_pos_iff.2 ⟨i, List.mem_range.2 hlt, by
        have : i < listed.size := by omega
        simpa [Array.getD, this] using h1⟩
      omega
    exact ⟨hr, last listed a w k (by omega) hsz h hr⟩
  | succ fuel ih =>
    intro listed a w k hk0 hsz hc h
    refine ⟨last listed a w k (by omega) hsz h, fun i hi => ?_⟩
    obtain ⟨h1, o, ho, hr⟩ := mem_ready.1 hi
    have hlt := (Array.getElem?_eq_some_iff.1 ho).1
    have hil : i < listed.size := by omega
    have h1' : listed.getD i false = false := by simpa [Array.getD, hil] using h1
    obtain ⟨hanc, hk⟩ := h.knownG hB hS ho h1' hr
    have hcopy : ∀ (f : Nat → Value), Is ops a0 (fun i => listed.getD i false) f a → ∀ t j, o.op = .assign (.tmp t) → writer ops i t = some j → listed.getD j false = true ∧ a.eval (.tmp t) = f j := fun f hf t j ha hw => h.copyG hB hS ho h1' hr hf ha hw
    have hnop : ∀ t, o.op = .assign (.tmp t) → (norm1 gl o).op = .assign (.tmp t) := fun t ha => by
      have hg0 := (rgG_ok hB ho).asg _ ha
      obtain ⟨d', op, ty, pos, aft, g⟩ := o
      simp only at hg0
      subst hg0
      exact ha
    obtain ⟨hC, f, hf, hI, hτ, hcp⟩ := h
    have hg := hstep i o ho k _ a.eval w (by omega) hI (fun e => if_neg (fun hdl => by have := ancB_shut hC 8 i d e hdl; rw [h1'] at this; cases this)) hk
    have hfin : ∀ v w', (τ i w' v ∧ I (k + 1) (if i = d then some v else if listed.getD d false = true then some (f d) else none) w' ∧ G w w') → (∀ x, (norm1 gl o).op = .assign x → v = a.eval x) → wpAny P .any ops Q fuel (listed.setIfInBounds i true) (a.put o.dst v) w' := by
      intro v w' ⟨hv, hI', hgw⟩ hva
      have eL : (fun j => (listed.setIfInBounds i true).getD j false) = fun j => if j = i then true else listed.getD j false := by
        funext j
        by_cases e : j = i
        · subst e; simp [hil]
        · simp only [e, if_false]
          exact getD_set_ne false (fun h => e h.symm)
      refine ih _ _ _ (k + 1) (by omega) (by simpa using hsz) ?_ ?_
      · have : open_ ops (listed.setIfInBounds i true) < open_ ops listed := by
          refine countP_lt (fun x _ hx => ?_) ⟨i, List.mem_range.2 hlt, by simpa using h1', ?_⟩
          · have : (listed.setIfInBounds i true).getD x false = if x = i then true else listed.getD x false := congrFun eL x
            rw [this] at hx
            by_cases e : x = i
            · simp [e] at hx
            · simpa [e] using hx
          · have : (listed.setIfInBounds i true).getD i false = if i = i then true else listed.getD i false := congrFun eL i
            rw [this]
            simp
        omega
      · rw [eL]
        refine ⟨fun j p hj hp e he hb => ?_, _, hf.stepG hB ho h1' v, ?_, fun j hj => ?_, fun j p t q hj hp ha hw => ?_⟩
        · by_cases ej : j = i
          · subst ej
            obtain rfl := Option.some.inj (ho.symm.trans hp)
            have := hr e he hb
            by_cases ee : e.on = j <;> simp [ee, this]
          · simp only [ej, if_false] at hj
            have := hC j p hj hp e he hb
            by_cases ee : e.on = i <;> simp [ee, this]
        · by_cases ed : i = d
          · subst ed
            simpa using hI'
          · simpa [ed, show ¬ d = i from fun h => ed h.symm] using hI'
        · by_cases ej : j = i
          · subst ej
            exact ⟨hlt, by simpa using hv⟩
          · simp only [ej, if_false] at hj ⊢
            exact ⟨(hτ j hj).1, hG j _ _ _ (hτ j hj).2 hgw⟩
        · have hqj : q < j := List.mem_range.1 (List.mem_of_find?_eq_some hw)
          by_cases ej : j = i
          · subst ej
            obtain rfl := Option.some.inj (ho.symm.trans hp)
            obtain ⟨h5, h6⟩ := hcopy f hf t q ha hw
            have hne : q ≠ j := by omega
            exact ⟨by simp only [hne, if_false]; exact h5, by simp only [hne, if_false, if_true]; rw [hva _ (hnop _ ha), h6]⟩
          · simp only [ej, if_false] at hj ⊢
            obtain ⟨h5, h6⟩ := hcp j p t q hj hp ha hw
            have h5' : listed.getD q false = true := h5
            have hne : q ≠ i := fun e => by rw [e, h1'] at h5'; cases h5'
            simp only [hne, if_false]
            exact ⟨h5, h6⟩
    have hga := hg.assign
    unfold wpOp
    simp only [ho]
    cases hgd : o.guard with
    | none =>
      have hn : norm1 gl o = o := by
        obtain ⟨d', op, ty, pos, aft, g⟩ := o
        simp only at hgd
        subst hgd
        rfl
      rw [hn] at hga hfin
      rw [if_pos (by simp [Region.wanted, hgd])]
      exact .inl (Good.wp hga fun v w' ⟨h5, hva⟩ => hfin v w' h5 hva)
    | some jb =>
      obtain ⟨j, b⟩ := jb
      obtain ⟨hji, haj, x, p, t, hx, hp, ht⟩ := (rgG_ok hB ho).guard j b hgd
      have hLj := hanc j haj (by omega)
      obtain ⟨x', hx', hfj⟩ := hgl i o j b ho hgd w (f j) (hτ j hLj).2
      obtain rfl : x' = x := Option.some.inj (hx'.symm.trans hx)
      have htl : t < a0.tmps.size := by
        have := Array.all_eq_true_iff_forall_mem.1 hS p (Array.mem_of_getElem? hp)
        simpa [ht] using this
      have hm := hf.mine j p t hLj hp ht htl
      have hy : yielded ops a.tmps j = x' := by
        have hsz' : t < a.tmps.size := by rw [hf.size]; exact htl
        have e : a.tmps[t]? = some (gvalO x') := by
          rw [Array.getElem?_eq_getElem hsz']
          have : a.tmps.getD t undef = a.tmps[t] := by simp [Array.getD, hsz']
          rw [← this, hm, hfj]
        unfold yielded
        cases x' <;> simp [hp, ht, e, undef]
      by_cases hxb : x' = some b
      · have hn : norm1 gl o = { o with guard := none } := by
          obtain ⟨d', op, ty, pos, aft, g⟩ := o
          simp only at hgd
          subst hgd
          unfold norm1
          simp only [hx', hxb, if_true]
        rw [hn] at hga hfin
        rw [if_pos (by simp [Region.wanted, hgd, hy, hxb])]
        exact .inl (Good.wp (o := o) hga fun v w' ⟨h5, hva⟩ => hfin v w' h5 hva)
      · have hn : norm1 gl o = { o with op := .move (.const undef), guard := none } := by
          obtain ⟨d', op, ty, pos, aft, g⟩ := o
          simp only at hgd
          subst hgd
          unfold norm1
          simp only [hx']
          rw [if_neg (fun e => hxb (Option.some.inj e))]
        rw [hn] at hga hfin
        rw [if_neg (by simp [Region.wanted, hgd, hy, hxb])]
        have hrun : (execOp a.eval { o with op := .move (.const undef), guard := none }).run P w = .ok (.value undef) w := by simp [execOp, go_sem, Act.eval]
        unfold Good at hga
        rw [hrun] at hga
        exact hfin undef w hga.1 hga.2
end
section
variable {S : RS} {Fin : List Ty → Prop}
def GuardsOk (τ : List Ty) : List (Nat × Option Bool) → Prop
  | [] => True
  | (j, b) :: l => tys τ j = TEq (gvalO b) ∧ GuardsOk τ l
theorem guards_of {τ : List Ty} : ∀ {gl : List (Nat × Option Bool)}, GuardsOk τ gl → ∀ {j : Nat} {x : Option Bool}, look1 gl j = some x → tys τ j = TEq (gvalO x)
  | [], _, j, x, h => by cases h
  | (k, b) :: l, ⟨h1, h2⟩, j, x, h => by
    unfold look1 at h
    rw [List.lookup_cons] at h
    by_cases e : j = k
    · subst e
      simp at h
      rw [← h]; exact h1
    · have : (j == k) = false := by simpa using e
      rw [this] at h
      exact guards_of h2 h
theorem rseq_typesG {gl : List (Nat × Option Bool)} : ∀ (l : List Oper) (τs : List Ty), S.ops.toList.drop τs.length = l → τs.length + l.length = S.ops.size → (∀ T ∈ τs, Stb S.E T) → RSeq S Fin (l.map (norm1 gl)) τs.length τs →
    ∃ τ : List Ty, (∀ j, j < τs.length → tys τ j = tys τs j) ∧ (∀ T ∈ τ, Stb S.E T) ∧ Fin τ ∧ ∀ i o, τs.length ≤ i → S.ops[i]? = some o → ∀ k ov ρ w, k < S.ops.size → S.I k ov w → (ancB S.ops 8 i S.d = true → ov = none) → Known S.ops (tys τ) S.a0 ρ w i (norm1 gl o).op.operands.toList → Good S.P (norm1 gl o) ρ w fun v w' => tys τ i w' v ∧ S.I (k + 1) (if i = S.d then some v else ov) w' ∧ Only S.E w w'
  | [], τs, _, hlen, hst, h => by
    simp at hlen
    refine ⟨τs, fun _ _ => rfl, hst, h, fun i o hi ho => ?_⟩
    have := (Array.getElem?_eq_some_iff.1 ho).1
    omega
  | o :: l, τs, hl, hlen, hst, h => by
    rw [List.map_cons] at h
    obtain ⟨T, hT, hg, hr⟩ := h hst
    have hst' : ∀ T' ∈ T :: τs, Stb S.E T' := by
      intro T' hT'
      rcases List.mem_cons.1 hT' with h1 | h1
      · rw [h1]; exact hT
      · exact hst T' h1
    have hdrop : S.ops.toList.drop (T :: τs).length = l := by
      rw [List.length_cons, ← List.drop_drop, hl]; rfl
    obtain ⟨τ, h2, h3, h4, h5⟩ := rseq_typesG l (T :: τs) hdrop (by simp at hlen ⊢; omega) hst' (by rw [List.length_cons]; exact hr)
    rw [List.length_cons] at h2 h5
    have hget : ∀ j, j < τs.length → tys τ j = tys τs j := fun j hj => (h2 j (by omega)).trans (tys_old T τs hj)
    have hgetT : tys τ τs.length = T := (h2 _ (by omega)).trans (tys_new T τs)
    refine ⟨τ, hget, h3, h4, fun i o' hi ho => ?_⟩
    rcases Nat.lt_or_ge τs.length i with hlt | hge
    · exact h5 i o' hlt ho
    · obtain rfl : i = τs.length := by omega
      have : o' = o := by
        have e : S.ops.toList[τs.length]? = some o := by
          have := congrArg (fun l => l[0]?) hl
          simpa using this
        rw [Array.getElem?_toList] at e
        exact Option.some.inj (ho.symm.trans e)
      subst this
      intro k ov ρ w hk hI hd hK
      rw [hgetT]
      exact hg k ov ρ w hk hI hd (known_mono (fun j w v hj h => by rw [← hget j hj]; exact h) _ hK)
theorem wp_region_rsG {id : Nat} {Q : Exit → Act → World → Prop} (gl : List (Nat × Option Bool)) (S : RS) (hO : S.Ok) (hm : S.P.follows .mixedOrders = true) (hB : rgG gl S.ops = true) (hS : (S.ops.all fun o => match o.dst with | some t => decide (t < S.a0.tmps.size) | none => true) = true) (hd : S.d < S.ops.size)
    (hr : RdO S.rd 0 S.w0) (hJ : S.J none S.w0)
    (h : RSeq S (fun τ => GuardsOk τ gl ∧ ∀ f w' k, k ≤ S.ops.size → S.I k (some (f S.d)) w' → (∀ i, i < S.ops.size → tys τ i w' (f i)) → Copies S.ops (fun j => decide (j < S.ops.size)) f → Q .normal (putAll S.ops.toList f 0 S.a0) w') (S.ops.toList.map (norm1 gl)) 0 []) : (Code.region id S.ops true).wp S.P Q S.a0 S.w0 := by
  obtain ⟨τ, _, h3, ⟨h4g, h4⟩, h5⟩ := rseq_typesG (gl := gl) S.ops.toList [] (by simp) (by simp) (by simp) h
  have h0 : S.I 0 none S.w0.drew := by
    refine ⟨?_, Only.drew _ _, hO.keep _ _ _ hJ (Only.drew _ _)⟩
    cases hrd : S.rd with
    | none => trivial
    | some x =>
      rw [hrd] at hr
      exact Rd.drew1 hr
  refine wp_region_any hm (rg_anyG (gl := gl) (τ := tys τ) (d := S.d) (I := S.I) (G := Only S.E) hB hS (fun i v w w' ht hg => tys_stb h3 i v w w' ht hg) (fun i o ho => h5 i o (Nat.zero_le _) ho) (fun i o j b ho hg w v ht => ?_) hd (fun f w' k hk hI ht hc => h4 f w' k hk hI ht hc) S.ops.size (Array.replicate S.ops.size false) S.a0 _ 0 (by omega) (by simp) ?_ ?_)
  · obtain ⟨_, _, x, p, t, hx, _, _⟩ := (rgG_ok hB ho).guard j b hg
    rw [guards_of h4g hx] at ht
    exact ⟨x, hx, ht⟩
  · unfold open_
    exact Nat.le_trans List.countP_le_length (by simp)
  · have e : (fun i => (Array.replicate S.ops.size false).getD i false) = fun _ => false := by
      funext i
      by_cases h : i < S.ops.size <;> simp [Array.getD, h]
    rw [e]
    exact ⟨(fun j o hj => (by cases hj)), ⟨fun _ => undef, Is.start S.a0 _, h0, (fun i hi => (by cases hi)), (fun i o t j hi => (by cases hi))⟩⟩
variable {gl : List (Nat × Option Bool)} {d : Option Tmp} {op : Op} {ty : TypeId} {pos : String} {aft : Array Edge} {l : List Oper} {i j : Nat} {b : Bool} {τs : List Ty}
theorem rs_peel (h : RSeq S Fin (⟨d, op, ty, pos, aft, none⟩ :: l.map (norm1 gl)) i τs) : RSeq S Fin ((⟨d, op, ty, pos, aft, none⟩ :: l).map (norm1 gl)) i τs := h
theorem rs_run (hb : look1 gl j = some (some b)) (h : RSeq S Fin (⟨d, op, ty, pos, aft, none⟩ :: l.map (norm1 gl)) i τs) : RSeq S Fin ((⟨d, op, ty, pos, aft, some (j, b)⟩ :: l).map (norm1 gl)) i τs := by
  rw [List.map_cons, norm1, if_pos hb]; exact h
theorem rs_skip {x : Option Bool} (hb : look1 gl j = some x) (hx : x ≠ some b) (h : RSeq S Fin (⟨d, .move (.const undef), ty, pos, aft, none⟩ :: l.map (norm1 gl)) i τs) : RSeq S Fin ((⟨d, op, ty, pos, aft, some (j, b)⟩ :: l).map (norm1 gl)) i τs := by
  rw [List.map_cons, norm1, if_neg (fun e => hx (Option.some.inj (hb.symm.trans e)))]; exact h
end
end Go.Proofs.Ytdgminjbgjbamaa
namespace Go.Proofs.Ytdgminjbgjbamaa
open Go.RowKit Go.Maps
namespace Cir
def isLat (d : Ci) (l : Nat) : Bool := decide (d.ins + 1 ≤ l / 2 ∧ l / 2 ≤ d.ins + d.next.length)
def canR (d : Ci) (i : Int) : Bool := decide (0 ≤ i ∧ i ≤ (d.gates.length : Int) - 1) && isLat d (d.gates.getD i.toNat (0, 0)).1 && isLat d (d.gates.getD i.toNat (0, 0)).2 && decide (d.next.length < 3) && decide (d.gates.length < 14)
def canI (c : Cz) (i : Int) : Bool := valid c && canR (nat c) i
end Cir
theorem l20Latch_any (v : Value) (d : Ci) (l : Nat) (w : World) (h : CircAt w v (Cir.toCz d)) (hd : Cir.Ok d) (hl : l ≤ 1000000) :
    Calls Try.prog 70 #[v, .int .i64 (l : Int)] w fun e w' => e = .returned (.bool (Cir.isLat d l)) ∧ Below w.heap.size w w' := by
  have s1 := hd.ins
  have s2 := hd.nexts
  obtain ⟨An, cn, Ag, cg, Ao, co, rfl⟩ := h.shape
  have hln : (Cir.toCz d).next.length = d.next.length := List.length_map _
  have hins : (Cir.toCz d).ins = (d.ins : Int) := rfl
  rw [hln, hins]
  have hb := bel_new w (.cells #[.int .i64 (d.ins : Int), .slice An d.next.length cn, .slice Ag (Cir.toCz d).gates.length cg, .slice Ao (Cir.toCz d).outs.length co] 26)
  have P := PCells.boxed w (d.ins : Int) (.slice An d.next.length cn) (.slice Ag (Cir.toCz d).gates.length cg) (.slice Ao (Cir.toCz d).outs.length co) 26
  obtain ⟨z, p0, p1, p2, p3⟩ := P
  have hq := tdiv_two l
  obtain ⟨q, hq'⟩ : ∃ q, l / 2 = q := ⟨_, rfl⟩
  have hqb : q ≤ 1000000 := by omega
  have HE : Hid (Cir.isLat d l = decide ((d.ins : Int) + 1 ≤ (q : Int) ∧ (q : Int) ≤ (d.ins : Int) + (d.next.length : Int))) := Lib.hid (by
    unfold Cir.isLat
    rw [hq', Bool.eq_iff_iff]
    simp only [decide_eq_true_iff]
    omega)
  rw [hq'] at hq
  have hwq : IntKind.i64.wrap (q : Int) = q := IntWalk.i64_in _ (by omega)
  have hwa : IntKind.i64.wrap ((d.ins : Int) + 1) = (d.ins : Int) + 1 := IntWalk.i64_in _ (by omega)
  have hwb : IntKind.i64.wrap ((d.ins : Int) + (d.next.length : Int)) = (d.ins : Int) + (d.next.length : Int) := IntWalk.i64_in _ (by omega)
  clear h hd hln hins hq'
  go_enter Try.func70, Try.ntmps70
  go_wp2_with fail
  refine (l1In_any _ _ _ _).mono ?_
  rintro e w2 ⟨rfl, rfl⟩
  go_wp2_with fail
  go_ret
  exact ⟨ret_bool (by rw [HE.out]; exact (Bool.decide_and _ _).symm), hb⟩
theorem specCan_no (v : Value) (c : Cz) (i : Int) (w : World) (h : CircAt w v c) (hv : Cir.valid c = false) :
    Calls Try.prog 25 #[v, .int .i64 i] w fun e w' => e = .returned (.bool false) ∧ Below w.heap.size w w' := by
  obtain ⟨An, cn, Ag, cg, Ao, co, rfl⟩ := h.shape
  have hb := bel_new w (.cells #[.int .i64 c.ins, .slice An c.next.length cn, .slice Ag c.gates.length cg, .slice Ao c.outs.length co] 26)
  have P := PCells.boxed w c.ins (.slice An c.next.length cn) (.slice Ag c.gates.length cg) (.slice Ao c.outs.length co) 26
  have HC := Lib.hid (h.below hb)
  obtain ⟨W, hW⟩ : ∃ W, w.alloc (.cells #[.int .i64 c.ins, .slice An c.next.length cn, .slice Ag c.gates.length cg, .slice Ao c.outs.length co] 26) = W := ⟨_, rfl⟩
  rw [hW] at P hb HC
  obtain ⟨z, p0, p1, p2, p3⟩ := P
  have g0 := gw_cell p0 z
  have g1 := gw_cell p1 z
  have g2 := gw_cell p2 z
  have g3 := gw_cell p3 z
  have HV : Hid (∀ n : GW W, Calls Try.prog 11 #[.agg #[.int .i64 c.ins, .slice An c.next.length cn, .slice Ag c.gates.length cg, .slice Ao c.outs.length co]] (gw n) fun e w' => e = .returned (.bool false) ∧ Below (gw n).heap.size (gw n) w') := Lib.hid fun n => by
    have := specValid_any _ _ _ (HC.out.below (gw_below n))
    rwa [hv] at this
  have HW := Lib.hid hW
  clear h hW hv p0 p1 p2 p3 z HC
  go_enter Try.func25, Try.ntmps25
  go_wp2_with fail
  rw [HW.out]
  refine wp_region_grow (by kernel_rfl) (by kernel_rfl) ?_
  repeat (go_big_quiet_step ((first | (go_at_call 11; exact grow_call (HV.out _)))))
  refine wpQuiet_nil ?_
  intro _ hw'
  obtain ⟨nq, hw''⟩ := hw'
  subst hw''
  have hgq := gw_below nq
  generalize gw nq = wq at *
  clear nq
  go_wp2_with fail
  go_ret
  exact ⟨rfl, hb.trans (hgq.mono hb.size)⟩
theorem specCan_ok (v : Value) (d : Ci) (i : Int) (w : World) (h : CircAt w v (Cir.toCz d)) (hd : Cir.Ok d) (hv : Cir.valid (Cir.toCz d) = true) (hi : -1000000 ≤ i ∧ i ≤ 1000000) :
    Calls Try.prog 25 #[v, .int .i64 i] w fun e w' => e = .returned (.bool (Cir.canR d i)) ∧ Below w.heap.size w w' := by
  have s1 := hd.ins
  have s2 := hd.nexts
  have s3 := hd.gatess
  have s4 := hd.outss
  obtain ⟨An, cn, Ag, cg, Ao, co, rfl⟩ := h.shape
  have hln : (Cir.toCz d).next.length = d.next.length := List.length_map _
  have hlg : (Cir.toCz d).gates.length = d.gates.length := List.length_map _
  have hlo : (Cir.toCz d).outs.length = d.outs.length := List.length_map _
  have hins : (Cir.toCz d).ins = (d.ins : Int) := rfl
  rw [hln, hlg, hlo, hins] at h ⊢
  have hb := bel_new w (.cells #[.int .i64 (d.ins : Int), .slice An d.next.length cn, .slice Ag d.gates.length cg, .slice Ao d.outs.length co] 26)
  have P := PCells.boxed w (d.ins : Int) (.slice An d.next.length cn) (.slice Ag d.gates.length cg) (.slice Ao d.outs.length co) 26
  have HC := Lib.hid (h.below hb)
  obtain ⟨vn, vg, vo, e, r1, r2, r3⟩ := h
  injection e with e
  simp only [Array.mk.injEq, List.cons.injEq, and_true] at e
  obtain ⟨-, e1, e2, e3⟩ := e
  subst e1 e2 e3
  have RG : Hid (Row w 2 (.slice Ag d.gates.length cg) d.gates.length (cubes (Cir.toCz d).gates)) := Lib.hid (by have := r2; unfold CubesAt at this; rwa [hlg] at this)
  obtain ⟨W, hW⟩ : ∃ W, w.alloc (.cells #[.int .i64 (d.ins : Int), .slice An d.next.length cn, .slice Ag d.gates.length cg, .slice Ao d.outs.length co] 26) = W := ⟨_, rfl⟩
  rw [hW] at P hb HC
  obtain ⟨z, p0, p1, p2, p3⟩ := P
  have g0 := gw_cell p0 z
  have g1 := gw_cell p1 z
  have g2 := gw_cell p2 z
  have g3 := gw_cell p3 z
  have HV : Hid (∀ n : GW W, Calls Try.prog 11 #[.agg #[.int .i64 (d.ins : Int), .slice An d.next.length cn, .slice Ag d.gates.length cg, .slice Ao d.outs.length co]] (gw n) fun e w' => e = .returned (.bool true) ∧ Below (gw n).heap.size (gw n) w') := Lib.hid fun n => by
    have := specValid_any _ _ _ (HC.out.below (gw_below n))
    rwa [hv] at this
  have HI0 : Hid (∀ n : GW W, Calls Try.prog 38 #[.int .i64 i, .int .i64 0, .int .i64 ((d.gates.length : Int) - 1)] (gw n) fun e w' => e = .returned (.bool (decide (0 ≤ i ∧ i ≤ (d.gates.length : Int) - 1))) ∧ gw n = w') := Lib.hid fun n => l1In_any _ _ _ _
  have hwg : IntKind.i64.wrap ((d.gates.length : Int) - 1) = (d.gates.length : Int) - 1 := IntWalk.i64_in _ (by omega)
  have HW := Lib.hid hW
  have HD := Lib.hid hd
  have Hv := Lib.hid hv
  have PC : Hid (PCells W w.heap.size (d.ins : Int) (.slice An d.next.length cn) (.slice Ag d.gates.length cg) (.slice Ao d.outs.length co)) := Lib.hid ⟨z, p0, p1, p2, p3⟩
  have Hb := Lib.hid hb
  have Hcan : Hid (Cir.canR d i = (decide (0 ≤ i ∧ i ≤ (d.gates.length : Int) - 1) && Cir.isLat d (d.gates.getD i.toNat (0, 0)).1 && Cir.isLat d (d.gates.getD i.toNat (0, 0)).2 && decide (d.next.length < 3) && decide (d.gates.length < 14))) := Lib.hid rfl
  clear hW hv p0 p1 p2 p3 z hd r1 r2 r3 hln hlg hlo hins hb
  obtain ⟨b1, hb1⟩ : ∃ b1, decide (0 ≤ i ∧ i ≤ (d.gates.length : Int) - 1) = b1 := ⟨_, rfl⟩
  rw [hb1] at HI0 Hcan
  cases b1
  · clear hb1
    go_enter Try.func25, Try.ntmps25
    go_wp2_with fail
    rw [HW.out]
    refine wp_region_grow (by kernel_rfl) (by kernel_rfl) ?_
    repeat (go_big_quiet_step ((first | (go_at_call 11; exact grow_call (HV.out _)) | (go_at_call 38; exact grow_same (HI0.out _)))))
    refine wpQuiet_nil ?_
    intro _ hw'
    obtain ⟨nq, hw''⟩ := hw'
    subst hw''
    have hgq := gw_below nq
    generalize gw nq = wq at *
    clear nq
    go_wp2_with fail
    go_ret
    exact ⟨by rw [Hcan.out]; rfl, Hb.out.trans (hgq.mono Hb.out.size)⟩
  · have hir := of_decide_eq_true hb1
    obtain ⟨k, rfl⟩ : ∃ k : Nat, i = (k : Int) := ⟨i.toNat, by omega⟩
    have hk : k < d.gates.length := by omega
    obtain ⟨bq, o, x, rfl, hbl, hx, hs1, hs2⟩ := cubes_open RG.out Hb.out (show d.gates.length = (Cir.toCz d).gates.length from (List.length_map _).symm) (i := k) (by rw [show (Cir.toCz d).gates.length = d.gates.length from List.length_map _]; exact hk)
    obtain ⟨gt, hgt⟩ := at_some hk
    have hxe : x = ((gt.1 : Int), (gt.2 : Int)) := by
      have h1 := hx.out
      unfold Cir.toCz at h1
      simp only [List.getElem?_map, hgt] at h1
      exact (Option.some.inj h1).symm
    subst hxe
    obtain ⟨x1, x2⟩ := gt
    simp only at hs1 hs2
    have hgD : d.gates.getD k (0, 0) = (x1, x2) := by rw [List.getD_eq_getElem?_getD, hgt, Option.getD_some]
    rw [Int.toNat_natCast, hgD] at Hcan
    obtain ⟨g1', g2'⟩ := HD.out.gate k _ hgt
    unfold Cir.nfirst at g1' g2'
    simp only at g1' g2'
    have hbW : bq < W.heap.size := Nat.lt_of_lt_of_le hbl Hb.out.size
    have HLA : Hid (∀ w', Below W.heap.size W w' → Calls Try.prog 70 #[.agg #[.int .i64 (d.ins : Int), .slice An d.next.length cn, .slice (some ⟨bq, o, none⟩) d.gates.length cg, .slice Ao d.outs.length co], .int .i64 (x1 : Int)] w' fun e w'' => e = .returned (.bool (Cir.isLat d x1)) ∧ Below w'.heap.size w' w'') := Lib.hid fun w' hb => l20Latch_any _ d x1 _ (HC.out.below hb) HD.out (by omega)
    have HLB : Hid (∀ w', Below W.heap.size W w' → Calls Try.prog 70 #[.agg #[.int .i64 (d.ins : Int), .slice An d.next.length cn, .slice (some ⟨bq, o, none⟩) d.gates.length cg, .slice Ao d.outs.length co], .int .i64 (x2 : Int)] w' fun e w'' => e = .returned (.bool (Cir.isLat d x2)) ∧ Below w'.heap.size w' w'') := Lib.hid fun w' hb => l20Latch_any _ d x2 _ (HC.out.below hb) HD.out (by omega)
    have HVb : Hid (∀ w', Below W.heap.size W w' → Calls Try.prog 11 #[.agg #[.int .i64 (d.ins : Int), .slice An d.next.length cn, .slice (some ⟨bq, o, none⟩) d.gates.length cg, .slice Ao d.outs.length co]] w' fun e w'' => e = .returned (.bool true) ∧ Below w'.heap.size w' w'') := Lib.hid fun w' hb => by
      have := specValid_any _ _ _ (HC.out.below hb)
      rwa [Hv.out] at this
    have HIb : Hid (∀ w', Calls Try.prog 38 #[.int .i64 (k : Int), .int .i64 0, .int .i64 ((d.gates.length : Int) - 1)] w' fun e w'' => e = .returned (.bool true) ∧ w' = w'') := Lib.hid fun w' => by
      have := l1In_any (k : Int) 0 ((d.gates.length : Int) - 1) w'
      rwa [decide_eq_true hir] at this
    clear hb1 hir hx hgt hgD hi HI0 HV g0 g1 g2 g3
    generalize Cir.isLat d x1 = b2 at *
    generalize Cir.isLat d x2 = b3 at *
    have hd4 : decide ((d.next.length : Int) < 3) = decide (d.next.length < 3) := by rw [Bool.eq_iff_iff]; simp only [decide_eq_true_iff]; omega
    have hd5 : decide ((d.gates.length : Int) < 14) = decide (d.gates.length < 14) := by rw [Bool.eq_iff_iff]; simp only [decide_eq_true_iff]; omega
    obtain ⟨b4, hb4⟩ : ∃ b4, decide (d.next.length < 3) = b4 := ⟨_, rfl⟩
    obtain ⟨b5, hb5⟩ : ∃ b5, decide (d.gates.length < 14) = b5 := ⟨_, rfl⟩
    rw [hb4] at hd4 Hcan
    rw [hb5] at hd5 Hcan
    cases b2
    · go_enter Try.func25, Try.ntmps25
      go_wp2_with fail
      rw [HW.out]
      refine wp_region_rsG [(2, some true), (10, some true), (20, some false), (30, some false), (36, some false)] (quietRS Try.prog _ W _) quietRS_ok (by kernel_rfl) (by kernel_rfl) (by kernel_rfl) (Nat.le_of_ble_eq_true rfl) trivial trivial ?_
      refine rs_peel ?_
      apply rs_eq quietRS_ok quiet_any
      · intro ρ w' ho hK
        have ho : Only _ W w' := ho
        obtain ⟨h0, -⟩ := hK
        have h0' : ρ (.tmp 2) = _ := h0
        have hb := only_below ho
        obtain ⟨-, q0, q1, q2, q3⟩ := PC.out.below hb
        have c1 := (hb.cell (p := ⟨bq, o + k * 2, none⟩) hbW).trans hs1
        have c2 := (hb.cell (p := ⟨bq, o + k * 2 + 1, none⟩) hbW).trans hs2
        go_simp
        try exact rfl
      refine rs_peel ?_
      refine rs_call quietRS_ok quiet_any (TEq (.bool true)) (stb_eq _ _) 11 _ _ rfl (fun ρ w' ho hK => by
        have ho : Only _ W w' := ho
        obtain ⟨h0, h1, -⟩ := hK
        have h0' : ρ (.func 11) = .func (.func 11) #[] #[] := h0
        have h1' : ρ (.tmp 5) = _ := h1
        refine ⟨#[ρ (.tmp 5)], ?_, ?_⟩
        · go_simp
        · rw [h1']
          refine (HVb.out w' (only_below ho)).mono ?_
          rintro e w2 ⟨rfl, hb⟩
          exact ⟨_, rfl, rfl, hb⟩) ?_
      refine rs_peel ?_
      refine rs_same quietRS_ok quiet_any 6 1 (.inl rfl) rfl _ rfl ?_
      refine rs_run rfl ?_
      refine rs_old quietRS_ok quiet_any _ (.inl rfl) _ rfl rfl ?_
      refine rs_run rfl ?_
      apply rs_eq quietRS_ok quiet_any
      · intro ρ w' ho hK
        have ho : Only _ W w' := ho
        obtain ⟨h0, -⟩ := hK
        have h0' : ρ (.tmp 2) = _ := h0
        go_simp
        try exact rfl
      refine rs_run rfl ?_
      apply rs_eq quietRS_ok quiet_any
      · intro ρ w' ho hK
        have ho : Only _ W w' := ho
        obtain ⟨h0, -⟩ := hK
        have h0' : ρ (.tmp 9) = _ := h0
        have hb := only_below ho
        obtain ⟨-, q0, q1, q2, q3⟩ := PC.out.below hb
        have c1 := (hb.cell (p := ⟨bq, o + k * 2, none⟩) hbW).trans hs1
        have c2 := (hb.cell (p := ⟨bq, o + k * 2 + 1, none⟩) hbW).trans hs2
        go_simp
        try exact rfl
      refine rs_run rfl ?_
      apply rs_eq quietRS_ok quiet_any
      · intro ρ w' ho hK
        have ho : Only _ W w' := ho
        obtain ⟨h0, -⟩ := hK
        have h0' : ρ (.tmp 10) = _ := h0
        go_simp
        try exact rfl
      refine rs_run rfl ?_
      apply rs_eq quietRS_ok quiet_any
      · intro ρ w' ho hK
        have ho : Only _ W w' := ho
        obtain ⟨h0, h1, -⟩ := hK
        have h0' : ρ (.tmp 11) = _ := h0
        have h1' : ρ (.const (Value.int IntKind.i64 1)) = (Value.int IntKind.i64 1) := h1
        go_simp
        try exact rfl
      refine rs_run rfl ?_
      refine rs_call quietRS_ok quiet_any (TEq (.bool true)) (stb_eq _ _) 38 _ _ rfl (fun ρ w' ho hK => by
        have ho : Only _ W w' := ho
        obtain ⟨h0, h1, h2, h3, -⟩ := hK
        have h0' : ρ (.func 38) = .func (.func 38) #[] #[] := h0
        have h1' : ρ (.tmp 8) = _ := h1
        have h2' : ρ (.const (Value.int IntKind.i64 0)) = (Value.int IntKind.i64 0) := h2
        have h3' : ρ (.tmp 12) = _ := h3
        refine ⟨#[ρ (.tmp 8), ρ (.const (Value.int IntKind.i64 0)), ρ (.tmp 12)], ?_, ?_⟩
        · go_simp
        · rw [h1', h2', h3']
          refine (HIb.out w').mono ?_
          rintro e w2 ⟨rfl, rfl⟩
          exact ⟨_, rfl, rfl, Below.refl _ _⟩) ?_
      refine rs_peel ?_
      apply rs_eq quietRS_ok quiet_any
      · intro ρ w' ho hK
        have ho : Only _ W w' := ho
        obtain ⟨h0, h1, h2, -⟩ := hK
        have h0' : ρ (.tmp 7) = _ := h0
        have h1' : ρ (.tmp 13) = _ := h1
        have h2' : ρ (.const (Value.bool false)) = (Value.bool false) := h2
        go_simp
        try exact rfl
      refine rs_peel ?_
      refine rs_same quietRS_ok quiet_any 14 9 (.inl rfl) rfl _ rfl ?_
      refine rs_run rfl ?_
      apply rs_eq quietRS_ok quiet_any
      · intro ρ w' ho hK
        have ho : Only _ W w' := ho
        obtain ⟨h0, -⟩ := hK
        have h0' : ρ (.tmp 2) = _ := h0
        have hb := only_below ho
        obtain ⟨-, q0, q1, q2, q3⟩ := PC.out.below hb
        have c1 := (hb.cell (p := ⟨bq, o + k * 2, none⟩) hbW).trans hs1
        have c2 := (hb.cell (p := ⟨bq, o + k * 2 + 1, none⟩) hbW).trans hs2
        go_simp
        try exact rfl
      refine rs_run rfl ?_
      apply rs_eq quietRS_ok quiet_any
      · intro ρ w' ho hK
        have ho : Only _ W w' := ho
        obtain ⟨h0, -⟩ := hK
        have h0' : ρ (.tmp 2) = _ := h0
        go_simp
        try exact rfl
      refine rs_run rfl ?_
      apply rs_eq quietRS_ok quiet_any
      · intro ρ w' ho hK
        have ho : Only _ W w' := ho
        obtain ⟨h0, -⟩ := hK
        have h0' : ρ (.tmp 17) = _ := h0
        have hb := only_below ho
        obtain ⟨-, q0, q1, q2, q3⟩ := PC.out.below hb
        have c1 := (hb.cell (p := ⟨bq, o + k * 2, none⟩) hbW).trans hs1
        have c2 := (hb.cell (p := ⟨bq, o + k * 2 + 1, none⟩) hbW).trans hs2
        go_simp
        try exact rfl
      refine rs_run rfl ?_
      refine rs_old quietRS_ok quiet_any _ (.inl rfl) _ rfl rfl ?_
      refine rs_run rfl ?_
      apply rs_eq quietRS_ok quiet_any
      · intro ρ w' ho hK
        have ho : Only _ W w' := ho
        obtain ⟨h0, h1, -⟩ := hK
        have h0' : ρ (.tmp 18) = _ := h0
        have h1' : ρ (.tmp 19) = _ := h1
        go_simp
        try exact rfl
      refine rs_run rfl ?_
      apply rs_eq quietRS_ok quiet_any
      · intro ρ w' ho hK
        have ho : Only _ W w' := ho
        obtain ⟨h0, -⟩ := hK
        have h0' : ρ (.tmp 20) = _ := h0
        go_simp
        try exact rfl
      refine rs_run rfl ?_
      apply rs_eq quietRS_ok quiet_any
      · intro ρ w' ho hK
        have ho : Only _ W w' := ho
        obtain ⟨h0, -⟩ := hK
        have h0' : ρ (.tmp 21) = _ := h0
        have hb := only_below ho
        obtain ⟨-, q0, q1, q2, q3⟩ := PC.out.below hb
        have c1 := (hb.cell (p := ⟨bq, o + k * 2, none⟩) hbW).trans hs1
        have c2 := (hb.cell (p := ⟨bq, o + k * 2 + 1, none⟩) hbW).trans hs2
        go_simp
        try exact rfl
      refine rs_run rfl ?_
      refine rs_call quietRS_ok quiet_any (TEq (.bool false)) (stb_eq _ _) 70 _ _ rfl (fun ρ w' ho hK => by
        have ho : Only _ W w' := ho
        obtain ⟨h0, h1, h2, -⟩ := hK
        have h0' : ρ (.func 70) = .func (.func 70) #[] #[] := h0
        have h1' : ρ (.tmp 16) = _ := h1
        have h2' : ρ (.tmp 22) = _ := h2
        refine ⟨#[ρ (.tmp 16), ρ (.tmp 22)], ?_, ?_⟩
        · go_simp
        · rw [h1', h2']
          refine (HLA.out w' (only_below ho)).mono ?_
          rintro e w2 ⟨rfl, hb⟩
          exact ⟨_, rfl, rfl, hb⟩) ?_
      refine rs_peel ?_
      apply rs_eq quietRS_ok quiet_any
      · intro ρ w' ho hK
        have ho : Only _ W w' := ho
        obtain ⟨h0, h1, h2, -⟩ := hK
        have h0' : ρ (.tmp 15) = _ := h0
        have h1' : ρ (.tmp 23) = _ := h1
        have h2' : ρ (.const (Value.bool false)) = (Value.bool false) := h2
        go_simp
        try exact rfl
      refine rs_peel ?_
      refine rs_same quietRS_ok quiet_any 24 19 (.inl rfl) rfl _ rfl ?_
      refine rs_skip rfl (by decide) ?_
      refine rs_old quietRS_ok quiet_any (.const undef) (.inl rfl) _ rfl rfl ?_
      refine rs_skip rfl (by decide) ?_
      refine rs_old quietRS_ok quiet_any (.const undef) (.inl rfl) _ rfl rfl ?_
      refine rs_skip rfl (by decide) ?_
      refine rs_old quietRS_ok quiet_any (.const undef) (.inl rfl) _ rfl rfl ?_
      refine rs_skip rfl (by decide) ?_
      refine rs_old quietRS_ok quiet_any (.const undef) (.inl rfl) _ rfl rfl ?_
      refine rs_skip rfl (by decide) ?_
      refine rs_old quietRS_ok quiet_any (.const undef) (.inl rfl) _ rfl rfl ?_
      refine rs_skip rfl (by decide) ?_
      refine rs_old quietRS_ok quiet_any (.const undef) (.inl rfl) _ rfl rfl ?_
      refine rs_skip rfl (by decide) ?_
      refine rs_old quietRS_ok quiet_any (.const undef) (.inl rfl) _ rfl rfl ?_
      refine rs_skip rfl (by decide) ?_
      refine rs_old quietRS_ok quiet_any (.const undef) (.inl rfl) _ rfl rfl ?_
      refine rs_peel ?_
      apply rs_eq quietRS_ok quiet_any
      · intro ρ w' ho hK
        have ho : Only _ W w' := ho
        obtain ⟨h0, h1, h2, -⟩ := hK
        have h0' : ρ (.tmp 25) = _ := h0
        have h1' : ρ (.tmp 33) = _ := h1
        have h2' : ρ (.const (Value.bool false)) = (Value.bool false) := h2
        go_simp
        try exact rfl
      refine rs_peel ?_
      refine rs_same quietRS_ok quiet_any 34 29 (.inl rfl) rfl _ rfl ?_
      refine rs_skip rfl (by decide) ?_
      refine rs_old quietRS_ok quiet_any (.const undef) (.inl rfl) _ rfl rfl ?_
      refine rs_skip rfl (by decide) ?_
      refine rs_old quietRS_ok quiet_any (.const undef) (.inl rfl) _ rfl rfl ?_
      refine rs_skip rfl (by decide) ?_
      refine rs_old quietRS_ok quiet_any (.const undef) (.inl rfl) _ rfl rfl ?_
      refine rs_skip rfl (by decide) ?_
      refine rs_old quietRS_ok quiet_any (.const undef) (.inl rfl) _ rfl rfl ?_
      refine rs_peel ?_
      apply rs_eq quietRS_ok quiet_any
      · intro ρ w' ho hK
        have ho : Only _ W w' := ho
        obtain ⟨h0, h1, h2, -⟩ := hK
        have h0' : ρ (.tmp 35) = _ := h0
        have h1' : ρ (.tmp 39) = _ := h1
        have h2' : ρ (.const (Value.bool false)) = (Value.bool false) := h2
        go_simp
        try exact rfl
      refine rs_peel ?_
      refine rs_same quietRS_ok quiet_any 40 35 (.inl rfl) rfl _ rfl ?_
      refine rs_skip rfl (by decide) ?_
      refine rs_old quietRS_ok quiet_any (.const undef) (.inl rfl) _ rfl rfl ?_
      refine rs_skip rfl (by decide) ?_
      refine rs_old quietRS_ok quiet_any (.const undef) (.inl rfl) _ rfl rfl ?_
      refine rs_skip rfl (by decide) ?_
      refine rs_old quietRS_ok quiet_any (.const undef) (.inl rfl) _ rfl rfl ?_
      refine rs_skip rfl (by decide) ?_
      refine rs_old quietRS_ok quiet_any (.const undef) (.inl rfl) _ rfl rfl ?_
      refine rs_peel ?_
      apply rs_eq quietRS_ok quiet_any
      · intro ρ w' ho hK
        have ho : Only _ W w' := ho
        obtain ⟨h0, h1, h2, -⟩ := hK
        have h0' : ρ (.tmp 41) = _ := h0
        have h1' : ρ (.tmp 45) = _ := h1
        have h2' : ρ (.const (Value.bool false)) = (Value.bool false) := h2
        go_simp
        try exact rfl
      refine rs_peel ?_
      refine rs_same quietRS_ok quiet_any 46 41 (.inr rfl) rfl _ rfl ?_
      refine ⟨⟨rfl, rfl, rfl, rfl, rfl, trivial⟩, ?_⟩
      intro f w9 k9 hk9 hI9 ht9 hcp9
      have E0 : f 0 = _ := ht9 0 (Nat.le_of_ble_eq_true rfl)
      have E1 : f 1 = _ := ht9 1 (Nat.le_of_ble_eq_true rfl)
      have E2 : f 2 = _ := ht9 2 (Nat.le_of_ble_eq_true rfl)
      have E3 : f 3 = _ := ht9 3 (Nat.le_of_ble_eq_true rfl)
      conv at E3 => rhs; whnf
      have E4 : f 4 = _ := ht9 4 (Nat.le_of_ble_eq_true rfl)
      have E5 : f 5 = _ := ht9 5 (Nat.le_of_ble_eq_true rfl)
      have E6 : f 6 = _ := ht9 6 (Nat.le_of_ble_eq_true rfl)
      have E7 : f 7 = _ := ht9 7 (Nat.le_of_ble_eq_true rfl)
      have E8 : f 8 = _ := ht9 8 (Nat.le_of_ble_eq_true rfl)
      have E9 : f 9 = _ := ht9 9 (Nat.le_of_ble_eq_true rfl)
      have E10 : f 10 = _ := ht9 10 (Nat.le_of_ble_eq_true rfl)
      have E11 : f 11 = _ := ht9 11 (Nat.le_of_ble_eq_true rfl)
      have E12 : f 12 = _ := ht9 12 (Nat.le_of_ble_eq_true rfl)
      have E13 : f 13 = _ := ht9 13 (Nat.le_of_ble_eq_true rfl)
      have E14 : f 14 = _ := ht9 14 (Nat.le_of_ble_eq_true rfl)
      conv at E14 => rhs; whnf
      have E15 : f 15 = _ := ht9 15 (Nat.le_of_ble_eq_true rfl)
      have E16 : f 16 = _ := ht9 16 (Nat.le_of_ble_eq_true rfl)
      have E17 : f 17 = _ := ht9 17 (Nat.le_of_ble_eq_true rfl)
      have E18 : f 18 = _ := ht9 18 (Nat.le_of_ble_eq_true rfl)
      have E19 : f 19 = _ := ht9 19 (Nat.le_of_ble_eq_true rfl)
      have E20 : f 20 = _ := ht9 20 (Nat.le_of_ble_eq_true rfl)
      have E21 : f 21 = _ := ht9 21 (Nat.le_of_ble_eq_true rfl)
      conv at E21 => rhs; whnf
      have E22 : f 22 = _ := ht9 22 (Nat.le_of_ble_eq_true rfl)
      conv at E22 => rhs; whnf
      have E23 : f 23 = _ := ht9 23 (Nat.le_of_ble_eq_true rfl)
      conv at E23 => rhs; whnf
      have E24 : f 24 = _ := ht9 24 (Nat.le_of_ble_eq_true rfl)
      conv at E24 => rhs; whnf
      have E25 : f 25 = _ := ht9 25 (Nat.le_of_ble_eq_true rfl)
      conv at E25 => rhs; whnf
      have E26 : f 26 = _ := ht9 26 (Nat.le_of_ble_eq_true rfl)
      conv at E26 => rhs; whnf
      have E27 : f 27 = _ := ht9 27 (Nat.le_of_ble_eq_true rfl)
      conv at E27 => rhs; whnf
      have E28 : f 28 = _ := ht9 28 (Nat.le_of_ble_eq_true rfl)
      conv at E28 => rhs; whnf
      have E29 : f 29 = _ := ht9 29 (Nat.le_of_ble_eq_true rfl)
      have E30 : f 30 = _ := ht9 30 (Nat.le_of_ble_eq_true rfl)
      have E31 : f 31 = _ := ht9 31 (Nat.le_of_ble_eq_true rfl)
      conv at E31 => rhs; whnf
      have E32 : f 32 = _ := ht9 32 (Nat.le_of_ble_eq_true rfl)
      conv at E32 => rhs; whnf
      have E33 : f 33 = _ := ht9 33 (Nat.le_of_ble_eq_true rfl)
      conv at E33 => rhs; whnf
      have E34 : f 34 = _ := ht9 34 (Nat.le_of_ble_eq_true rfl)
      conv at E34 => rhs; whnf
      have E35 : f 35 = _ := ht9 35 (Nat.le_of_ble_eq_true rfl)
      have E36 : f 36 = _ := ht9 36 (Nat.le_of_ble_eq_true rfl)
      have E37 : f 37 = _ := ht9 37 (Nat.le_of_ble_eq_true rfl)
      conv at E37 => rhs; whnf
      have E38 : f 38 = _ := ht9 38 (Nat.le_of_ble_eq_true rfl)
      conv at E38 => rhs; whnf
      have E39 : f 39 = _ := ht9 39 (Nat.le_of_ble_eq_true rfl)
      conv at E39 => rhs; whnf
      have E40 : f 40 = _ := ht9 40 (Nat.le_of_ble_eq_true rfl)
      conv at E40 => rhs; whnf
      have E41 : f 41 = _ := ht9 41 (Nat.le_of_ble_eq_true rfl)
      have E42 : f 42 = _ := ht9 42 (Nat.le_of_ble_eq_true rfl)
      have Ho9 : Only _ W w9 := hI9.2.1
      simp only [putAll, E0, E1, E2, E3, E4, E5, E6, E7, E8, E9, E10, E11, E12, E13, E14, E15, E16, E17, E18, E19, E20, E21, E22, E23, E24, E25, E26, E27, E28, E29, E30, E31, E32, E33, E34, E35, E36, E37, E38, E39, E40, E41, E42, Nat.zero_add, Nat.reduceAdd, Act.put, List.setIfInBounds_toArray, List.set_cons_succ, List.set_cons_zero]
      clear E0 E1 E2 E3 E4 E5 E6 E7 E8 E9 E10 E11 E12 E13 E14 E15 E16 E17 E18 E19 E20 E21 E22 E23 E24 E25 E26 E27 E28 E29 E30 E31 E32 E33 E34 E35 E36 E37 E38 E39 E40 E41 E42
      clear hI9 ht9 hcp9 hk9
      have hb9 := only_below Ho9
      go_wp2_with fail
      go_ret
      exact ⟨by rw [Hcan.out]; rfl, Hb.out.trans (hb9.mono Hb.out.size)⟩
    · cases b3
      · go_enter Try.func25, Try.ntmps25
        go_wp2_with fail
        rw [HW.out]
        refine wp_region_rsG [(2, some true), (10, some true), (20, some true), (30, some false), (36, some false)] (quietRS Try.prog _ W _) quietRS_ok (by kernel_rfl) (by kernel_rfl) (by kernel_rfl) (Nat.le_of_ble_eq_true rfl) trivial trivial ?_
        refine rs_peel ?_
        apply rs_eq quietRS_ok quiet_any
        · intro ρ w' ho hK
          have ho : Only _ W w' := ho
          obtain ⟨h0, -⟩ := hK
          have h0' : ρ (.tmp 2) = _ := h0
          have hb := only_below ho
          obtain ⟨-, q0, q1, q2, q3⟩ := PC.out.below hb
          have c1 := (hb.cell (p := ⟨bq, o + k * 2, none⟩) hbW).trans hs1
          have c2 := (hb.cell (p := ⟨bq, o + k * 2 + 1, none⟩) hbW).trans hs2
          go_simp
          try exact rfl
        refine rs_peel ?_
        refine rs_call quietRS_ok quiet_any (TEq (.bool true)) (stb_eq _ _) 11 _ _ rfl (fun ρ w' ho hK => by
          have ho : Only _ W w' := ho
          obtain ⟨h0, h1, -⟩ := hK
          have h0' : ρ (.func 11) = .func (.func 11) #[] #[] := h0
          have h1' : ρ (.tmp 5) = _ := h1
          refine ⟨#[ρ (.tmp 5)], ?_, ?_⟩
          · go_simp
          · rw [h1']
            refine (HVb.out w' (only_below ho)).mono ?_
            rintro e w2 ⟨rfl, hb⟩
            exact ⟨_, rfl, rfl, hb⟩) ?_
        refine rs_peel ?_
        refine rs_same quietRS_ok quiet_any 6 1 (.inl rfl) rfl _ rfl ?_
        refine rs_run rfl ?_
        refine rs_old quietRS_ok quiet_any _ (.inl rfl) _ rfl rfl ?_
        refine rs_run rfl ?_
        apply rs_eq quietRS_ok quiet_any
        · intro ρ w' ho hK
          have ho : Only _ W w' := ho
          obtain ⟨h0, -⟩ := hK
          have h0' : ρ (.tmp 2) = _ := h0
          go_simp
          try exact rfl
        refine rs_run rfl ?_
        apply rs_eq quietRS_ok quiet_any
        · intro ρ w' ho hK
          have ho : Only _ W w' := ho
          obtain ⟨h0, -⟩ := hK
          have h0' : ρ (.tmp 9) = _ := h0
          have hb := only_below ho
          obtain ⟨-, q0, q1, q2, q3⟩ := PC.out.below hb
          have c1 := (hb.cell (p := ⟨bq, o + k * 2, none⟩) hbW).trans hs1
          have c2 := (hb.cell (p := ⟨bq, o + k * 2 + 1, none⟩) hbW).trans hs2
          go_simp
          try exact rfl
        refine rs_run rfl ?_
        apply rs_eq quietRS_ok quiet_any
        · intro ρ w' ho hK
          have ho : Only _ W w' := ho
          obtain ⟨h0, -⟩ := hK
          have h0' : ρ (.tmp 10) = _ := h0
          go_simp
          try exact rfl
        refine rs_run rfl ?_
        apply rs_eq quietRS_ok quiet_any
        · intro ρ w' ho hK
          have ho : Only _ W w' := ho
          obtain ⟨h0, h1, -⟩ := hK
          have h0' : ρ (.tmp 11) = _ := h0
          have h1' : ρ (.const (Value.int IntKind.i64 1)) = (Value.int IntKind.i64 1) := h1
          go_simp
          try exact rfl
        refine rs_run rfl ?_
        refine rs_call quietRS_ok quiet_any (TEq (.bool true)) (stb_eq _ _) 38 _ _ rfl (fun ρ w' ho hK => by
          have ho : Only _ W w' := ho
          obtain ⟨h0, h1, h2, h3, -⟩ := hK
          have h0' : ρ (.func 38) = .func (.func 38) #[] #[] := h0
          have h1' : ρ (.tmp 8) = _ := h1
          have h2' : ρ (.const (Value.int IntKind.i64 0)) = (Value.int IntKind.i64 0) := h2
          have h3' : ρ (.tmp 12) = _ := h3
          refine ⟨#[ρ (.tmp 8), ρ (.const (Value.int IntKind.i64 0)), ρ (.tmp 12)], ?_, ?_⟩
          · go_simp
          · rw [h1', h2', h3']
            refine (HIb.out w').mono ?_
            rintro e w2 ⟨rfl, rfl⟩
            exact ⟨_, rfl, rfl, Below.refl _ _⟩) ?_
        refine rs_peel ?_
        apply rs_eq quietRS_ok quiet_any
        · intro ρ w' ho hK
          have ho : Only _ W w' := ho
          obtain ⟨h0, h1, h2, -⟩ := hK
          have h0' : ρ (.tmp 7) = _ := h0
          have h1' : ρ (.tmp 13) = _ := h1
          have h2' : ρ (.const (Value.bool false)) = (Value.bool false) := h2
          go_simp
          try exact rfl
        refine rs_peel ?_
        refine rs_same quietRS_ok quiet_any 14 9 (.inl rfl) rfl _ rfl ?_
        refine rs_run rfl ?_
        apply rs_eq quietRS_ok quiet_any
        · intro ρ w' ho hK
          have ho : Only _ W w' := ho
          obtain ⟨h0, -⟩ := hK
          have h0' : ρ (.tmp 2) = _ := h0
          have hb := only_below ho
          obtain ⟨-, q0, q1, q2, q3⟩ := PC.out.below hb
          have c1 := (hb.cell (p := ⟨bq, o + k * 2, none⟩) hbW).trans hs1
          have c2 := (hb.cell (p := ⟨bq, o + k * 2 + 1, none⟩) hbW).trans hs2
          go_simp
          try exact rfl
        refine rs_run rfl ?_
        apply rs_eq quietRS_ok quiet_any
        · intro ρ w' ho hK
          have ho : Only _ W w' := ho
          obtain ⟨h0, -⟩ := hK
          have h0' : ρ (.tmp 2) = _ := h0
          go_simp
          try exact rfl
        refine rs_run rfl ?_
        apply rs_eq quietRS_ok quiet_any
        · intro ρ w' ho hK
          have ho : Only _ W w' := ho
          obtain ⟨h0, -⟩ := hK
          have h0' : ρ (.tmp 17) = _ := h0
          have hb := only_below ho
          obtain ⟨-, q0, q1, q2, q3⟩ := PC.out.below hb
          have c1 := (hb.cell (p := ⟨bq, o + k * 2, none⟩) hbW).trans hs1
          have c2 := (hb.cell (p := ⟨bq, o + k * 2 + 1, none⟩) hbW).trans hs2
          go_simp
          try exact rfl
        refine rs_run rfl ?_
        refine rs_old quietRS_ok quiet_any _ (.inl rfl) _ rfl rfl ?_
        refine rs_run rfl ?_
        apply rs_eq quietRS_ok quiet_any
        · intro ρ w' ho hK
          have ho : Only _ W w' := ho
          obtain ⟨h0, h1, -⟩ := hK
          have h0' : ρ (.tmp 18) = _ := h0
          have h1' : ρ (.tmp 19) = _ := h1
          go_simp
          try exact rfl
        refine rs_run rfl ?_
        apply rs_eq quietRS_ok quiet_any
        · intro ρ w' ho hK
          have ho : Only _ W w' := ho
          obtain ⟨h0, -⟩ := hK
          have h0' : ρ (.tmp 20) = _ := h0
          go_simp
          try exact rfl
        refine rs_run rfl ?_
        apply rs_eq quietRS_ok quiet_any
        · intro ρ w' ho hK
          have ho : Only _ W w' := ho
          obtain ⟨h0, -⟩ := hK
          have h0' : ρ (.tmp 21) = _ := h0
          have hb := only_below ho
          obtain ⟨-, q0, q1, q2, q3⟩ := PC.out.below hb
          have c1 := (hb.cell (p := ⟨bq, o + k * 2, none⟩) hbW).trans hs1
          have c2 := (hb.cell (p := ⟨bq, o + k * 2 + 1, none⟩) hbW).trans hs2
          go_simp
          try exact rfl
        refine rs_run rfl ?_
        refine rs_call quietRS_ok quiet_any (TEq (.bool true)) (stb_eq _ _) 70 _ _ rfl (fun ρ w' ho hK => by
          have ho : Only _ W w' := ho
          obtain ⟨h0, h1, h2, -⟩ := hK
          have h0' : ρ (.func 70) = .func (.func 70) #[] #[] := h0
          have h1' : ρ (.tmp 16) = _ := h1
          have h2' : ρ (.tmp 22) = _ := h2
          refine ⟨#[ρ (.tmp 16), ρ (.tmp 22)], ?_, ?_⟩
          · go_simp
          · rw [h1', h2']
            refine (HLA.out w' (only_below ho)).mono ?_
            rintro e w2 ⟨rfl, hb⟩
            exact ⟨_, rfl, rfl, hb⟩) ?_
        refine rs_peel ?_
        apply rs_eq quietRS_ok quiet_any
        · intro ρ w' ho hK
          have ho : Only _ W w' := ho
          obtain ⟨h0, h1, h2, -⟩ := hK
          have h0' : ρ (.tmp 15) = _ := h0
          have h1' : ρ (.tmp 23) = _ := h1
          have h2' : ρ (.const (Value.bool false)) = (Value.bool false) := h2
          go_simp
          try exact rfl
        refine rs_peel ?_
        refine rs_same quietRS_ok quiet_any 24 19 (.inl rfl) rfl _ rfl ?_
        refine rs_run rfl ?_
        apply rs_eq quietRS_ok quiet_any
        · intro ρ w' ho hK
          have ho : Only _ W w' := ho
          obtain ⟨h0, -⟩ := hK
          have h0' : ρ (.tmp 2) = _ := h0
          have hb := only_below ho
          obtain ⟨-, q0, q1, q2, q3⟩ := PC.out.below hb
          have c1 := (hb.cell (p := ⟨bq, o + k * 2, none⟩) hbW).trans hs1
          have c2 := (hb.cell (p := ⟨bq, o + k * 2 + 1, none⟩) hbW).trans hs2
          go_simp
          try exact rfl
        refine rs_run rfl ?_
        apply rs_eq quietRS_ok quiet_any
        · intro ρ w' ho hK
          have ho : Only _ W w' := ho
          obtain ⟨h0, -⟩ := hK
          have h0' : ρ (.tmp 2) = _ := h0
          go_simp
          try exact rfl
        refine rs_run rfl ?_
        apply rs_eq quietRS_ok quiet_any
        · intro ρ w' ho hK
          have ho : Only _ W w' := ho
          obtain ⟨h0, -⟩ := hK
          have h0' : ρ (.tmp 27) = _ := h0
          have hb := only_below ho
          obtain ⟨-, q0, q1, q2, q3⟩ := PC.out.below hb
          have c1 := (hb.cell (p := ⟨bq, o + k * 2, none⟩) hbW).trans hs1
          have c2 := (hb.cell (p := ⟨bq, o + k * 2 + 1, none⟩) hbW).trans hs2
          go_simp
          try exact rfl
        refine rs_run rfl ?_
        refine rs_old quietRS_ok quiet_any _ (.inl rfl) _ rfl rfl ?_
        refine rs_run rfl ?_
        apply rs_eq quietRS_ok quiet_any
        · intro ρ w' ho hK
          have ho : Only _ W w' := ho
          obtain ⟨h0, h1, -⟩ := hK
          have h0' : ρ (.tmp 28) = _ := h0
          have h1' : ρ (.tmp 29) = _ := h1
          go_simp
          try exact rfl
        refine rs_run rfl ?_
        apply rs_eq quietRS_ok quiet_any
        · intro ρ w' ho hK
          have ho : Only _ W w' := ho
          obtain ⟨h0, -⟩ := hK
          have h0' : ρ (.tmp 30) = _ := h0
          go_simp
          try exact rfl
        refine rs_run rfl ?_
        apply rs_eq quietRS_ok quiet_any
        · intro ρ w' ho hK
          have ho : Only _ W w' := ho
          obtain ⟨h0, -⟩ := hK
          have h0' : ρ (.tmp 31) = _ := h0
          have hb := only_below ho
          obtain ⟨-, q0, q1, q2, q3⟩ := PC.out.below hb
          have c1 := (hb.cell (p := ⟨bq, o + k * 2, none⟩) hbW).trans hs1
          have c2 := (hb.cell (p := ⟨bq, o + k * 2 + 1, none⟩) hbW).trans hs2
          go_simp
          try exact rfl
        refine rs_run rfl ?_
        refine rs_call quietRS_ok quiet_any (TEq (.bool false)) (stb_eq _ _) 70 _ _ rfl (fun ρ w' ho hK => by
          have ho : Only _ W w' := ho
          obtain ⟨h0, h1, h2, -⟩ := hK
          have h0' : ρ (.func 70) = .func (.func 70) #[] #[] := h0
          have h1' : ρ (.tmp 26) = _ := h1
          have h2' : ρ (.tmp 32) = _ := h2
          refine ⟨#[ρ (.tmp 26), ρ (.tmp 32)], ?_, ?_⟩
          · go_simp
          · rw [h1', h2']
            refine (HLB.out w' (only_below ho)).mono ?_
            rintro e w2 ⟨rfl, hb⟩
            exact ⟨_, rfl, rfl, hb⟩) ?_
        refine rs_peel ?_
        apply rs_eq quietRS_ok quiet_any
        · intro ρ w' ho hK
          have ho : Only _ W w' := ho
          obtain ⟨h0, h1, h2, -⟩ := hK
          have h0' : ρ (.tmp 25) = _ := h0
          have h1' : ρ (.tmp 33) = _ := h1
          have h2' : ρ (.const (Value.bool false)) = (Value.bool false) := h2
          go_simp
          try exact rfl
        refine rs_peel ?_
        refine rs_same quietRS_ok quiet_any 34 29 (.inl rfl) rfl _ rfl ?_
        refine rs_skip rfl (by decide) ?_
        refine rs_old quietRS_ok quiet_any (.const undef) (.inl rfl) _ rfl rfl ?_
        refine rs_skip rfl (by decide) ?_
        refine rs_old quietRS_ok quiet_any (.const undef) (.inl rfl) _ rfl rfl ?_
        refine rs_skip rfl (by decide) ?_
        refine rs_old quietRS_ok quiet_any (.const undef) (.inl rfl) _ rfl rfl ?_
        refine rs_skip rfl (by decide) ?_
        refine rs_old quietRS_ok quiet_any (.const undef) (.inl rfl) _ rfl rfl ?_
        refine rs_peel ?_
        apply rs_eq quietRS_ok quiet_any
        · intro ρ w' ho hK
          have ho : Only _ W w' := ho
          obtain ⟨h0, h1, h2, -⟩ := hK
          have h0' : ρ (.tmp 35) = _ := h0
          have h1' : ρ (.tmp 39) = _ := h1
          have h2' : ρ (.const (Value.bool false)) = (Value.bool false) := h2
          go_simp
          try exact rfl
        refine rs_peel ?_
        refine rs_same quietRS_ok quiet_any 40 35 (.inl rfl) rfl _ rfl ?_
        refine rs_skip rfl (by decide) ?_
        refine rs_old quietRS_ok quiet_any (.const undef) (.inl rfl) _ rfl rfl ?_
        refine rs_skip rfl (by decide) ?_
        refine rs_old quietRS_ok quiet_any (.const undef) (.inl rfl) _ rfl rfl ?_
        refine rs_skip rfl (by decide) ?_
        refine rs_old quietRS_ok quiet_any (.const undef) (.inl rfl) _ rfl rfl ?_
        refine rs_skip rfl (by decide) ?_
        refine rs_old quietRS_ok quiet_any (.const undef) (.inl rfl) _ rfl rfl ?_
        refine rs_peel ?_
        apply rs_eq quietRS_ok quiet_any
        · intro ρ w' ho hK
          have ho : Only _ W w' := ho
          obtain ⟨h0, h1, h2, -⟩ := hK
          have h0' : ρ (.tmp 41) = _ := h0
          have h1' : ρ (.tmp 45) = _ := h1
          have h2' : ρ (.const (Value.bool false)) = (Value.bool false) := h2
          go_simp
          try exact rfl
        refine rs_peel ?_
        refine rs_same quietRS_ok quiet_any 46 41 (.inr rfl) rfl _ rfl ?_
        refine ⟨⟨rfl, rfl, rfl, rfl, rfl, trivial⟩, ?_⟩
        intro f w9 k9 hk9 hI9 ht9 hcp9
        have E0 : f 0 = _ := ht9 0 (Nat.le_of_ble_eq_true rfl)
        have E1 : f 1 = _ := ht9 1 (Nat.le_of_ble_eq_true rfl)
        have E2 : f 2 = _ := ht9 2 (Nat.le_of_ble_eq_true rfl)
        have E3 : f 3 = _ := ht9 3 (Nat.le_of_ble_eq_true rfl)
        conv at E3 => rhs; whnf
        have E4 : f 4 = _ := ht9 4 (Nat.le_of_ble_eq_true rfl)
        have E5 : f 5 = _ := ht9 5 (Nat.le_of_ble_eq_true rfl)
        have E6 : f 6 = _ := ht9 6 (Nat.le_of_ble_eq_true rfl)
        have E7 : f 7 = _ := ht9 7 (Nat.le_of_ble_eq_true rfl)
        have E8 : f 8 = _ := ht9 8 (Nat.le_of_ble_eq_true rfl)
        have E9 : f 9 = _ := ht9 9 (Nat.le_of_ble_eq_true rfl)
        have E10 : f 10 = _ := ht9 10 (Nat.le_of_ble_eq_true rfl)
        have E11 : f 11 = _ := ht9 11 (Nat.le_of_ble_eq_true rfl)
        have E12 : f 12 = _ := ht9 12 (Nat.le_of_ble_eq_true rfl)
        have E13 : f 13 = _ := ht9 13 (Nat.le_of_ble_eq_true rfl)
        have E14 : f 14 = _ := ht9 14 (Nat.le_of_ble_eq_true rfl)
        conv at E14 => rhs; whnf
        have E15 : f 15 = _ := ht9 15 (Nat.le_of_ble_eq_true rfl)
        have E16 : f 16 = _ := ht9 16 (Nat.le_of_ble_eq_true rfl)
        have E17 : f 17 = _ := ht9 17 (Nat.le_of_ble_eq_true rfl)
        have E18 : f 18 = _ := ht9 18 (Nat.le_of_ble_eq_true rfl)
        have E19 : f 19 = _ := ht9 19 (Nat.le_of_ble_eq_true rfl)
        have E20 : f 20 = _ := ht9 20 (Nat.le_of_ble_eq_true rfl)
        have E21 : f 21 = _ := ht9 21 (Nat.le_of_ble_eq_true rfl)
        have E22 : f 22 = _ := ht9 22 (Nat.le_of_ble_eq_true rfl)
        have E23 : f 23 = _ := ht9 23 (Nat.le_of_ble_eq_true rfl)
        have E24 : f 24 = _ := ht9 24 (Nat.le_of_ble_eq_true rfl)
        conv at E24 => rhs; whnf
        have E25 : f 25 = _ := ht9 25 (Nat.le_of_ble_eq_true rfl)
        have E26 : f 26 = _ := ht9 26 (Nat.le_of_ble_eq_true rfl)
        have E27 : f 27 = _ := ht9 27 (Nat.le_of_ble_eq_true rfl)
        have E28 : f 28 = _ := ht9 28 (Nat.le_of_ble_eq_true rfl)
        have E29 : f 29 = _ := ht9 29 (Nat.le_of_ble_eq_true rfl)
        have E30 : f 30 = _ := ht9 30 (Nat.le_of_ble_eq_true rfl)
        have E31 : f 31 = _ := ht9 31 (Nat.le_of_ble_eq_true rfl)
        conv at E31 => rhs; whnf
        have E32 : f 32 = _ := ht9 32 (Nat.le_of_ble_eq_true rfl)
        conv at E32 => rhs; whnf
        have E33 : f 33 = _ := ht9 33 (Nat.le_of_ble_eq_true rfl)
        conv at E33 => rhs; whnf
        have E34 : f 34 = _ := ht9 34 (Nat.le_of_ble_eq_true rfl)
        conv at E34 => rhs; whnf
        have E35 : f 35 = _ := ht9 35 (Nat.le_of_ble_eq_true rfl)
        have E36 : f 36 = _ := ht9 36 (Nat.le_of_ble_eq_true rfl)
        have E37 : f 37 = _ := ht9 37 (Nat.le_of_ble_eq_true rfl)
        conv at E37 => rhs; whnf
        have E38 : f 38 = _ := ht9 38 (Nat.le_of_ble_eq_true rfl)
        conv at E38 => rhs; whnf
        have E39 : f 39 = _ := ht9 39 (Nat.le_of_ble_eq_true rfl)
        conv at E39 => rhs; whnf
        have E40 : f 40 = _ := ht9 40 (Nat.le_of_ble_eq_true rfl)
        conv at E40 => rhs; whnf
        have E41 : f 41 = _ := ht9 41 (Nat.le_of_ble_eq_true rfl)
        have E42 : f 42 = _ := ht9 42 (Nat.le_of_ble_eq_true rfl)
        have Ho9 : Only _ W w9 := hI9.2.1
        simp only [putAll, E0, E1, E2, E3, E4, E5, E6, E7, E8, E9, E10, E11, E12, E13, E14, E15, E16, E17, E18, E19, E20, E21, E22, E23, E24, E25, E26, E27, E28, E29, E30, E31, E32, E33, E34, E35, E36, E37, E38, E39, E40, E41, E42, Nat.zero_add, Nat.reduceAdd, Act.put, List.setIfInBounds_toArray, List.set_cons_succ, List.set_cons_zero]
        clear E0 E1 E2 E3 E4 E5 E6 E7 E8 E9 E10 E11 E12 E13 E14 E15 E16 E17 E18 E19 E20 E21 E22 E23 E24 E25 E26 E27 E28 E29 E30 E31 E32 E33 E34 E35 E36 E37 E38 E39 E40 E41 E42
        clear hI9 ht9 hcp9 hk9
        have hb9 := only_below Ho9
        go_wp2_with fail
        go_ret
        exact ⟨by rw [Hcan.out]; rfl, Hb.out.trans (hb9.mono Hb.out.size)⟩
      · cases b4
        · go_enter Try.func25, Try.ntmps25
          go_wp2_with fail
          rw [HW.out]
          refine wp_region_rsG [(2, some true), (10, some true), (20, some true), (30, some true), (36, some false)] (quietRS Try.prog _ W _) quietRS_ok (by kernel_rfl) (by kernel_rfl) (by kernel_rfl) (Nat.le_of_ble_eq_true rfl) trivial trivial ?_
          refine rs_peel ?_
          apply rs_eq quietRS_ok quiet_any
          · intro ρ w' ho hK
            have ho : Only _ W w' := ho
            obtain ⟨h0, -⟩ := hK
            have h0' : ρ (.tmp 2) = _ := h0
            have hb := only_below ho
            obtain ⟨-, q0, q1, q2, q3⟩ := PC.out.below hb
            have c1 := (hb.cell (p := ⟨bq, o + k * 2, none⟩) hbW).trans hs1
            have c2 := (hb.cell (p := ⟨bq, o + k * 2 + 1, none⟩) hbW).trans hs2
            go_simp
            try exact rfl
          refine rs_peel ?_
          refine rs_call quietRS_ok quiet_any (TEq (.bool true)) (stb_eq _ _) 11 _ _ rfl (fun ρ w' ho hK => by
            have ho : Only _ W w' := ho
            obtain ⟨h0, h1, -⟩ := hK
            have h0' : ρ (.func 11) = .func (.func 11) #[] #[] := h0
            have h1' : ρ (.tmp 5) = _ := h1
            refine ⟨#[ρ (.tmp 5)], ?_, ?_⟩
            · go_simp
            · rw [h1']
              refine (HVb.out w' (only_below ho)).mono ?_
              rintro e w2 ⟨rfl, hb⟩
              exact ⟨_, rfl, rfl, hb⟩) ?_
          refine rs_peel ?_
          refine rs_same quietRS_ok quiet_any 6 1 (.inl rfl) rfl _ rfl ?_
          refine rs_run rfl ?_
          refine rs_old quietRS_ok quiet_any _ (.inl rfl) _ rfl rfl ?_
          refine rs_run rfl ?_
          apply rs_eq quietRS_ok quiet_any
          · intro ρ w' ho hK
            have ho : Only _ W w' := ho
            obtain ⟨h0, -⟩ := hK
            have h0' : ρ (.tmp 2) = _ := h0
            go_simp
            try exact rfl
          refine rs_run rfl ?_
          apply rs_eq quietRS_ok quiet_any
          · intro ρ w' ho hK
            have ho : Only _ W w' := ho
            obtain ⟨h0, -⟩ := hK
            have h0' : ρ (.tmp 9) = _ := h0
            have hb := only_below ho
            obtain ⟨-, q0, q1, q2, q3⟩ := PC.out.below hb
            have c1 := (hb.cell (p := ⟨bq, o + k * 2, none⟩) hbW).trans hs1
            have c2 := (hb.cell (p := ⟨bq, o + k * 2 + 1, none⟩) hbW).trans hs2
            go_simp
            try exact rfl
          refine rs_run rfl ?_
          apply rs_eq quietRS_ok quiet_any
          · intro ρ w' ho hK
            have ho : Only _ W w' := ho
            obtain ⟨h0, -⟩ := hK
            have h0' : ρ (.tmp 10) = _ := h0
            go_simp
            try exact rfl
          refine rs_run rfl ?_
          apply rs_eq quietRS_ok quiet_any
          · intro ρ w' ho hK
            have ho : Only _ W w' := ho
            obtain ⟨h0, h1, -⟩ := hK
            have h0' : ρ (.tmp 11) = _ := h0
            have h1' : ρ (.const (Value.int IntKind.i64 1)) = (Value.int IntKind.i64 1) := h1
            go_simp
            try exact rfl
          refine rs_run rfl ?_
          refine rs_call quietRS_ok quiet_any (TEq (.bool true)) (stb_eq _ _) 38 _ _ rfl (fun ρ w' ho hK => by
            have ho : Only _ W w' := ho
            obtain ⟨h0, h1, h2, h3, -⟩ := hK
            have h0' : ρ (.func 38) = .func (.func 38) #[] #[] := h0
            have h1' : ρ (.tmp 8) = _ := h1
            have h2' : ρ (.const (Value.int IntKind.i64 0)) = (Value.int IntKind.i64 0) := h2
            have h3' : ρ (.tmp 12) = _ := h3
            refine ⟨#[ρ (.tmp 8), ρ (.const (Value.int IntKind.i64 0)), ρ (.tmp 12)], ?_, ?_⟩
            · go_simp
            · rw [h1', h2', h3']
              refine (HIb.out w').mono ?_
              rintro e w2 ⟨rfl, rfl⟩
              exact ⟨_, rfl, rfl, Below.refl _ _⟩) ?_
          refine rs_peel ?_
          apply rs_eq quietRS_ok quiet_any
          · intro ρ w' ho hK
            have ho : Only _ W w' := ho
            obtain ⟨h0, h1, h2, -⟩ := hK
            have h0' : ρ (.tmp 7) = _ := h0
            have h1' : ρ (.tmp 13) = _ := h1
            have h2' : ρ (.const (Value.bool false)) = (Value.bool false) := h2
            go_simp
            try exact rfl
          refine rs_peel ?_
          refine rs_same quietRS_ok quiet_any 14 9 (.inl rfl) rfl _ rfl ?_
          refine rs_run rfl ?_
          apply rs_eq quietRS_ok quiet_any
          · intro ρ w' ho hK
            have ho : Only _ W w' := ho
            obtain ⟨h0, -⟩ := hK
            have h0' : ρ (.tmp 2) = _ := h0
            have hb := only_below ho
            obtain ⟨-, q0, q1, q2, q3⟩ := PC.out.below hb
            have c1 := (hb.cell (p := ⟨bq, o + k * 2, none⟩) hbW).trans hs1
            have c2 := (hb.cell (p := ⟨bq, o + k * 2 + 1, none⟩) hbW).trans hs2
            go_simp
            try exact rfl
          refine rs_run rfl ?_
          apply rs_eq quietRS_ok quiet_any
          · intro ρ w' ho hK
            have ho : Only _ W w' := ho
            obtain ⟨h0, -⟩ := hK
            have h0' : ρ (.tmp 2) = _ := h0
            go_simp
            try exact rfl
          refine rs_run rfl ?_
          apply rs_eq quietRS_ok quiet_any
          · intro ρ w' ho hK
            have ho : Only _ W w' := ho
            obtain ⟨h0, -⟩ := hK
            have h0' : ρ (.tmp 17) = _ := h0
            have hb := only_below ho
            obtain ⟨-, q0, q1, q2, q3⟩ := PC.out.below hb
            have c1 := (hb.cell (p := ⟨bq, o + k * 2, none⟩) hbW).trans hs1
            have c2 := (hb.cell (p := ⟨bq, o + k * 2 + 1, none⟩) hbW).trans hs2
            go_simp
            try exact rfl
          refine rs_run rfl ?_
          refine rs_old quietRS_ok quiet_any _ (.inl rfl) _ rfl rfl ?_
          refine rs_run rfl ?_
          apply rs_eq quietRS_ok quiet_any
          · intro ρ w' ho hK
            have ho : Only _ W w' := ho
            obtain ⟨h0, h1, -⟩ := hK
            have h0' : ρ (.tmp 18) = _ := h0
            have h1' : ρ (.tmp 19) = _ := h1
            go_simp
            try exact rfl
          refine rs_run rfl ?_
          apply rs_eq quietRS_ok quiet_any
          · intro ρ w' ho hK
            have ho : Only _ W w' := ho
            obtain ⟨h0, -⟩ := hK
            have h0' : ρ (.tmp 20) = _ := h0
            go_simp
            try exact rfl
          refine rs_run rfl ?_
          apply rs_eq quietRS_ok quiet_any
          · intro ρ w' ho hK
            have ho : Only _ W w' := ho
            obtain ⟨h0, -⟩ := hK
            have h0' : ρ (.tmp 21) = _ := h0
            have hb := only_below ho
            obtain ⟨-, q0, q1, q2, q3⟩ := PC.out.below hb
            have c1 := (hb.cell (p := ⟨bq, o + k * 2, none⟩) hbW).trans hs1
            have c2 := (hb.cell (p := ⟨bq, o + k * 2 + 1, none⟩) hbW).trans hs2
            go_simp
            try exact rfl
          refine rs_run rfl ?_
          refine rs_call quietRS_ok quiet_any (TEq (.bool true)) (stb_eq _ _) 70 _ _ rfl (fun ρ w' ho hK => by
            have ho : Only _ W w' := ho
            obtain ⟨h0, h1, h2, -⟩ := hK
            have h0' : ρ (.func 70) = .func (.func 70) #[] #[] := h0
            have h1' : ρ (.tmp 16) = _ := h1
            have h2' : ρ (.tmp 22) = _ := h2
            refine ⟨#[ρ (.tmp 16), ρ (.tmp 22)], ?_, ?_⟩
            · go_simp
            · rw [h1', h2']
              refine (HLA.out w' (only_below ho)).mono ?_
              rintro e w2 ⟨rfl, hb⟩
              exact ⟨_, rfl, rfl, hb⟩) ?_
          refine rs_peel ?_
          apply rs_eq quietRS_ok quiet_any
          · intro ρ w' ho hK
            have ho : Only _ W w' := ho
            obtain ⟨h0, h1, h2, -⟩ := hK
            have h0' : ρ (.tmp 15) = _ := h0
            have h1' : ρ (.tmp 23) = _ := h1
            have h2' : ρ (.const (Value.bool false)) = (Value.bool false) := h2
            go_simp
            try exact rfl
          refine rs_peel ?_
          refine rs_same quietRS_ok quiet_any 24 19 (.inl rfl) rfl _ rfl ?_
          refine rs_run rfl ?_
          apply rs_eq quietRS_ok quiet_any
          · intro ρ w' ho hK
            have ho : Only _ W w' := ho
            obtain ⟨h0, -⟩ := hK
            have h0' : ρ (.tmp 2) = _ := h0
            have hb := only_below ho
            obtain ⟨-, q0, q1, q2, q3⟩ := PC.out.below hb
            have c1 := (hb.cell (p := ⟨bq, o + k * 2, none⟩) hbW).trans hs1
            have c2 := (hb.cell (p := ⟨bq, o + k * 2 + 1, none⟩) hbW).trans hs2
            go_simp
            try exact rfl
          refine rs_run rfl ?_
          apply rs_eq quietRS_ok quiet_any
          · intro ρ w' ho hK
            have ho : Only _ W w' := ho
            obtain ⟨h0, -⟩ := hK
            have h0' : ρ (.tmp 2) = _ := h0
            go_simp
            try exact rfl
          refine rs_run rfl ?_
          apply rs_eq quietRS_ok quiet_any
          · intro ρ w' ho hK
            have ho : Only _ W w' := ho
            obtain ⟨h0, -⟩ := hK
            have h0' : ρ (.tmp 27) = _ := h0
            have hb := only_below ho
            obtain ⟨-, q0, q1, q2, q3⟩ := PC.out.below hb
            have c1 := (hb.cell (p := ⟨bq, o + k * 2, none⟩) hbW).trans hs1
            have c2 := (hb.cell (p := ⟨bq, o + k * 2 + 1, none⟩) hbW).trans hs2
            go_simp
            try exact rfl
          refine rs_run rfl ?_
          refine rs_old quietRS_ok quiet_any _ (.inl rfl) _ rfl rfl ?_
          refine rs_run rfl ?_
          apply rs_eq quietRS_ok quiet_any
          · intro ρ w' ho hK
            have ho : Only _ W w' := ho
            obtain ⟨h0, h1, -⟩ := hK
            have h0' : ρ (.tmp 28) = _ := h0
            have h1' : ρ (.tmp 29) = _ := h1
            go_simp
            try exact rfl
          refine rs_run rfl ?_
          apply rs_eq quietRS_ok quiet_any
          · intro ρ w' ho hK
            have ho : Only _ W w' := ho
            obtain ⟨h0, -⟩ := hK
            have h0' : ρ (.tmp 30) = _ := h0
            go_simp
            try exact rfl
          refine rs_run rfl ?_
          apply rs_eq quietRS_ok quiet_any
          · intro ρ w' ho hK
            have ho : Only _ W w' := ho
            obtain ⟨h0, -⟩ := hK
            have h0' : ρ (.tmp 31) = _ := h0
            have hb := only_below ho
            obtain ⟨-, q0, q1, q2, q3⟩ := PC.out.below hb
            have c1 := (hb.cell (p := ⟨bq, o + k * 2, none⟩) hbW).trans hs1
            have c2 := (hb.cell (p := ⟨bq, o + k * 2 + 1, none⟩) hbW).trans hs2
            go_simp
            try exact rfl
          refine rs_run rfl ?_
          refine rs_call quietRS_ok quiet_any (TEq (.bool true)) (stb_eq _ _) 70 _ _ rfl (fun ρ w' ho hK => by
            have ho : Only _ W w' := ho
            obtain ⟨h0, h1, h2, -⟩ := hK
            have h0' : ρ (.func 70) = .func (.func 70) #[] #[] := h0
            have h1' : ρ (.tmp 26) = _ := h1
            have h2' : ρ (.tmp 32) = _ := h2
            refine ⟨#[ρ (.tmp 26), ρ (.tmp 32)], ?_, ?_⟩
            · go_simp
            · rw [h1', h2']
              refine (HLB.out w' (only_below ho)).mono ?_
              rintro e w2 ⟨rfl, hb⟩
              exact ⟨_, rfl, rfl, hb⟩) ?_
          refine rs_peel ?_
          apply rs_eq quietRS_ok quiet_any
          · intro ρ w' ho hK
            have ho : Only _ W w' := ho
            obtain ⟨h0, h1, h2, -⟩ := hK
            have h0' : ρ (.tmp 25) = _ := h0
            have h1' : ρ (.tmp 33) = _ := h1
            have h2' : ρ (.const (Value.bool false)) = (Value.bool false) := h2
            go_simp
            try exact rfl
          refine rs_peel ?_
          refine rs_same quietRS_ok quiet_any 34 29 (.inl rfl) rfl _ rfl ?_
          refine rs_run rfl ?_
          apply rs_eq quietRS_ok quiet_any
          · intro ρ w' ho hK
            have ho : Only _ W w' := ho
            obtain ⟨h0, -⟩ := hK
            have h0' : ρ (.tmp 2) = _ := h0
            go_simp
            try exact rfl
          refine rs_run rfl ?_
          apply rs_eq quietRS_ok quiet_any
          · intro ρ w' ho hK
            have ho : Only _ W w' := ho
            obtain ⟨h0, -⟩ := hK
            have h0' : ρ (.tmp 36) = _ := h0
            have hb := only_below ho
            obtain ⟨-, q0, q1, q2, q3⟩ := PC.out.below hb
            have c1 := (hb.cell (p := ⟨bq, o + k * 2, none⟩) hbW).trans hs1
            have c2 := (hb.cell (p := ⟨bq, o + k * 2 + 1, none⟩) hbW).trans hs2
            go_simp
            try exact rfl
          refine rs_run rfl ?_
          apply rs_eq quietRS_ok quiet_any
          · intro ρ w' ho hK
            have ho : Only _ W w' := ho
            obtain ⟨h0, -⟩ := hK
            have h0' : ρ (.tmp 37) = _ := h0
            go_simp
            try exact rfl
          refine rs_run rfl ?_
          apply rs_eq quietRS_ok quiet_any
          · intro ρ w' ho hK
            have ho : Only _ W w' := ho
            obtain ⟨h0, h1, -⟩ := hK
            have h0' : ρ (.tmp 38) = _ := h0
            have h1' : ρ (.const (Value.int IntKind.i64 3)) = (Value.int IntKind.i64 3) := h1
            go_simp
            try exact rfl
          refine rs_peel ?_
          apply rs_eq quietRS_ok quiet_any
          · intro ρ w' ho hK
            have ho : Only _ W w' := ho
            obtain ⟨h0, h1, h2, -⟩ := hK
            have h0' : ρ (.tmp 35) = _ := h0
            have h1' : ρ (.tmp 39) = _ := h1
            have h2' : ρ (.const (Value.bool false)) = (Value.bool false) := h2
            go_simp
            try exact rfl
          refine rs_peel ?_
          refine rs_same quietRS_ok quiet_any 40 35 (.inl rfl) rfl _ rfl ?_
          refine rs_skip rfl (by decide) ?_
          refine rs_old quietRS_ok quiet_any (.const undef) (.inl rfl) _ rfl rfl ?_
          refine rs_skip rfl (by decide) ?_
          refine rs_old quietRS_ok quiet_any (.const undef) (.inl rfl) _ rfl rfl ?_
          refine rs_skip rfl (by decide) ?_
          refine rs_old quietRS_ok quiet_any (.const undef) (.inl rfl) _ rfl rfl ?_
          refine rs_skip rfl (by decide) ?_
          refine rs_old quietRS_ok quiet_any (.const undef) (.inl rfl) _ rfl rfl ?_
          refine rs_peel ?_
          apply rs_eq quietRS_ok quiet_any
          · intro ρ w' ho hK
            have ho : Only _ W w' := ho
            obtain ⟨h0, h1, h2, -⟩ := hK
            have h0' : ρ (.tmp 41) = _ := h0
            have h1' : ρ (.tmp 45) = _ := h1
            have h2' : ρ (.const (Value.bool false)) = (Value.bool false) := h2
            go_simp
            try exact rfl
          refine rs_peel ?_
          refine rs_same quietRS_ok quiet_any 46 41 (.inr rfl) rfl _ rfl ?_
          refine ⟨⟨rfl, rfl, rfl, rfl, rfl, trivial⟩, ?_⟩
          intro f w9 k9 hk9 hI9 ht9 hcp9
          have E0 : f 0 = _ := ht9 0 (Nat.le_of_ble_eq_true rfl)
          have E1 : f 1 = _ := ht9 1 (Nat.le_of_ble_eq_true rfl)
          have E2 : f 2 = _ := ht9 2 (Nat.le_of_ble_eq_true rfl)
          have E3 : f 3 = _ := ht9 3 (Nat.le_of_ble_eq_true rfl)
          conv at E3 => rhs; whnf
          have E4 : f 4 = _ := ht9 4 (Nat.le_of_ble_eq_true rfl)
          have E5 : f 5 = _ := ht9 5 (Nat.le_of_ble_eq_true rfl)
          have E6 : f 6 = _ := ht9 6 (Nat.le_of_ble_eq_true rfl)
          have E7 : f 7 = _ := ht9 7 (Nat.le_of_ble_eq_true rfl)
          have E8 : f 8 = _ := ht9 8 (Nat.le_of_ble_eq_true rfl)
          have E9 : f 9 = _ := ht9 9 (Nat.le_of_ble_eq_true rfl)
          have E10 : f 10 = _ := ht9 10 (Nat.le_of_ble_eq_true rfl)
          have E11 : f 11 = _ := ht9 11 (Nat.le_of_ble_eq_true rfl)
          have E12 : f 12 = _ := ht9 12 (Nat.le_of_ble_eq_true rfl)
          have E13 : f 13 = _ := ht9 13 (Nat.le_of_ble_eq_true rfl)
          have E14 : f 14 = _ := ht9 14 (Nat.le_of_ble_eq_true rfl)
          conv at E14 => rhs; whnf
          have E15 : f 15 = _ := ht9 15 (Nat.le_of_ble_eq_true rfl)
          have E16 : f 16 = _ := ht9 16 (Nat.le_of_ble_eq_true rfl)
          have E17 : f 17 = _ := ht9 17 (Nat.le_of_ble_eq_true rfl)
          have E18 : f 18 = _ := ht9 18 (Nat.le_of_ble_eq_true rfl)
          have E19 : f 19 = _ := ht9 19 (Nat.le_of_ble_eq_true rfl)
          have E20 : f 20 = _ := ht9 20 (Nat.le_of_ble_eq_true rfl)
          have E21 : f 21 = _ := ht9 21 (Nat.le_of_ble_eq_true rfl)
          have E22 : f 22 = _ := ht9 22 (Nat.le_of_ble_eq_true rfl)
          have E23 : f 23 = _ := ht9 23 (Nat.le_of_ble_eq_true rfl)
          have E24 : f 24 = _ := ht9 24 (Nat.le_of_ble_eq_true rfl)
          conv at E24 => rhs; whnf
          have E25 : f 25 = _ := ht9 25 (Nat.le_of_ble_eq_true rfl)
          have E26 : f 26 = _ := ht9 26 (Nat.le_of_ble_eq_true rfl)
          have E27 : f 27 = _ := ht9 27 (Nat.le_of_ble_eq_true rfl)
          have E28 : f 28 = _ := ht9 28 (Nat.le_of_ble_eq_true rfl)
          have E29 : f 29 = _ := ht9 29 (Nat.le_of_ble_eq_true rfl)
          have E30 : f 30 = _ := ht9 30 (Nat.le_of_ble_eq_true rfl)
          have E31 : f 31 = _ := ht9 31 (Nat.le_of_ble_eq_true rfl)
          have E32 : f 32 = _ := ht9 32 (Nat.le_of_ble_eq_true rfl)
          have E33 : f 33 = _ := ht9 33 (Nat.le_of_ble_eq_true rfl)
          have E34 : f 34 = _ := ht9 34 (Nat.le_of_ble_eq_true rfl)
          have E35 : f 35 = _ := ht9 35 (Nat.le_of_ble_eq_true rfl)
          have E36 : f 36 = _ := ht9 36 (Nat.le_of_ble_eq_true rfl)
          have E37 : f 37 = _ := ht9 37 (Nat.le_of_ble_eq_true rfl)
          conv at E37 => rhs; whnf
          have E38 : f 38 = _ := ht9 38 (Nat.le_of_ble_eq_true rfl)
          conv at E38 => rhs; whnf
          have E39 : f 39 = _ := ht9 39 (Nat.le_of_ble_eq_true rfl)
          conv at E39 => rhs; whnf
          have E40 : f 40 = _ := ht9 40 (Nat.le_of_ble_eq_true rfl)
          conv at E40 => rhs; whnf
          have E41 : f 41 = _ := ht9 41 (Nat.le_of_ble_eq_true rfl)
          have E42 : f 42 = _ := ht9 42 (Nat.le_of_ble_eq_true rfl)
          have Ho9 : Only _ W w9 := hI9.2.1
          simp only [putAll, E0, E1, E2, E3, E4, E5, E6, E7, E8, E9, E10, E11, E12, E13, E14, E15, E16, E17, E18, E19, E20, E21, E22, E23, E24, E25, E26, E27, E28, E29, E30, E31, E32, E33, E34, E35, E36, E37, E38, E39, E40, E41, E42, Nat.zero_add, Nat.reduceAdd, Act.put, List.setIfInBounds_toArray, List.set_cons_succ, List.set_cons_zero]
          clear E0 E1 E2 E3 E4 E5 E6 E7 E8 E9 E10 E11 E12 E13 E14 E15 E16 E17 E18 E19 E20 E21 E22 E23 E24 E25 E26 E27 E28 E29 E30 E31 E32 E33 E34 E35 E36 E37 E38 E39 E40 E41 E42
          clear hI9 ht9 hcp9 hk9
          have hb9 := only_below Ho9
          go_wp2_with fail
          go_ret
          exact ⟨by rw [Hcan.out]; rfl, Hb.out.trans (hb9.mono Hb.out.size)⟩
        · go_enter Try.func25, Try.ntmps25
          go_wp2_with fail
          rw [HW.out]
          refine wp_region_rsG [(2, some true), (10, some true), (20, some true), (30, some true), (36, some true)] (quietRS Try.prog _ W _) quietRS_ok (by kernel_rfl) (by kernel_rfl) (by kernel_rfl) (Nat.le_of_ble_eq_true rfl) trivial trivial ?_
          refine rs_peel ?_
          apply rs_eq quietRS_ok quiet_any
          · intro ρ w' ho hK
            have ho : Only _ W w' := ho
            obtain ⟨h0, -⟩ := hK
            have h0' : ρ (.tmp 2) = _ := h0
            have hb := only_below ho
            obtain ⟨-, q0, q1, q2, q3⟩ := PC.out.below hb
            have c1 := (hb.cell (p := ⟨bq, o + k * 2, none⟩) hbW).trans hs1
            have c2 := (hb.cell (p := ⟨bq, o + k * 2 + 1, none⟩) hbW).trans hs2
            go_simp
            try exact rfl
          refine rs_peel ?_
          refine rs_call quietRS_ok quiet_any (TEq (.bool true)) (stb_eq _ _) 11 _ _ rfl (fun ρ w' ho hK => by
            have ho : Only _ W w' := ho
            obtain ⟨h0, h1, -⟩ := hK
            have h0' : ρ (.func 11) = .func (.func 11) #[] #[] := h0
            have h1' : ρ (.tmp 5) = _ := h1
            refine ⟨#[ρ (.tmp 5)], ?_, ?_⟩
            · go_simp
            · rw [h1']
              refine (HVb.out w' (only_below ho)).mono ?_
              rintro e w2 ⟨rfl, hb⟩
              exact ⟨_, rfl, rfl, hb⟩) ?_
          refine rs_peel ?_
          refine rs_same quietRS_ok quiet_any 6 1 (.inl rfl) rfl _ rfl ?_
          refine rs_run rfl ?_
          refine rs_old quietRS_ok quiet_any _ (.inl rfl) _ rfl rfl ?_
          refine rs_run rfl ?_
          apply rs_eq quietRS_ok quiet_any
          · intro ρ w' ho hK
            have ho : Only _ W w' := ho
            obtain ⟨h0, -⟩ := hK
            have h0' : ρ (.tmp 2) = _ := h0
            go_simp
            try exact rfl
          refine rs_run rfl ?_
          apply rs_eq quietRS_ok quiet_any
          · intro ρ w' ho hK
            have ho : Only _ W w' := ho
            obtain ⟨h0, -⟩ := hK
            have h0' : ρ (.tmp 9) = _ := h0
            have hb := only_below ho
            obtain ⟨-, q0, q1, q2, q3⟩ := PC.out.below hb
            have c1 := (hb.cell (p := ⟨bq, o + k * 2, none⟩) hbW).trans hs1
            have c2 := (hb.cell (p := ⟨bq, o + k * 2 + 1, none⟩) hbW).trans hs2
            go_simp
            try exact rfl
          refine rs_run rfl ?_
          apply rs_eq quietRS_ok quiet_any
          · intro ρ w' ho hK
            have ho : Only _ W w' := ho
            obtain ⟨h0, -⟩ := hK
            have h0' : ρ (.tmp 10) = _ := h0
            go_simp
            try exact rfl
          refine rs_run rfl ?_
          apply rs_eq quietRS_ok quiet_any
          · intro ρ w' ho hK
            have ho : Only _ W w' := ho
            obtain ⟨h0, h1, -⟩ := hK
            have h0' : ρ (.tmp 11) = _ := h0
            have h1' : ρ (.const (Value.int IntKind.i64 1)) = (Value.int IntKind.i64 1) := h1
            go_simp
            try exact rfl
          refine rs_run rfl ?_
          refine rs_call quietRS_ok quiet_any (TEq (.bool true)) (stb_eq _ _) 38 _ _ rfl (fun ρ w' ho hK => by
            have ho : Only _ W w' := ho
            obtain ⟨h0, h1, h2, h3, -⟩ := hK
            have h0' : ρ (.func 38) = .func (.func 38) #[] #[] := h0
            have h1' : ρ (.tmp 8) = _ := h1
            have h2' : ρ (.const (Value.int IntKind.i64 0)) = (Value.int IntKind.i64 0) := h2
            have h3' : ρ (.tmp 12) = _ := h3
            refine ⟨#[ρ (.tmp 8), ρ (.const (Value.int IntKind.i64 0)), ρ (.tmp 12)], ?_, ?_⟩
            · go_simp
            · rw [h1', h2', h3']
              refine (HIb.out w').mono ?_
              rintro e w2 ⟨rfl, rfl⟩
              exact ⟨_, rfl, rfl, Below.refl _ _⟩) ?_
          refine rs_peel ?_
          apply rs_eq quietRS_ok quiet_any
          · intro ρ w' ho hK
            have ho : Only _ W w' := ho
            obtain ⟨h0, h1, h2, -⟩ := hK
            have h0' : ρ (.tmp 7) = _ := h0
            have h1' : ρ (.tmp 13) = _ := h1
            have h2' : ρ (.const (Value.bool false)) = (Value.bool false) := h2
            go_simp
            try exact rfl
          refine rs_peel ?_
          refine rs_same quietRS_ok quiet_any 14 9 (.inl rfl) rfl _ rfl ?_
          refine rs_run rfl ?_
          apply rs_eq quietRS_ok quiet_any
          · intro ρ w' ho hK
            have ho : Only _ W w' := ho
            obtain ⟨h0, -⟩ := hK
            have h0' : ρ (.tmp 2) = _ := h0
            have hb := only_below ho
            obtain ⟨-, q0, q1, q2, q3⟩ := PC.out.below hb
            have c1 := (hb.cell (p := ⟨bq, o + k * 2, none⟩) hbW).trans hs1
            have c2 := (hb.cell (p := ⟨bq, o + k * 2 + 1, none⟩) hbW).trans hs2
            go_simp
            try exact rfl
          refine rs_run rfl ?_
          apply rs_eq quietRS_ok quiet_any
          · intro ρ w' ho hK
            have ho : Only _ W w' := ho
            obtain ⟨h0, -⟩ := hK
            have h0' : ρ (.tmp 2) = _ := h0
            go_simp
            try exact rfl
          refine rs_run rfl ?_
          apply rs_eq quietRS_ok quiet_any
          · intro ρ w' ho hK
            have ho : Only _ W w' := ho
            obtain ⟨h0, -⟩ := hK
            have h0' : ρ (.tmp 17) = _ := h0
            have hb := only_below ho
            obtain ⟨-, q0, q1, q2, q3⟩ := PC.out.below hb
            have c1 := (hb.cell (p := ⟨bq, o + k * 2, none⟩) hbW).trans hs1
            have c2 := (hb.cell (p := ⟨bq, o + k * 2 + 1, none⟩) hbW).trans hs2
            go_simp
            try exact rfl
          refine rs_run rfl ?_
          refine rs_old quietRS_ok quiet_any _ (.inl rfl) _ rfl rfl ?_
          refine rs_run rfl ?_
          apply rs_eq quietRS_ok quiet_any
          · intro ρ w' ho hK
            have ho : Only _ W w' := ho
            obtain ⟨h0, h1, -⟩ := hK
            have h0' : ρ (.tmp 18) = _ := h0
            have h1' : ρ (.tmp 19) = _ := h1
            go_simp
            try exact rfl
          refine rs_run rfl ?_
          apply rs_eq quietRS_ok quiet_any
          · intro ρ w' ho hK
            have ho : Only _ W w' := ho
            obtain ⟨h0, -⟩ := hK
            have h0' : ρ (.tmp 20) = _ := h0
            go_simp
            try exact rfl
          refine rs_run rfl ?_
          apply rs_eq quietRS_ok quiet_any
          · intro ρ w' ho hK
            have ho : Only _ W w' := ho
            obtain ⟨h0, -⟩ := hK
            have h0' : ρ (.tmp 21) = _ := h0
            have hb := only_below ho
            obtain ⟨-, q0, q1, q2, q3⟩ := PC.out.below hb
            have c1 := (hb.cell (p := ⟨bq, o + k * 2, none⟩) hbW).trans hs1
            have c2 := (hb.cell (p := ⟨bq, o + k * 2 + 1, none⟩) hbW).trans hs2
            go_simp
            try exact rfl
          refine rs_run rfl ?_
          refine rs_call quietRS_ok quiet_any (TEq (.bool true)) (stb_eq _ _) 70 _ _ rfl (fun ρ w' ho hK => by
            have ho : Only _ W w' := ho
            obtain ⟨h0, h1, h2, -⟩ := hK
            have h0' : ρ (.func 70) = .func (.func 70) #[] #[] := h0
            have h1' : ρ (.tmp 16) = _ := h1
            have h2' : ρ (.tmp 22) = _ := h2
            refine ⟨#[ρ (.tmp 16), ρ (.tmp 22)], ?_, ?_⟩
            · go_simp
            · rw [h1', h2']
              refine (HLA.out w' (only_below ho)).mono ?_
              rintro e w2 ⟨rfl, hb⟩
              exact ⟨_, rfl, rfl, hb⟩) ?_
          refine rs_peel ?_
          apply rs_eq quietRS_ok quiet_any
          · intro ρ w' ho hK
            have ho : Only _ W w' := ho
            obtain ⟨h0, h1, h2, -⟩ := hK
            have h0' : ρ (.tmp 15) = _ := h0
            have h1' : ρ (.tmp 23) = _ := h1
            have h2' : ρ (.const (Value.bool false)) = (Value.bool false) := h2
            go_simp
            try exact rfl
          refine rs_peel ?_
          refine rs_same quietRS_ok quiet_any 24 19 (.inl rfl) rfl _ rfl ?_
          refine rs_run rfl ?_
          apply rs_eq quietRS_ok quiet_any
          · intro ρ w' ho hK
            have ho : Only _ W w' := ho
            obtain ⟨h0, -⟩ := hK
            have h0' : ρ (.tmp 2) = _ := h0
            have hb := only_below ho
            obtain ⟨-, q0, q1, q2, q3⟩ := PC.out.below hb
            have c1 := (hb.cell (p := ⟨bq, o + k * 2, none⟩) hbW).trans hs1
            have c2 := (hb.cell (p := ⟨bq, o + k * 2 + 1, none⟩) hbW).trans hs2
            go_simp
            try exact rfl
          refine rs_run rfl ?_
          apply rs_eq quietRS_ok quiet_any
          · intro ρ w' ho hK
            have ho : Only _ W w' := ho
            obtain ⟨h0, -⟩ := hK
            have h0' : ρ (.tmp 2) = _ := h0
            go_simp
            try exact rfl
          refine rs_run rfl ?_
          apply rs_eq quietRS_ok quiet_any
          · intro ρ w' ho hK
            have ho : Only _ W w' := ho
            obtain ⟨h0, -⟩ := hK
            have h0' : ρ (.tmp 27) = _ := h0
            have hb := only_below ho
            obtain ⟨-, q0, q1, q2, q3⟩ := PC.out.below hb
            have c1 := (hb.cell (p := ⟨bq, o + k * 2, none⟩) hbW).trans hs1
            have c2 := (hb.cell (p := ⟨bq, o + k * 2 + 1, none⟩) hbW).trans hs2
            go_simp
            try exact rfl
          refine rs_run rfl ?_
          refine rs_old quietRS_ok quiet_any _ (.inl rfl) _ rfl rfl ?_
          refine rs_run rfl ?_
          apply rs_eq quietRS_ok quiet_any
          · intro ρ w' ho hK
            have ho : Only _ W w' := ho
            obtain ⟨h0, h1, -⟩ := hK
            have h0' : ρ (.tmp 28) = _ := h0
            have h1' : ρ (.tmp 29) = _ := h1
            go_simp
            try exact rfl
          refine rs_run rfl ?_
          apply rs_eq quietRS_ok quiet_any
          · intro ρ w' ho hK
            have ho : Only _ W w' := ho
            obtain ⟨h0, -⟩ := hK
            have h0' : ρ (.tmp 30) = _ := h0
            go_simp
            try exact rfl
          refine rs_run rfl ?_
          apply rs_eq quietRS_ok quiet_any
          · intro ρ w' ho hK
            have ho : Only _ W w' := ho
            obtain ⟨h0, -⟩ := hK
            have h0' : ρ (.tmp 31) = _ := h0
            have hb := only_below ho
            obtain ⟨-, q0, q1, q2, q3⟩ := PC.out.below hb
            have c1 := (hb.cell (p := ⟨bq, o + k * 2, none⟩) hbW).trans hs1
            have c2 := (hb.cell (p := ⟨bq, o + k * 2 + 1, none⟩) hbW).trans hs2
            go_simp
            try exact rfl
          refine rs_run rfl ?_
          refine rs_call quietRS_ok quiet_any (TEq (.bool true)) (stb_eq _ _) 70 _ _ rfl (fun ρ w' ho hK => by
            have ho : Only _ W w' := ho
            obtain ⟨h0, h1, h2, -⟩ := hK
            have h0' : ρ (.func 70) = .func (.func 70) #[] #[] := h0
            have h1' : ρ (.tmp 26) = _ := h1
            have h2' : ρ (.tmp 32) = _ := h2
            refine ⟨#[ρ (.tmp 26), ρ (.tmp 32)], ?_, ?_⟩
            · go_simp
            · rw [h1', h2']
              refine (HLB.out w' (only_below ho)).mono ?_
              rintro e w2 ⟨rfl, hb⟩
              exact ⟨_, rfl, rfl, hb⟩) ?_
          refine rs_peel ?_
          apply rs_eq quietRS_ok quiet_any
          · intro ρ w' ho hK
            have ho : Only _ W w' := ho
            obtain ⟨h0, h1, h2, -⟩ := hK
            have h0' : ρ (.tmp 25) = _ := h0
            have h1' : ρ (.tmp 33) = _ := h1
            have h2' : ρ (.const (Value.bool false)) = (Value.bool false) := h2
            go_simp
            try exact rfl
          refine rs_peel ?_
          refine rs_same quietRS_ok quiet_any 34 29 (.inl rfl) rfl _ rfl ?_
          refine rs_run rfl ?_
          apply rs_eq quietRS_ok quiet_any
          · intro ρ w' ho hK
            have ho : Only _ W w' := ho
            obtain ⟨h0, -⟩ := hK
            have h0' : ρ (.tmp 2) = _ := h0
            go_simp
            try exact rfl
          refine rs_run rfl ?_
          apply rs_eq quietRS_ok quiet_any
          · intro ρ w' ho hK
            have ho : Only _ W w' := ho
            obtain ⟨h0, -⟩ := hK
            have h0' : ρ (.tmp 36) = _ := h0
            have hb := only_below ho
            obtain ⟨-, q0, q1, q2, q3⟩ := PC.out.below hb
            have c1 := (hb.cell (p := ⟨bq, o + k * 2, none⟩) hbW).trans hs1
            have c2 := (hb.cell (p := ⟨bq, o + k * 2 + 1, none⟩) hbW).trans hs2
            go_simp
            try exact rfl
          refine rs_run rfl ?_
          apply rs_eq quietRS_ok quiet_any
          · intro ρ w' ho hK
            have ho : Only _ W w' := ho
            obtain ⟨h0, -⟩ := hK
            have h0' : ρ (.tmp 37) = _ := h0
            go_simp
            try exact rfl
          refine rs_run rfl ?_
          apply rs_eq quietRS_ok quiet_any
          · intro ρ w' ho hK
            have ho : Only _ W w' := ho
            obtain ⟨h0, h1, -⟩ := hK
            have h0' : ρ (.tmp 38) = _ := h0
            have h1' : ρ (.const (Value.int IntKind.i64 3)) = (Value.int IntKind.i64 3) := h1
            go_simp
            try exact rfl
          refine rs_peel ?_
          apply rs_eq quietRS_ok quiet_any
          · intro ρ w' ho hK
            have ho : Only _ W w' := ho
            obtain ⟨h0, h1, h2, -⟩ := hK
            have h0' : ρ (.tmp 35) = _ := h0
            have h1' : ρ (.tmp 39) = _ := h1
            have h2' : ρ (.const (Value.bool false)) = (Value.bool false) := h2
            go_simp
            try exact rfl
          refine rs_peel ?_
          refine rs_same quietRS_ok quiet_any 40 35 (.inl rfl) rfl _ rfl ?_
          refine rs_run rfl ?_
          apply rs_eq quietRS_ok quiet_any
          · intro ρ w' ho hK
            have ho : Only _ W w' := ho
            obtain ⟨h0, -⟩ := hK
            have h0' : ρ (.tmp 2) = _ := h0
            go_simp
            try exact rfl
          refine rs_run rfl ?_
          apply rs_eq quietRS_ok quiet_any
          · intro ρ w' ho hK
            have ho : Only _ W w' := ho
            obtain ⟨h0, -⟩ := hK
            have h0' : ρ (.tmp 42) = _ := h0
            have hb := only_below ho
            obtain ⟨-, q0, q1, q2, q3⟩ := PC.out.below hb
            have c1 := (hb.cell (p := ⟨bq, o + k * 2, none⟩) hbW).trans hs1
            have c2 := (hb.cell (p := ⟨bq, o + k * 2 + 1, none⟩) hbW).trans hs2
            go_simp
            try exact rfl
          refine rs_run rfl ?_
          apply rs_eq quietRS_ok quiet_any
          · intro ρ w' ho hK
            have ho : Only _ W w' := ho
            obtain ⟨h0, -⟩ := hK
            have h0' : ρ (.tmp 43) = _ := h0
            go_simp
            try exact rfl
          refine rs_run rfl ?_
          apply rs_eq quietRS_ok quiet_any
          · intro ρ w' ho hK
            have ho : Only _ W w' := ho
            obtain ⟨h0, h1, -⟩ := hK
            have h0' : ρ (.tmp 44) = _ := h0
            have h1' : ρ (.const (Value.int IntKind.i64 14)) = (Value.int IntKind.i64 14) := h1
            go_simp
            try exact rfl
          refine rs_peel ?_
          apply rs_eq quietRS_ok quiet_any
          · intro ρ w' ho hK
            have ho : Only _ W w' := ho
            obtain ⟨h0, h1, h2, -⟩ := hK
            have h0' : ρ (.tmp 41) = _ := h0
            have h1' : ρ (.tmp 45) = _ := h1
            have h2' : ρ (.const (Value.bool false)) = (Value.bool false) := h2
            go_simp
            try exact rfl
          refine rs_peel ?_
          refine rs_same quietRS_ok quiet_any 46 41 (.inr rfl) rfl _ rfl ?_
          refine ⟨⟨rfl, rfl, rfl, rfl, rfl, trivial⟩, ?_⟩
          intro f w9 k9 hk9 hI9 ht9 hcp9
          have E0 : f 0 = _ := ht9 0 (Nat.le_of_ble_eq_true rfl)
          have E1 : f 1 = _ := ht9 1 (Nat.le_of_ble_eq_true rfl)
          have E2 : f 2 = _ := ht9 2 (Nat.le_of_ble_eq_true rfl)
          have E3 : f 3 = _ := ht9 3 (Nat.le_of_ble_eq_true rfl)
          conv at E3 => rhs; whnf
          have E4 : f 4 = _ := ht9 4 (Nat.le_of_ble_eq_true rfl)
          have E5 : f 5 = _ := ht9 5 (Nat.le_of_ble_eq_true rfl)
          have E6 : f 6 = _ := ht9 6 (Nat.le_of_ble_eq_true rfl)
          have E7 : f 7 = _ := ht9 7 (Nat.le_of_ble_eq_true rfl)
          have E8 : f 8 = _ := ht9 8 (Nat.le_of_ble_eq_true rfl)
          have E9 : f 9 = _ := ht9 9 (Nat.le_of_ble_eq_true rfl)
          have E10 : f 10 = _ := ht9 10 (Nat.le_of_ble_eq_true rfl)
          have E11 : f 11 = _ := ht9 11 (Nat.le_of_ble_eq_true rfl)
          have E12 : f 12 = _ := ht9 12 (Nat.le_of_ble_eq_true rfl)
          have E13 : f 13 = _ := ht9 13 (Nat.le_of_ble_eq_true rfl)
          have E14 : f 14 = _ := ht9 14 (Nat.le_of_ble_eq_true rfl)
          conv at E14 => rhs; whnf
          have E15 : f 15 = _ := ht9 15 (Nat.le_of_ble_eq_true rfl)
          have E16 : f 16 = _ := ht9 16 (Nat.le_of_ble_eq_true rfl)
          have E17 : f 17 = _ := ht9 17 (Nat.le_of_ble_eq_true rfl)
          have E18 : f 18 = _ := ht9 18 (Nat.le_of_ble_eq_true rfl)
          have E19 : f 19 = _ := ht9 19 (Nat.le_of_ble_eq_true rfl)
          have E20 : f 20 = _ := ht9 20 (Nat.le_of_ble_eq_true rfl)
          have E21 : f 21 = _ := ht9 21 (Nat.le_of_ble_eq_true rfl)
          have E22 : f 22 = _ := ht9 22 (Nat.le_of_ble_eq_true rfl)
          have E23 : f 23 = _ := ht9 23 (Nat.le_of_ble_eq_true rfl)
          have E24 : f 24 = _ := ht9 24 (Nat.le_of_ble_eq_true rfl)
          conv at E24 => rhs; whnf
          have E25 : f 25 = _ := ht9 25 (Nat.le_of_ble_eq_true rfl)
          have E26 : f 26 = _ := ht9 26 (Nat.le_of_ble_eq_true rfl)
          have E27 : f 27 = _ := ht9 27 (Nat.le_of_ble_eq_true rfl)
          have E28 : f 28 = _ := ht9 28 (Nat.le_of_ble_eq_true rfl)
          have E29 : f 29 = _ := ht9 29 (Nat.le_of_ble_eq_true rfl)
          have E30 : f 30 = _ := ht9 30 (Nat.le_of_ble_eq_true rfl)
          have E31 : f 31 = _ := ht9 31 (Nat.le_of_ble_eq_true rfl)
          have E32 : f 32 = _ := ht9 32 (Nat.le_of_ble_eq_true rfl)
          have E33 : f 33 = _ := ht9 33 (Nat.le_of_ble_eq_true rfl)
          have E34 : f 34 = _ := ht9 34 (Nat.le_of_ble_eq_true rfl)
          have E35 : f 35 = _ := ht9 35 (Nat.le_of_ble_eq_true rfl)
          have E36 : f 36 = _ := ht9 36 (Nat.le_of_ble_eq_true rfl)
          have E37 : f 37 = _ := ht9 37 (Nat.le_of_ble_eq_true rfl)
          have E38 : f 38 = _ := ht9 38 (Nat.le_of_ble_eq_true rfl)
          have E39 : f 39 = _ := ht9 39 (Nat.le_of_ble_eq_true rfl)
          have E40 : f 40 = _ := ht9 40 (Nat.le_of_ble_eq_true rfl)
          have E41 : f 41 = _ := ht9 41 (Nat.le_of_ble_eq_true rfl)
          have E42 : f 42 = _ := ht9 42 (Nat.le_of_ble_eq_true rfl)
          have Ho9 : Only _ W w9 := hI9.2.1
          simp only [putAll, E0, E1, E2, E3, E4, E5, E6, E7, E8, E9, E10, E11, E12, E13, E14, E15, E16, E17, E18, E19, E20, E21, E22, E23, E24, E25, E26, E27, E28, E29, E30, E31, E32, E33, E34, E35, E36, E37, E38, E39, E40, E41, E42, Nat.zero_add, Nat.reduceAdd, Act.put, List.setIfInBounds_toArray, List.set_cons_succ, List.set_cons_zero]
          clear E0 E1 E2 E3 E4 E5 E6 E7 E8 E9 E10 E11 E12 E13 E14 E15 E16 E17 E18 E19 E20 E21 E22 E23 E24 E25 E26 E27 E28 E29 E30 E31 E32 E33 E34 E35 E36 E37 E38 E39 E40 E41 E42
          clear hI9 ht9 hcp9 hk9
          have hb9 := only_below Ho9
          go_wp2_with fail
          go_ret
          exact ⟨by rw [Hcan.out]; rfl, Hb.out.trans (hb9.mono Hb.out.size)⟩
theorem specCan_any (v : Value) (c : Cz) (i : Int) (w : World) (h : CircAt w v c) (hi : -1000000 ≤ i ∧ i ≤ 1000000) :
    Calls Try.prog 25 #[v, .int .i64 i] w fun e w' => e = .returned (.bool (Cir.canI c i)) ∧ Below w.heap.size w w' := by
  cases hv : Cir.valid c
  · have : Cir.canI c i = false := by unfold Cir.canI; rw [hv]; rfl
    rw [this]
    exact specCan_no v c i w h hv
  · obtain ⟨d1, d2⟩ := Cir.nat_ok hv
    have : Cir.canI c i = Cir.canR (Cir.nat c) i := by unfold Cir.canI; rw [hv]; rfl
    rw [this]
    exact specCan_ok v (Cir.nat c) i w (by rw [← d1]; exact h) d2 (by rw [← d1]; exact hv) hi
end Go.Proofs.Ytdgminjbgjbamaa