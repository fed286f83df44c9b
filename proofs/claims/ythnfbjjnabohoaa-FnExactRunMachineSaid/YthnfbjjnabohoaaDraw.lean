import Derived.Test.YthnfbjjnabohoaaProg
import Derived.Test.YthnfbjjnabohoaaBits
import Derived.Test.YthnfbjjnabohoaaMem
namespace Go.Proofs.Ythnfbjjnabohoaa
open Go.RowKit

/-- Block R is a reader: a slice of bytes below it, and a position that is at most P. -/
def Rd (w : World) (R P : Nat) : Prop :=
  ∃ (A : Option Addr) (c p : Nat) (bs : List Int), w.heap[R]? = some (.cells #[.slice A bs.length c, .int .i64 p] 80 (0, 0)) ∧ p ≤ P ∧ bs.length ≤ 2000 ∧ bs.length ≤ c ∧ c ≤ maxLen ∧
    (0 < bs.length → ∃ b o, A = some ⟨b, o, none⟩ ∧ b < R ∧ ∀ (i : Nat) (x : Int), bs[i]? = some x → w.cell? ⟨b, o + i, none⟩ = some (.int .u8 x) ∧ 0 ≤ x ∧ x ≤ 255)
theorem Rd.lt {w : World} {R P : Nat} (h : Rd w R P) : R < w.heap.size := by
  obtain ⟨A, c, p, bs, hh, _⟩ := h
  rcases Nat.lt_or_ge R w.heap.size with hl | hl
  · exact hl
  · rw [Array.getElem?_eq_none hl] at hh; cases hh
theorem Rd.more {w : World} {R P Q : Nat} (h : Rd w R P) (hq : P ≤ Q) : Rd w R Q := by
  obtain ⟨A, c, p, bs, hh, hp, hr⟩ := h
  exact ⟨A, c, p, bs, hh, by omega, hr⟩
theorem Rd.keep {w w' : World} {R P : Nat} (h : Rd w R P) (hb : ∀ k, k ≤ R → w'.heap[k]? = w.heap[k]?) : Rd w' R P := by
  obtain ⟨A, c, p, bs, hh, hp, h1, h2, h3, h4⟩ := h
  refine ⟨A, c, p, bs, (hb R (Nat.le_refl _)).trans hh, hp, h1, h2, h3, fun hn => ?_⟩
  obtain ⟨b, o, hA, hbR, hc⟩ := h4 hn
  exact ⟨b, o, hA, hbR, fun i x hx => ⟨(World.cell?_of_block (hb b (by omega))).trans (hc i x hx).1, (hc i x hx).2⟩⟩
theorem Rd.below {w w' : World} {R P B : Nat} (h : Rd w R P) (hb : Below B w w') (hR : R < B) : Rd w' R P := h.keep fun k hk => hb.block k (by omega)
theorem Rd.grown {w w' : World} {R P : Nat} {row : Option Nat} (h : Rd w R P) (hb : w.grownBy w' row) (hR : ∀ k, row = some k → R < k) : Rd w' R P :=
  h.keep fun k hk => hb.block k (by have := h.lt; omega) (fun e => by have := hR k e.symm; omega)
theorem Rd.alloc {w : World} {R P : Nat} (h : Rd w R P) (o : Obj) : Rd (w.alloc o) R P := h.grown (World.grownBy_alloc w o none) (by simp)
theorem Rd.drewN {w : World} {R P : Nat} (h : Rd w R P) (n : Nat) : Rd (w.drewN n) R P := h
theorem Rd.drew1 {w : World} {R P : Nat} (h : Rd w R P) : Rd w.drew R P := h

theorem grownBy_trans {a b c : World} {r : Option Nat} (h : a.grownBy b r) (h' : b.grownBy c r) : a.grownBy c r :=
  ⟨h'.os.trans h.os, h'.tape.trans h.tape, h'.output.trans h.output, Nat.le_trans h.size h'.size,
    fun k hk hr => (h'.block k (Nat.lt_of_lt_of_le hk h.size) hr).trans (h.block k hk hr)⟩
theorem grownBy_undrew {a b : World} {r : Option Nat} (h : a.drew.grownBy b r) : a.grownBy b r := ⟨h.os, h.tape, h.output, h.size, h.block⟩
theorem grownBy_drew {a b : World} {r : Option Nat} (h : a.grownBy b r) : a.grownBy b.drew r := ⟨h.os, h.tape, h.output, h.size, h.block⟩
theorem grownBy_drewN {a b : World} {r : Option Nat} (h : a.grownBy b r) (n : Nat) : a.grownBy (b.drewN n) r :=
  ⟨h.os, h.tape, h.output, h.size, h.block⟩

theorem Rd.stored {w : World} {R P c p : Nat} {A : Option Addr} {bs : List Int} (hh : w.heap[R]? = some (.cells #[.slice A bs.length c, .int .i64 p] 80 (0, 0))) (hp : p ≤ P) (h1 : bs.length ≤ 2000) (h2 : bs.length ≤ c) (h3 : c ≤ maxLen)
    (h4 : 0 < bs.length → ∃ b o, A = some ⟨b, o, none⟩ ∧ b < R ∧ ∀ (i : Nat) (x : Int), bs[i]? = some x → w.cell? ⟨b, o + i, none⟩ = some (.int .u8 x) ∧ 0 ≤ x ∧ x ≤ 255) :
    Rd (w.setCell ⟨R, 1, none⟩ (.int .i64 ((p : Int) + 1))) R (P + 1) ∧ w.grownBy (w.setCell ⟨R, 1, none⟩ (.int .i64 ((p : Int) + 1))) (some R) := by
  refine ⟨⟨A, c, p + 1, bs, ?_, by omega, h1, h2, h3, fun hn => ?_⟩, ⟨rfl, rfl, rfl, by simp [World.setCell], fun k _ hk => heap_setCell_other w ⟨R, 1, none⟩ k _ (fun e => hk (by simp [e]))⟩⟩
  · rw [heap_setCell_same w R 1 _ _ _ hh]
    simp
  · obtain ⟨b, o, hA, hb, hc⟩ := h4 hn
    exact ⟨b, o, hA, hb, fun i x hx => ⟨(World.cell?_setCell_other w ⟨R, 1, none⟩ ⟨b, o + i, none⟩ _ (fun e => by have := congrArg Addr.block e; simp at this; omega)).trans (hc i x hx).1, (hc i x hx).2⟩⟩

theorem pick_res (S n : Int) (h0 : 0 ≤ S) (h1 : S < 1000000000) (hn : 1 ≤ n) : 0 ≤ (bits BinOp.xor IntKind.i64 S (S / 64)).tmod n ∧ (bits BinOp.xor IntKind.i64 S (S / 64)).tmod n < n := by
  have h2 : 0 ≤ S / 64 ∧ S / 64 ≤ S := by omega
  rw [i64_xor S (S / 64) h0 (by omega) h2.1 (by omega), Int.tmod_eq_emod_of_nonneg (by omega)]
  exact ⟨Int.emod_nonneg _ (by omega), Int.emod_lt_of_pos _ (by omega)⟩

/-- What pick draws, and what becomes of its reader. -/
def Picked (n : Int) (R P : Nat) (w : World) (e : Ending) (w' : World) : Prop :=
  ∃ x : Int, 0 ≤ x ∧ x < n ∧ e = .returned (.int .i64 x) ∧ Rd w' R (P + 1) ∧ w.grownBy w' (some R)

set_option maxHeartbeats 1000000 in
theorem pick_any (n : Int) (R P : Nat) (w : World) (h : Rd w R P) (hP : P ≤ 1000000) (h1 : 1 ≤ n) (h2 : n ≤ 1000000) :
    Calls Try.prog 48 #[.pointer (some ⟨R, 0, none⟩), .int .i64 n] w (Picked n R P w) := by
  obtain ⟨A, c, p, bs, hh, hp, hl, hc, hcm, hrow⟩ := h
  have c0 : w.cell? ⟨R, 0, none⟩ = some (.slice A bs.length c) := by simp [World.cell?, hh]
  have c1 : w.cell? ⟨R, 1, none⟩ = some (.int .i64 p) := by simp [World.cell?, hh]
  have f1 : w.frozen? ⟨R, 1, none⟩ = false := by simp [World.frozen?, hh]
  have H := Lib.hid (Rd.stored hh hp hl hc hcm hrow)
  clear hh
  rcases Nat.eq_zero_or_pos bs.length with hz | hz
  · have d0 : ((bs.length : Int) == 0) = true := by rw [beq_iff_eq]; omega
    clear hrow
    have Hz := Lib.hid hz
    clear hz
    go_enter Try.func48, Try.ntmps48
    go_wp2
    go_ret
    exact ⟨0, by omega, by omega, rfl, H.out⟩
  · have d0 : ((bs.length : Int) == 0) = false := by rw [beq_eq_false_iff_ne]; omega
    obtain ⟨b, o, rfl, hb, hcell⟩ := hrow hz
    by_cases hk : p < bs.length
    · obtain ⟨x, hx⟩ : ∃ x, bs[p]? = some x := ⟨_, List.getElem?_eq_getElem hk⟩
      obtain ⟨hcx, hx0, hx1⟩ := hcell p x hx
      clear hcell hx hrow
      go_enter Try.func48, Try.ntmps48
      go_wp2
      go_ret
      exact ⟨x % n, Int.emod_nonneg _ (by omega), Int.emod_lt_of_pos _ (by omega), rfl, H.out⟩
    · have hm1 : p % bs.length < bs.length := Nat.mod_lt _ hz
      have hm2 : (p * 7 + 3) % bs.length < bs.length := Nat.mod_lt _ hz
      have e1 : (p : Int).tmod (bs.length : Int) = ((p % bs.length : Nat) : Int) := by rw [Int.tmod_eq_emod_of_nonneg (by omega)]; rfl
      have e2 : ((p : Int) * 7 + 3).tmod (bs.length : Int) = (((p * 7 + 3) % bs.length : Nat) : Int) := by rw [Int.tmod_eq_emod_of_nonneg (by omega)]; rfl
      have e3 : (p : Int).tdiv (bs.length : Int) = ((p / bs.length : Nat) : Int) := by rw [Int.tdiv_eq_ediv_of_nonneg (by omega)]; rfl
      have hm3 : p / bs.length ≤ p := Nat.div_le_self _ _
      obtain ⟨x, hx⟩ : ∃ x, bs[p % bs.length]? = some x := ⟨_, List.getElem?_eq_getElem hm1⟩
      obtain ⟨hcx, hx0, hx1⟩ := hcell _ x hx
      obtain ⟨y, hy⟩ : ∃ y, bs[(p * 7 + 3) % bs.length]? = some y := ⟨_, List.getElem?_eq_getElem hm2⟩
      obtain ⟨hcy, hy0, hy1⟩ := hcell _ y hy
      clear hcell hx hy hrow
      generalize p % bs.length = i at *
      generalize (p * 7 + 3) % bs.length = j at *
      generalize p / bs.length = d at *
      have E1 := Lib.hid e1
      have E2 := Lib.hid e2
      have E3 := Lib.hid e3
      clear e1 e2 e3
      have b0 : b ≠ R := by omega
      go_enter Try.func48, Try.ntmps48
      go_wp2
      have g0 : (w.setCell ⟨R, 1, none⟩ (.int .i64 ((p : Int) + 1))).cell? ⟨R, 0, none⟩ = some (.slice (some ⟨b, o, none⟩) bs.length c) := (World.cell?_setCell_other w ⟨R, 1, none⟩ ⟨R, 0, none⟩ _ (by simp)).trans c0
      have gx : (w.setCell ⟨R, 1, none⟩ (.int .i64 ((p : Int) + 1))).cell? ⟨b, o + i, none⟩ = some (.int .u8 x) := (World.cell?_setCell_other w ⟨R, 1, none⟩ ⟨b, o + i, none⟩ _ (by simp [b0])).trans hcx
      have gy : (w.setCell ⟨R, 1, none⟩ (.int .i64 ((p : Int) + 1))).cell? ⟨b, o + j, none⟩ = some (.int .u8 y) := (World.cell?_setCell_other w ⟨R, 1, none⟩ ⟨b, o + j, none⟩ _ (by simp [b0])).trans hcy
      have H := Lib.hid H.out
      generalize w.setCell ⟨R, 1, none⟩ (.int .i64 ((p : Int) + 1)) = w2 at *
      clear c0 c1 f1 hcx hcy
      have x1 : IntKind.i64.wrap ((p : Int) * 7) = p * 7 := IntWalk.i64_in _ (by omega)
      have x2 : IntKind.i64.wrap ((p : Int) * 7 + 3) = p * 7 + 3 := IntWalk.i64_in _ (by omega)
      have x3 : IntKind.i64.wrap (i : Int) = i := IntWalk.i64_in _ (by omega)
      have x4 : IntKind.i64.wrap (j : Int) = j := IntWalk.i64_in _ (by omega)
      have x5 : IntKind.i64.wrap (d : Int) = d := IntWalk.i64_in _ (by omega)
      have x6 : ¬ ((bs.length : Int) = 0) := by omega
      have e1 := E1.out
      have e2 := E2.out
      have e3 := E3.out
      go_quiet (fail)
      clear e1 e2 e3 x1 x2 x3 x4 x5
      go_wp2
      go_ret
      obtain ⟨r1, r2⟩ := pick_res (x * 131 + y * 1117 + ↑p * 29 + ↑d * 53) n (by omega) (by omega) h1
      exact ⟨_, r1, r2, rfl, H.out.1.drewN nq, grownBy_drewN H.out.2 nq⟩

theorem odd_zero (R P : Nat) (w : World) (hw : Rd w R P) :
    Calls Try.prog 49 #[.pointer (some ⟨R, 0, none⟩), .int .i64 0] w
      fun e w' => e = .returned (.bool false) ∧ w = w' := by
  go_enter Try.func49, Try.ntmps49
  go_wp2
  go_ret
  exact ⟨rfl, rfl⟩

/-- What odd draws. -/
def Odd (R P : Nat) (w : World) (e : Ending) (w' : World) : Prop :=
  ∃ x : Bool, e = .returned (.bool x) ∧ Rd w' R (P + 1) ∧ w.grownBy w' (some R)
theorem odd_any (n : Int) (R P : Nat) (w : World) (h : Rd w R P) (hP : P ≤ 1000000) (h1 : 1 ≤ n) (h2 : n ≤ 1000000) :
    Calls Try.prog 49 #[.pointer (some ⟨R, 0, none⟩), .int .i64 n] w (Odd R P w) := by
  have H := Lib.hid h
  clear h
  go_enter Try.func49, Try.ntmps49
  go_wp2_with fail
  refine (pick_any n R P w H.out hP h1 h2).mono ?_
  rintro e w' ⟨x, hx0, hx1, rfl, hr, hg⟩
  go_wp2_with fail
  go_ret
  exact ⟨_, rfl, hr, hg⟩

theorem Rd.made {w : World} {A : Option Addr} {c : Nat} {bs : List Int} (h : Row w 1 (.slice A bs.length c) bs.length (bs.map (Value.int .u8))) (hb : ∀ x ∈ bs, (Lit.int .u8 x).wf = true) (m : Nat) (hm : m ≤ bs.length) (hm2 : m ≤ 2000) :
    Rd (w.alloc (.cells #[.slice A m c, .int .i64 0] 80)) w.heap.size 0 := by
  obtain ⟨_, A', c', hv, h1, h2, h3⟩ := h
  injection hv with hA _ hc
  subst hA hc
  refine ⟨A, c, 0, bs.take m, ?_, Nat.le_refl _, by simp; omega, by simp; omega, h2, fun hn => ?_⟩
  · rw [List.length_take, Nat.min_eq_left hm]
    exact heap_alloc_new w _
  · obtain ⟨b, o, hA, hbl, hcell⟩ := h3 (by simp at hn; omega)
    refine ⟨b, o, hA, hbl, fun i x hx => ?_⟩
    obtain ⟨hi, hx'⟩ := List.getElem?_eq_some_iff.1 hx
    simp at hi hx'
    have hi2 : i < bs.length := by omega
    have hw := hb x (hx' ▸ List.getElem_mem hi2)
    refine ⟨((World.cell?_alloc_lt w _ ⟨b, o + i, none⟩ hbl).trans (hcell i _ (by simp [hi2, hx']))), ?_⟩
    have := Go.bounds_u8 hw
    omega

theorem open_any (v : Value) (bs : List Int) (w : World) (h : Row w 1 v bs.length (bs.map (Value.int .u8))) (hb : ∀ x ∈ bs, (Lit.int .u8 x).wf = true) (hl : bs.length ≤ 1048576) :
    Calls Try.prog 47 #[v] w
      fun e w' => e = .returned (.pointer (some ⟨w.heap.size, 0, none⟩)) ∧ Rd w' w.heap.size 0 ∧ Below w.heap.size w w' := by
  obtain ⟨A, c, hv, hc, hcm⟩ := h.shape
  subst hv
  go_enter Try.func47, Try.ntmps47
  go_wp2_with fail
  · go_ret
    exact ⟨rfl, Rd.made h hb 2000 (by omega) (by omega), (Below.refl _ _).alloc (Nat.le_refl _) _⟩
  · go_ret
    exact ⟨rfl, Rd.made h hb bs.length (by omega) (by omega), (Below.refl _ _).alloc (Nat.le_refl _) _⟩

/-- A cell of a literal of three numbers, behind a draw. -/
theorem lit_cell3 (w w' : World) (a b c : Int) (t : TypeId) {R : Nat} (hg : (w.alloc (.cells #[.int .i64 a, .int .i64 b, .int .i64 c] t)).drew.grownBy w' (some R)) (hR : R < w.heap.size) (y : Int) (h0 : 0 ≤ y) (h1 : y < 3) :
    ∃ v : Int, (v = a ∨ v = b ∨ v = c) ∧ w.heap.size < w'.heap.size ∧ w'.cell? ⟨w.heap.size, y.toNat, none⟩ = some (.int .i64 v) := by
  have hc := fun i => cell_of_row (w.alloc (.cells #[.int .i64 a, .int .i64 b, .int .i64 c] t)) w.heap.size i _ t (0, 0) (heap_alloc_new w _)
  have key : ∀ v, (w.alloc (.cells #[.int .i64 a, .int .i64 b, .int .i64 c] t)).cell? ⟨w.heap.size, y.toNat, none⟩ = some v → w'.cell? ⟨w.heap.size, y.toNat, none⟩ = some v :=
    fun v hv => World.grownBy.cell hg (a := ⟨w.heap.size, y.toNat, none⟩) hv (by simp; omega)
  have hs : w.heap.size < w'.heap.size := by
    have h5 : (w.alloc (.cells #[.int .i64 a, .int .i64 b, .int .i64 c] t)).heap.size ≤ w'.heap.size := hg.size
    simp at h5
    omega
  obtain h | h | h : y.toNat = 0 ∨ y.toNat = 1 ∨ y.toNat = 2 := by omega
  · exact ⟨a, .inl rfl, hs, key _ (by rw [h, hc]; rfl)⟩
  · exact ⟨b, .inr (.inl rfl), hs, key _ (by rw [h, hc]; rfl)⟩
  · exact ⟨c, .inr (.inr rfl), hs, key _ (by rw [h, hc]; rfl)⟩
/-- A cell of an elder block, behind a new block and a draw. -/
theorem keep_new {w w' : World} {o : Obj} {R g i : Nat} {v : Value} (hg : (w.alloc o).grownBy w' (some R)) (h : w.cell? ⟨g, i, none⟩ = some v) (hl : g < w.heap.size) (hn : g ≠ R) : w'.cell? ⟨g, i, none⟩ = some v ∧ g < w'.heap.size := by
  refine ⟨World.grownBy.cell hg ((World.cell?_alloc_lt w o ⟨g, i, none⟩ hl).trans h) (by simp [hn]), ?_⟩
  have h5 : (w.alloc o).heap.size ≤ w'.heap.size := hg.size
  simp at h5
  omega
theorem keep_old {w w' : World} {R g i : Nat} {v : Value} (hg : w.grownBy w' (some R)) (h : w.cell? ⟨g, i, none⟩ = some v) (hl : g < w.heap.size) (hn : g ≠ R) : w'.cell? ⟨g, i, none⟩ = some v ∧ g < w'.heap.size :=
  ⟨World.grownBy.cell hg h (by simp [hn]), Nat.lt_of_lt_of_le hl hg.size⟩
/-- A cell of a literal of two numbers. -/
theorem lit_new2 (w : World) (a b : Int) (t : TypeId) (y : Int) (h0 : 0 ≤ y) (h1 : y < 2) :
    ∃ v : Int, (v = a ∨ v = b) ∧ 0 ≤ y ∧ (w.alloc (.cells #[.int .i64 a, .int .i64 b] t)).cell? ⟨w.heap.size, y.toNat, none⟩ = some (.int .i64 v) := by
  have hc := fun i => cell_of_row (w.alloc (.cells #[.int .i64 a, .int .i64 b] t)) w.heap.size i _ t (0, 0) (heap_alloc_new w _)
  obtain h | h : y.toNat = 0 ∨ y.toNat = 1 := by omega
  · exact ⟨a, .inl rfl, h0, by rw [h, hc]; rfl⟩
  · exact ⟨b, .inr rfl, h0, by rw [h, hc]; rfl⟩
theorem lit_cell2 (w w' : World) (a b : Int) (t : TypeId) {R : Nat} (hg : (w.alloc (.cells #[.int .i64 a, .int .i64 b] t)).grownBy w' (some R)) (hR : R < w.heap.size) (y : Int) (h0 : 0 ≤ y) (h1 : y < 2) :
    ∃ v : Int, (v = a ∨ v = b) ∧ 0 ≤ y ∧ w'.cell? ⟨w.heap.size, y.toNat, none⟩ = some (.int .i64 v) := by
  have hc := fun i => cell_of_row (w.alloc (.cells #[.int .i64 a, .int .i64 b] t)) w.heap.size i _ t (0, 0) (heap_alloc_new w _)
  have key : ∀ v, (w.alloc (.cells #[.int .i64 a, .int .i64 b] t)).cell? ⟨w.heap.size, y.toNat, none⟩ = some v → w'.cell? ⟨w.heap.size, y.toNat, none⟩ = some v :=
    fun v hv => World.grownBy.cell hg (a := ⟨w.heap.size, y.toNat, none⟩) hv (by simp; omega)
  obtain h | h : y.toNat = 0 ∨ y.toNat = 1 := by omega
  · exact ⟨a, .inl rfl, h0, key _ (by rw [h, hc]; rfl)⟩
  · exact ⟨b, .inr rfl, h0, key _ (by rw [h, hc]; rfl)⟩
end Go.Proofs.Ythnfbjjnabohoaa
