import Derived.Test.YtdgminjbgjbamaaS04
import Derived.Great.BuildSlice
import Derived.Test.YtdgminjbgjbamaaS02
import Derived.Test.YtdgminjbgjbamaaS03
import Derived.BigRegion
import Derived.Deep.Cut
import Derived.Test.YtdgminjbgjbamaaS01
set_option linter.unusedVariables false
set_option linter.unusedSimpArgs false
set_option maxRecDepth 100000
set_option maxHeartbeats 16000000
namespace Go.Proofs.Ytdgminjbgjbamaa
open Go.RowKit Go.Maps
theorem BldNext.same {B b F : Nat} {G : List (Nat × Nat)} {E : Nat → Prop} {w w' : World} (h : BldAt B b F G E w) (hb : Below w.heap.size w w') : BldNext B b F G E w w' :=
  ⟨E, h.below hb, fun g hg => .inl hg, fun g hg => hg, Only.grown (r := none) ⟨hb.os, hb.tape, hb.output, hb.size, fun k hk _ => hb.block k hk⟩ (fun k hk => by cases hk)⟩
theorem BldNext.eq {B b F : Nat} {G : List (Nat × Nat)} {E : Nat → Prop} {w w' : World} (h : BldAt B b F G E w) (e : w' = w) : BldNext B b F G E w w' := by
  subst e
  exact BldNext.same h (Below.refl _ _)
def BldGive (B b F : Nat) (r : Nat × List (Nat × Nat)) (E : Nat → Prop) (w : World) (e : Ending) (w' : World) : Prop := e = .returned (.int .i64 (r.1 : Int)) ∧ BldNext B b F r.2 E w w'
theorem and_any {B b F : Nat} {G : List (Nat × Nat)} {E : Nat → Prop} (x y : Nat) (w : World) (h : BldAt B b F G E w) (hF : F ≤ 300) (hG : G.length ≤ 10000) (hx : x < 2 * (F + G.length)) (hy : y < 2 * (F + G.length)) :
    Calls Try.prog 72 #[.pointer (some ⟨b, 0, none⟩), .int .i64 (x : Int), .int .i64 (y : Int)] w (BldGive B b F (Cir.andB F G x y) E w) := by
  unfold BldGive Cir.andB
  obtain ⟨m, vg, vl, L, hB⟩ := h
  by_cases hs : y < x
  · rw [if_pos hs]
    unfold Cir.andS
    by_cases c0 : y = 0
    · rw [if_pos (.inl c0)]
      exact (and_zero_sw b y x w (by omega) (by omega) hs c0).mono fun e w' ⟨h1, h2⟩ => ⟨h1, BldNext.eq ⟨m, vg, vl, L, hB⟩ h2⟩
    · by_cases c1 : y = x ^^^ 1
      · rw [if_pos (.inr c1)]
        exact (and_neg_sw b y x w (by omega) (by omega) hs ⟨c0, c1⟩).mono fun e w' ⟨h1, h2⟩ => ⟨h1, BldNext.eq ⟨m, vg, vl, L, hB⟩ h2⟩
      · rw [if_neg (by rintro (h | h); exact c0 h; exact c1 h)]
        by_cases c2 : y = 1
        · rw [if_pos (.inl c2)]
          exact (and_one_sw b y x w (by omega) (by omega) hs ⟨c0, c1, c2⟩).mono fun e w' ⟨h1, h2⟩ => ⟨h1, BldNext.eq ⟨m, vg, vl, L, hB⟩ h2⟩
        · have c3 : y ≠ x := by omega
          rw [if_neg (by rintro (h | h); exact c2 h; exact c3 h)]
          cases hk : Cir.knownG F G y x with
          | some l => exact (and_known_sw y x l w hB (by omega) (by omega) hs c0 c1 c2 c3 hk).mono fun e w' ⟨h1, h2⟩ => ⟨h1, BldNext.same ⟨m, vg, vl, L, hB⟩ h2⟩
          | none => exact and_new_sw y x w hB hF hG hy hx hs c0 c1 c2 c3 hk
  · rw [if_neg hs]
    unfold Cir.andS
    by_cases c0 : x = 0
    · rw [if_pos (.inl c0)]
      exact (and_zero_st b x y w (by omega) (by omega) hs c0).mono fun e w' ⟨h1, h2⟩ => ⟨h1, BldNext.eq ⟨m, vg, vl, L, hB⟩ h2⟩
    · by_cases c1 : x = y ^^^ 1
      · rw [if_pos (.inr c1)]
        exact (and_neg_st b x y w (by omega) (by omega) hs ⟨c0, c1⟩).mono fun e w' ⟨h1, h2⟩ => ⟨h1, BldNext.eq ⟨m, vg, vl, L, hB⟩ h2⟩
      · rw [if_neg (by rintro (h | h); exact c0 h; exact c1 h)]
        by_cases c2 : x = 1
        · rw [if_pos (.inl c2)]
          exact (and_one_st b x y w (by omega) (by omega) hs ⟨c0, c1, c2⟩).mono fun e w' ⟨h1, h2⟩ => ⟨h1, BldNext.eq ⟨m, vg, vl, L, hB⟩ h2⟩
        · by_cases c3 : x = y
          · rw [if_pos (.inr c3)]
            exact (and_same_st b x y w (by omega) (by omega) hs ⟨c0, c1, c2, c3⟩).mono fun e w' ⟨h1, h2⟩ => ⟨h1, BldNext.eq ⟨m, vg, vl, L, hB⟩ h2⟩
          · rw [if_neg (by rintro (h | h); exact c2 h; exact c3 h)]
            cases hk : Cir.knownG F G x y with
            | some l => exact (and_known_st x y l w hB (by omega) (by omega) hs c0 c1 c2 c3 hk).mono fun e w' ⟨h1, h2⟩ => ⟨h1, BldNext.same ⟨m, vg, vl, L, hB⟩ h2⟩
            | none => exact and_new_st x y w hB hF hG hx hy hs c0 c1 c2 c3 hk
end Go.Proofs.Ytdgminjbgjbamaa
namespace Go.Proofs.Ytdgminjbgjbamaa
open Go.RowKit Go.Maps
theorem nat_cell {w wr : World} {A : Option Addr} {n c : Nat} {xs : List Nat} (h : Row w 1 (.slice A n c) n (ints (xs.map Int.ofNat))) (hb : Below w.heap.size w wr) {i : Nat} (hn : n = xs.length) (hi : i < xs.length) :
    ∃ b o, A = some ⟨b, o, none⟩ ∧ b < w.heap.size ∧ wr.cell? ⟨b, o + i, none⟩ = some (.int .i64 ((xs.getD i 0 : Nat) : Int)) := by
  obtain ⟨b, o, x, hA, hbl, hx, hs⟩ := ints_open h hb (by rw [List.length_map]; exact hn) (i := i) (by rw [List.length_map]; exact hi)
  have hxe : x = ((xs.getD i 0 : Nat) : Int) := by
    have h1 := hx.out
    rw [List.getElem?_map, List.getElem?_eq_getElem hi] at h1
    rw [List.getD_eq_getElem?_getD, List.getElem?_eq_getElem hi]
    exact (Option.some.inj h1).symm
  subst hxe
  exact ⟨b, o, hA, hbl, hs⟩
theorem getD_le {xs : List Nat} {M : Nat} (h : ∀ x ∈ xs, x ≤ M) (i : Nat) : xs.getD i 0 ≤ M := by
  rw [List.getD_eq_getElem?_getD]
  cases hi : xs[i]? with
  | none => simp
  | some a => exact h a (List.mem_of_getElem? hi)
theorem and_one_nat (l : Nat) (hb : l ≤ 1000000) : bits .and .i64 (l : Int) 1 = ((l % 2 : Nat) : Int) := by
  have := i64_and_nat l 1 (by omega) (by omega)
  rw [Nat.and_one_is_mod] at this
  exact this
theorem bldUse_any (gc l : Nat) (m : List Nat) (vl : Value) (w : World) (hc : w.cell? ⟨gc, 0, none⟩ = some vl) (hm : IntsAt w vl (m.map Int.ofNat)) (hl : l / 2 < m.length) (hb : l ≤ 1000000) (hv : ∀ x ∈ m, x ≤ 1000000) :
    Calls Try.prog 107 #[.int .i64 (l : Int), .pointer (some ⟨gc, 0, none⟩)] w fun e w' => e = .returned (.int .i64 (Cir.useX m l : Nat)) ∧ Below w.heap.size w w' := by
  obtain ⟨A, c, rfl, hc1, hcm⟩ := Row.shape hm
  rw [List.length_map] at hc hc1
  obtain ⟨b, o, rfl, hbl, hs⟩ := nat_cell (by have := hm; unfold IntsAt at this; rwa [List.length_map] at this) (Below.refl _ _) rfl hl
  have hq := tdiv_two l
  have ha := and_one_nat l hb
  have hx := i64_xor_nat (m.getD (l / 2) 0) (l % 2) (by have := getD_le hv (l / 2); omega) (by omega)
  have hR : Hid (Cir.useX m l = m.getD (l / 2) 0 ^^^ (l % 2)) := Lib.hid rfl
  have hlb : l / 2 ≤ 1000000 := by omega
  generalize l / 2 = q at *
  generalize m.getD q 0 = x at *
  generalize l % 2 = r at *
  generalize x ^^^ r = y at *
  have hwq : IntKind.i64.wrap (q : Int) = q := IntWalk.i64_in _ (by omega)
  generalize hML : m.length = ML at *
  clear hm hv
  go_enter Try.func107, Try.ntmps107
  go_wp2_with fail
  go_ret
  exact ⟨by rw [hR.out]; rfl, Below.refl _ _⟩
theorem pruneUse_any (gc l : Nat) (m : List Nat) (vl : Value) (w : World) (hc : w.cell? ⟨gc, 0, none⟩ = some vl) (hm : IntsAt w vl (m.map Int.ofNat)) (hl : l / 2 < m.length) (hb : l ≤ 1000000) (hv : ∀ x ∈ m, x ≤ 1000000) :
    Calls Try.prog 108 #[.int .i64 (l : Int), .pointer (some ⟨gc, 0, none⟩)] w fun e w' => e = .returned (.int .i64 (2 * m.getD (l / 2) 0 + l % 2 : Nat)) ∧ Below w.heap.size w w' := by
  obtain ⟨A, c, rfl, hc1, hcm⟩ := Row.shape hm
  rw [List.length_map] at hc hc1
  obtain ⟨b, o, rfl, hbl, hs⟩ := nat_cell (by have := hm; unfold IntsAt at this; rwa [List.length_map] at this) (Below.refl _ _) rfl hl
  have hq := tdiv_two l
  have ha := and_one_nat l hb
  have hx := getD_le hv (l / 2)
  have hlb : l / 2 ≤ 1000000 := by omega
  have hrb : l % 2 ≤ 1 := by omega
  generalize l / 2 = q at *
  generalize m.getD q 0 = x at *
  generalize l % 2 = r at *
  have hwq : IntKind.i64.wrap (q : Int) = q := IntWalk.i64_in _ (by omega)
  have hw2 : IntKind.i64.wrap (2 * (x : Int)) = 2 * (x : Int) := IntWalk.i64_in _ (by omega)
  have hw3 : IntKind.i64.wrap (2 * (x : Int) + (r : Int)) = 2 * (x : Int) + (r : Int) := IntWalk.i64_in _ (by omega)
  generalize hML : m.length = ML at *
  clear hm hv
  go_enter Try.func108, Try.ntmps108
  go_wp2_with fail
  go_ret
  exact ⟨ret_int (by omega), Below.refl _ _⟩
def TBoxC (c : Cz) : Ty := fun w v => ∃ g, v = .pointer (some ⟨g, 0, none⟩) ∧ PCirc w g c
theorem stb_boxc (c : Cz) : Stb (fun _ => False) (TBoxC c) := fun _ _ _ ⟨g, h1, h2⟩ ho => ⟨g, h1, h2.below (only_below ho)⟩
def TCOwn (c : Cz) : Ty := fun w v => CircOwn 0 w v c
theorem stb_cown (c : Cz) : Stb (fun _ => False) (TCOwn c) := fun _ _ _ h ho => CircOwn.below h (only_below ho)
def TBoxZ (B : Nat) (cs : Array Value) (t : TypeId) : Ty := fun w v => ∃ g, v = .pointer (some ⟨g, 0, none⟩) ∧ B ≤ g ∧ w.heap[g]? = some (.cells cs t (0, 0))
theorem stb_boxz (B : Nat) (cs : Array Value) (t : TypeId) : Stb (fun _ => False) (TBoxZ B cs t) := fun _ _ _ ⟨g, h1, h2, h3⟩ ho => ⟨g, h1, h2, (ho.block g (blk_ltB h3) id).trans h3⟩
theorem own_setN {w : World} {B n size k i : Nat} {e : TypeId} {v u : Value} {cs : List Value} (h : w.ownsRow B e size v n cs) (hk : v.ownBlock ≠ some k) : (w.setCell ⟨k, i, none⟩ u).ownsRow B e size v n cs :=
  own_only h (Only.grown (E := fun g => g = k) (set_grown w k i u) (fun x hx => (Option.some.inj hx).symm)) (fun g hg e => hk (by rw [hg, e]))
theorem circuit_any {B b F : Nat} {G : List (Nat × Nat)} {E : Nat → Prop} (g : Nat) (c : Ci) (m : List Nat) (vl : Value) (w : World) (hB : BldAt B b F G E w) (hp : PCirc w g (Cir.toCz c)) (hm : IntsAt w vl (m.map Int.ofNat))
    (l1 : c.next.length ≤ 1000) (l3 : c.outs.length ≤ 1000) (lm : m.length ≤ 1000) (lg : G.length ≤ 1000) (n1 : ∀ l ∈ c.next, l < 2 * m.length) (n3 : ∀ l ∈ c.outs, l < 2 * m.length) (hv : ∀ x ∈ m, x ≤ 1000000) :
    Calls Try.prog 92 #[.pointer (some ⟨b, 0, none⟩), .pointer (some ⟨g, 0, none⟩), vl] w fun e w' => (∃ v, e = .returned v ∧ CircAt w' v (Cir.toCz ⟨c.ins, c.next.map (Cir.useX m), G.reverse, c.outs.map (Cir.useX m)⟩)) ∧ Below w.heap.size w w' := by
  obtain ⟨vn, vg, vo, hg, c0, c1, c2, c3, r1, r2, r3⟩ := hp
  obtain ⟨An, cn, rfl, hcn, hcmn⟩ := Row.shape r1
  obtain ⟨Ao, co, rfl, hco, hcmo⟩ := Row.shape r3
  obtain ⟨Al, cl, rfl, hcl, hcml⟩ := Row.shape hm
  have hnl : (Cir.toCz c).next.length = c.next.length := List.length_map _
  have hol : (Cir.toCz c).outs.length = c.outs.length := List.length_map _
  have hml : (m.map Int.ofNat).length = m.length := List.length_map _
  rw [hnl] at hcn c1 r1
  rw [hol] at hco c3 r3
  rw [hml] at hcl hm ⊢
  have Hm := Lib.hid hm
  have R1 := Lib.hid r1
  have R3 := Lib.hid r3
  have HB := Lib.hid hB
  have HN := Lib.hid (And.intro n1 n3)
  have HV := Lib.hid hv
  have hbz : b < w.heap.size := by obtain ⟨_, _, _, _, h⟩ := hB; exact (h.lo b h.eb).2
  have hb1 := bel_new w (.cells #[.slice Al m.length cl] 23)
  have hb2 := bel_new (w.alloc (.cells #[.slice Al m.length cl] 23)) (.cells #[.int .i64 0, .slice none 0 0, .slice none 0 0, .slice none 0 0] 26)
  have hk1 := heap_alloc_new w (.cells #[.slice Al m.length cl] 23)
  have hk2 := heap_alloc_new (w.alloc (.cells #[.slice Al m.length cl] 23)) (.cells #[.int .i64 0, .slice none 0 0, .slice none 0 0, .slice none 0 0] 26)
  have hz1 : (w.alloc (.cells #[.slice Al m.length cl] 23)).heap.size = w.heap.size + 1 := by simp
  clear r1 r2 r3 c2 hm hB n1 n3 hv hnl hol hml
  go_enter Try.func92, Try.ntmps92
  go_wp2_with fail
  have hk1' := (hb2.block w.heap.size (by omega)).trans hk1
  have hB2 := hb1.trans (hb2.mono (by omega))
  rw [hz1] at hk2
  generalize (w.alloc (.cells #[.slice Al m.length cl] 23)).alloc (.cells #[.int .i64 0, .slice none 0 0, .slice none 0 0, .slice none 0 0] 26) = W0 at *
  obtain ⟨g5, hg5⟩ : ∃ g5, g5 = w.heap.size := ⟨_, rfl⟩
  obtain ⟨g6, hg6⟩ : ∃ g6, g6 = w.heap.size + 1 := ⟨_, rfl⟩
  rw [← hg5] at hk1' ⊢
  rw [← hg6] at hk2
  rw [hg5, ← hg6, ← hg5]
  have HK5 := Lib.hid hk1'
  have HK6 := Lib.hid hk2
  have HB0 := Lib.hid hB2
  have hz0 := hB2.size
  have Hm0 : Hid (IntsAt W0 (.slice Al m.length cl) (m.map Int.ofNat)) := Lib.hid (Row.below Hm.out hB2)
  have hg5z := blk_ltB hk1'
  have hg6z := blk_ltB hk2
  have hB0 := HB.out.below hB2
  have HBW := Lib.hid hB0
  have hwg5 : w.heap.size ≤ g5 := by omega
  have hwg6 : w.heap.size ≤ g6 := by omega
  clear hk1' hk2 hb1 hb2 hk1 hz1 hB2 Hm HB hB0 hg5 hg6
  refine wp_region_rsl (quietRS Try.prog _ W0 _) quietRS_ok (by kernel_rfl) (by kernel_rfl) (by kernel_rfl) 17 _ rfl rfl (by kernel_rfl) (show (0 : Nat) < 17 by decide) trivial trivial ?_
  refine rs_old quietRS_ok quiet_any _ (.inl rfl) _ rfl rfl ?_
  apply rs_eq quietRS_ok quiet_any
  · intro ρ w' ho hK
    have ho : Only _ W0 w' := ho
    obtain ⟨h0, -⟩ := hK
    have h0' : ρ (.tmp 8) = _ := h0
    go_simp
    try exact rfl
  apply rs_eq quietRS_ok quiet_any
  · intro ρ w' ho hK
    have ho : Only _ W0 w' := ho
    obtain ⟨h0, -⟩ := hK
    have h0' : ρ (.tmp 9) = _ := h0
    go_simp
    try exact rfl
  apply rs_eq quietRS_ok quiet_any
  · intro ρ w' ho hK
    have ho : Only _ W0 w' := ho
    obtain ⟨h0, -⟩ := hK
    have h0' : ρ (.tmp 10) = _ := h0
    have hb := HB0.out.trans ((only_below ho).mono HB0.out.size)
    have q0 := (hb.cell (p := ⟨g, 0, none⟩) hg).trans c0
    have q1 := (hb.cell (p := ⟨g, 1, none⟩) hg).trans c1
    have q3 := (hb.cell (p := ⟨g, 3, none⟩) hg).trans c3
    go_simp
    try exact rfl
  refine rs_old quietRS_ok quiet_any _ (.inl rfl) _ rfl rfl ?_
  apply rs_eq quietRS_ok quiet_any
  · intro ρ w' ho hK
    have ho : Only _ W0 w' := ho
    obtain ⟨h0, -⟩ := hK
    have h0' : ρ (.tmp 12) = _ := h0
    go_simp
    try exact rfl
  apply rs_eq quietRS_ok quiet_any
  · intro ρ w' ho hK
    have ho : Only _ W0 w' := ho
    obtain ⟨h0, -⟩ := hK
    have h0' : ρ (.tmp 13) = _ := h0
    go_simp
    try exact rfl
  apply rs_eq quietRS_ok quiet_any
  · intro ρ w' ho hK
    have ho : Only _ W0 w' := ho
    obtain ⟨h0, -⟩ := hK
    have h0' : ρ (.tmp 14) = _ := h0
    have hb := HB0.out.trans ((only_below ho).mono HB0.out.size)
    have q0 := (hb.cell (p := ⟨g, 0, none⟩) hg).trans c0
    have q1 := (hb.cell (p := ⟨g, 1, none⟩) hg).trans c1
    have q3 := (hb.cell (p := ⟨g, 3, none⟩) hg).trans c3
    go_simp
    try exact rfl
  refine rs_old quietRS_ok quiet_any _ (.inl rfl) _ rfl rfl ?_
  apply rs_eq quietRS_ok quiet_any
  · intro ρ w' ho hK
    have ho : Only _ W0 w' := ho
    obtain ⟨h0, -⟩ := hK
    have h0' : ρ (.tmp 16) = _ := h0
    go_simp
    try exact rfl
  apply rs_eq quietRS_ok quiet_any
  · intro ρ w' ho hK
    have ho : Only _ W0 w' := ho
    obtain ⟨h0, -⟩ := hK
    have h0' : ρ (.tmp 17) = _ := h0
    go_simp
    try exact rfl
  apply rs_eq quietRS_ok quiet_any
  · intro ρ w' ho hK
    have ho : Only _ W0 w' := ho
    obtain ⟨h0, -⟩ := hK
    have h0' : ρ (.tmp 18) = _ := h0
    have hb := HB0.out.trans ((only_below ho).mono HB0.out.size)
    have q0 := (hb.cell (p := ⟨g, 0, none⟩) hg).trans c0
    have q1 := (hb.cell (p := ⟨g, 1, none⟩) hg).trans c1
    have q3 := (hb.cell (p := ⟨g, 3, none⟩) hg).trans c3
    go_simp
    try exact rfl
  apply rs_eq quietRS_ok quiet_any
  · intro ρ w' ho hK
    have ho : Only _ W0 w' := ho
    obtain ⟨h0, h1, h2, -⟩ := hK
    have h0' : ρ (.tmp 11) = _ := h0
    have h1' : ρ (.tmp 15) = _ := h1
    have h2' : ρ (.tmp 19) = _ := h2
    go_simp
    try exact rfl
  refine rs_alloc quietRS_ok quiet_any (TBoxC (Cir.toCz ⟨c.ins, c.next, [], c.outs⟩)) (stb_boxc _) (fun ρ w' ho hK => by
    obtain ⟨h0, -⟩ := hK
    have h0' : ρ (.tmp 20) = _ := h0
    have hb := HB0.out.trans ((only_below ho).mono HB0.out.size)
    refine ⟨.pointer (some ⟨w'.heap.size, 0, none⟩), .cells #[.int .i64 (Cir.toCz c).ins, .slice An c.next.length cn, .slice none 0 0, .slice Ao c.outs.length co] 26, ?_, ⟨_, rfl, PCirc.boxed (c := Cir.toCz ⟨c.ins, c.next, [], c.outs⟩) _ ?_ ?_ ?_⟩⟩
    · go_simp
    · exact Row.below R1.out hb
    · exact Row.nil _ _
    · exact Row.below R3.out hb) ?_
  apply rs_eq quietRS_ok quiet_any
  · intro ρ w' ho hK
    have ho : Only _ W0 w' := ho
    obtain ⟨h0, -⟩ := hK
    have h0' : ρ (.tmp 5) = _ := h0
    go_simp
    try exact rfl
  refine rs_call quietRS_ok quiet_any (TCOwn (Cir.toCz (mapC (Cir.useX m) ⟨c.ins, c.next, [], c.outs⟩))) (stb_cown _) 56 _ _ rfl (fun ρ w' ho hK => by
    have ho : Only _ W0 w' := ho
    obtain ⟨h0, h1, h2, -⟩ := hK
    have h0' : ρ (.func 56) = .func (.func 56) #[] #[] := h0
    have h1' : (TBoxC (Cir.toCz ⟨c.ins, c.next, [], c.outs⟩)) w' (ρ (.tmp 21)) := h1
    have h2' : ρ (.tmp 22) = _ := h2
    obtain ⟨g7, e7, hp7⟩ : ∃ g', ρ (.tmp 21) = .pointer (some ⟨g', 0, none⟩) ∧ PCirc w' g' (Cir.toCz ⟨c.ins, c.next, [], c.outs⟩) := h1'
    have hsz : g5 < w'.heap.size := Nat.lt_of_lt_of_le hg5z ho.size
    have hcall := replaced_any g7 (2 * m.length) ⟨c.ins, c.next, [], c.outs⟩ 107 #[.pointer (some ⟨g5, 0, none⟩)] (Cir.useX m) w' hp7 l1 (by simp) l3 HN.out.1 (fun x hx => by cases hx) HN.out.2 (fun vs w' => by kernel_rfl) (fun w'' hb l hl => bldUse_any g5 l m (.slice Al m.length cl) w'' ((hb.cell (p := ⟨g5, 0, none⟩) hsz).trans (((only_below ho).cell (p := ⟨g5, 0, none⟩) hg5z).trans (blk_cell HK5.out 0))) (Row.below (Row.below Hm0.out (only_below ho)) hb) (by omega) (by omega) HV.out)
    rw [← e7] at hcall
    refine ⟨#[ρ (.tmp 21), ρ (.tmp 22)], ?_, ?_⟩
    · go_simp
    · rw [h2']
      refine (hcall).mono ?_
      rintro e w2 ⟨⟨v2, rfl, hO⟩, hb⟩
      exact ⟨v2, rfl, hO.mono (Nat.zero_le _), hb⟩) ?_
  refine rs_alloc quietRS_ok quiet_any (TBoxZ W0.heap.size #[.int .i64 0, .slice none 0 0, .slice none 0 0, .slice none 0 0] 26) (stb_boxz _ _ _) (fun ρ w' ho hK => by
    refine ⟨.pointer (some ⟨w'.heap.size, 0, none⟩), .cells #[.int .i64 0, .slice none 0 0, .slice none 0 0, .slice none 0 0] 26, ?_, ⟨_, rfl, ho.size, heap_alloc_new _ _⟩⟩
    go_simp) ?_
  intro f w9 k9 hk9 hI9 ht9 hcp9
  have E0 : f 0 = _ := ht9 0 (Nat.le_of_ble_eq_true rfl)
  conv at E0 => rhs; whnf
  have E1 : f 1 = _ := ht9 1 (Nat.le_of_ble_eq_true rfl)
  have E2 : f 2 = _ := ht9 2 (Nat.le_of_ble_eq_true rfl)
  have E3 : f 3 = _ := ht9 3 (Nat.le_of_ble_eq_true rfl)
  have E4 : f 4 = _ := ht9 4 (Nat.le_of_ble_eq_true rfl)
  conv at E4 => rhs; whnf
  have E5 : f 5 = _ := ht9 5 (Nat.le_of_ble_eq_true rfl)
  have E6 : f 6 = _ := ht9 6 (Nat.le_of_ble_eq_true rfl)
  have E7 : f 7 = _ := ht9 7 (Nat.le_of_ble_eq_true rfl)
  have E8 : f 8 = _ := ht9 8 (Nat.le_of_ble_eq_true rfl)
  conv at E8 => rhs; whnf
  have E9 : f 9 = _ := ht9 9 (Nat.le_of_ble_eq_true rfl)
  have E10 : f 10 = _ := ht9 10 (Nat.le_of_ble_eq_true rfl)
  have E11 : f 11 = _ := ht9 11 (Nat.le_of_ble_eq_true rfl)
  have E12 : f 12 = _ := ht9 12 (Nat.le_of_ble_eq_true rfl)
  have E13 : (TBoxC (Cir.toCz ⟨c.ins, c.next, [], c.outs⟩)) w9 (f 13) := ht9 13 (Nat.le_of_ble_eq_true rfl)
  have E14 : f 14 = _ := ht9 14 (Nat.le_of_ble_eq_true rfl)
  have E15 : (TCOwn (Cir.toCz (mapC (Cir.useX m) ⟨c.ins, c.next, [], c.outs⟩))) w9 (f 15) := ht9 15 (Nat.le_of_ble_eq_true rfl)
  have E16 : (TBoxZ W0.heap.size #[.int .i64 0, .slice none 0 0, .slice none 0 0, .slice none 0 0] 26) w9 (f 16) := ht9 16 (Nat.le_of_ble_eq_true rfl)
  have Ho9 : Only _ W0 w9 := hI9.2.1
  simp only [putAll, E0, E1, E2, E3, E4, E5, E6, E7, E8, E9, E10, E11, E12, E14, Nat.zero_add, Nat.reduceAdd, Act.put, List.setIfInBounds_toArray, List.set_cons_succ, List.set_cons_zero, List.take, List.getElem_toArray, List.getElem_cons_succ, List.getElem_cons_zero]
  clear E0 E1 E2 E3 E4 E5 E6 E7 E8 E9 E10 E11 E12 E14
  clear hI9 ht9 hcp9 hk9
  generalize f 13 = r13 at *
  generalize f 15 = r15 at *
  generalize f 16 = r16 at *
  have hb9 := only_below Ho9
  obtain ⟨g7, e7, hg7, hk7⟩ : ∃ g', r16 = .pointer (some ⟨g', 0, none⟩) ∧ W0.heap.size ≤ g' ∧ w9.heap[g']? = some (.cells #[.int .i64 0, .slice none 0 0, .slice none 0 0, .slice none 0 0] 26 (0, 0)) := E16
  subst e7
  obtain ⟨vn', vg', vo', e15, q1, q2, q3⟩ : CircOwn 0 w9 r15 (Cir.toCz (mapC (Cir.useX m) ⟨c.ins, c.next, [], c.outs⟩)) := E15
  subst e15
  obtain ⟨A1, c1', hv1⟩ := slice_of_own q1
  obtain ⟨A2, c2', hv2⟩ := slice_of_own q2
  obtain ⟨A3, c3', hv3⟩ := slice_of_own q3
  subst hv1 hv2 hv3
  have hlm : (Cir.toCz (mapC (Cir.useX m) ⟨c.ins, c.next, [], c.outs⟩)).next.length = c.next.length ∧ (Cir.toCz (mapC (Cir.useX m) ⟨c.ins, c.next, [], c.outs⟩)).gates.length = 0 ∧ (Cir.toCz (mapC (Cir.useX m) ⟨c.ins, c.next, [], c.outs⟩)).outs.length = c.outs.length := ⟨by simp [Cir.toCz, mapC], by simp [Cir.toCz, mapC], by simp [Cir.toCz, mapC]⟩
  rw [hlm.1] at q1 ⊢
  rw [hlm.2.2] at q3 ⊢
  rw [hlm.2.1]
  obtain ⟨mm, vgB, vlB, L, hBb⟩ := HBW.out.below hb9
  obtain ⟨A4, c4', hv4⟩ := slice_of_own hBb.gs
  subst hv4
  have hk6 := (hb9.block g6 hg6z).trans HK6.out
  have hbz' : b < W0.heap.size := Nat.lt_of_lt_of_le hbz hz0
  have hb7 : b ≠ g7 := by omega
  have hg67 : g6 ≠ g7 := by omega
  have hb6 : b ≠ g6 := by omega
  have hg76 : g7 ≠ g6 := by omega
  have hw7 : w.heap.size ≤ g7 := by omega
  have hIe : (Cir.toCz (mapC (Cir.useX m) ⟨c.ins, c.next, [], c.outs⟩)).ins = (Cir.toCz c).ins := rfl
  rw [hIe]
  refine wpList_store_rowTo rfl 26 (.tmp 7) (.tmp 23) rfl rfl g7 #[.int .i64 (Cir.toCz c).ins, .slice A1 c.next.length c1', .slice A2 0 c2', .slice A3 c.outs.length c3'] rfl rfl 26 _ hk7 (by kernel_rfl) rfl (by simp [Value.oneCell']) ?_
  have hj7 := setRow_heap w9 g7 _ #[.int .i64 (Cir.toCz c).ins, .slice A1 c.next.length c1', .slice A2 0 c2', .slice A3 c.outs.length c3'] _ _ hk7
  have hj6 := (setRow_other w9 g7 g6 #[.int .i64 (Cir.toCz c).ins, .slice A1 c.next.length c1', .slice A2 0 c2', .slice A3 c.outs.length c3'] hg67).trans hk6
  have hO7 : Only (fun g => g = g7) w9 (w9.setRow g7 #[.int .i64 (Cir.toCz c).ins, .slice A1 c.next.length c1', .slice A2 0 c2', .slice A3 c.outs.length c3']) := ⟨rfl, rfl, rfl, by simp, fun k hk hn => setRow_other _ _ _ _ hn⟩
  generalize hWW : w9.setRow g7 #[.int .i64 (Cir.toCz c).ins, .slice A1 c.next.length c1', .slice A2 0 c2', .slice A3 c.outs.length c3'] = W8 at *
  have hw9z : W0.heap.size ≤ w9.heap.size := hb9.size
  have HB8 : Hid (Below w.heap.size w W8) := Lib.hid (Only.below (HB0.out.trans (hb9.mono HB0.out.size)) hO7 (by omega) (fun k hk => by omega))
  have Q1 := Lib.hid (own_only q1 hO7 (fun g hg e => own_ne_tag q1 hk7 (by decide) (by rw [hg, e])))
  have Q3 := Lib.hid (own_only q3 hO7 (fun g hg e => own_ne_tag q3 hk7 (by decide) (by rw [hg, e])))
  have hGlo : ∀ g, (Value.slice A4 G.length c4').ownBlock = some g → g < W0.heap.size := fun g hg => by
    obtain ⟨m0, vg0, vl0, L0, h0⟩ := HBW.out
    have e0 := blk_cell ((hb9.block b hbz').trans h0.box) 1
    have p1 := blk_cell hBb.box 1
    simp at e0 p1
    rw [p1] at e0
    have e1 := Option.some.inj e0
    exact (h0.lo g (h0.eg g (by rw [← e1]; exact hg))).2
  have Q4 := Lib.hid (own_only hBb.gs hO7 (fun g hg e => by have := hGlo g hg; omega))
  have Q46 : Hid (∀ g, (Value.slice A4 G.length c4').ownBlock = some g → g ≠ g6 ∧ g ≠ g7) := Lib.hid fun g hg => ⟨own_ne_tag hBb.gs hk6 (by decide) ∘ (fun e => by rw [hg, e]), by have := hGlo g hg; omega⟩
  have Q16 : Hid ((∀ g, (Value.slice A1 c.next.length c1').ownBlock = some g → g ≠ g6 ∧ g ≠ g7) ∧ (∀ g, (Value.slice A3 c.outs.length c3').ownBlock = some g → g ≠ g6 ∧ g ≠ g7)) := Lib.hid ⟨fun g hg => ⟨own_ne_tag q1 hk6 (by decide) ∘ (fun e => by rw [hg, e]), own_ne_tag q1 hk7 (by decide) ∘ (fun e => by rw [hg, e])⟩, fun g hg => ⟨own_ne_tag q3 hk6 (by decide) ∘ (fun e => by rw [hg, e]), own_ne_tag q3 hk7 (by decide) ∘ (fun e => by rw [hg, e])⟩⟩
  have hjb := (hO7.block b (by omega) hb7).trans hBb.box
  have k0 := blk_cell hj7 0
  have k1 := blk_cell hj7 1
  have k2 := blk_cell hj7 2
  have k3 := blk_cell hj7 3
  have f2 := blk_free hj7 2
  have j0 := blk_cell hj6 0
  have j1 := blk_cell hj6 1
  have j2 := blk_cell hj6 2
  have j3 := blk_cell hj6 3
  have i0 := blk_free hj6 0
  have i1 := blk_free hj6 1
  have i2 := blk_free hj6 2
  have i3 := blk_free hj6 3
  have p1 := blk_cell hjb 1
  simp at k0 k1 k2 k3 j0 j1 j2 j3 p1
  clear Ho9 hb9 hk7 hk6 q1 q2 q3 hBb hlm hGlo HBW Hm0 HK5 HK6 HB0 hIe hWW hO7 hj7 hj6 hjb E13
  go_wp2_with fail
  have n46 : (Value.slice A4 G.length c4').ownBlock ≠ some g6 := fun e => (Q46.out g6 e).1 rfl
  have n47 : (Value.slice A4 G.length c4').ownBlock ≠ some g7 := fun e => (Q46.out g7 e).2 rfl
  have n16 : (Value.slice A1 c.next.length c1').ownBlock ≠ some g6 := fun e => (Q16.out.1 g6 e).1 rfl
  have n17 : (Value.slice A1 c.next.length c1').ownBlock ≠ some g7 := fun e => (Q16.out.1 g7 e).2 rfl
  have n36 : (Value.slice A3 c.outs.length c3').ownBlock ≠ some g6 := fun e => (Q16.out.2 g6 e).1 rfl
  have n37 : (Value.slice A3 c.outs.length c3').ownBlock ≠ some g7 := fun e => (Q16.out.2 g7 e).2 rfl
  refine bodyPost_ret (v := .agg #[.int .i64 (Cir.toCz c).ins, .slice A1 c.next.length c1', .slice A4 G.length c4', .slice A3 c.outs.length c3']) (by simp [results, Try.results92, go_sem, j0, j1, j2, j3, hg67, hg76]) rfl ⟨⟨_, rfl, _, _, _, rfl, ?_, ?_, ?_⟩, ?_⟩
  · have h := own_setN (i := 3) (u := .slice A3 c.outs.length c3') (own_setN (i := 2) (u := .slice A4 G.length c4') (own_setN (i := 1) (u := .slice A1 c.next.length c1') (own_setN (i := 0) (u := .int .i64 (Cir.toCz c).ins) (own_setN (i := 2) (u := .slice A4 G.length c4') Q1.out n17) n16) n16) n16) n16
    have e1 : (Cir.toCz ⟨c.ins, c.next.map (Cir.useX m), G.reverse, c.outs.map (Cir.useX m)⟩).next.length = c.next.length := by simp [Cir.toCz]
    unfold IntsAt
    rw [e1]
    exact Row.of_own h
  · have h := own_setN (i := 3) (u := .slice A3 c.outs.length c3') (own_setN (i := 2) (u := .slice A4 G.length c4') (own_setN (i := 1) (u := .slice A1 c.next.length c1') (own_setN (i := 0) (u := .int .i64 (Cir.toCz c).ins) (own_setN (i := 2) (u := .slice A4 G.length c4') Q4.out n47) n46) n46) n46) n46
    have e1 : (Cir.toCz ⟨c.ins, c.next.map (Cir.useX m), G.reverse, c.outs.map (Cir.useX m)⟩).gates.length = G.length := by simp [Cir.toCz]
    unfold CubesAt
    rw [e1]
    exact Row.of_own h
  · have h := own_setN (i := 3) (u := .slice A3 c.outs.length c3') (own_setN (i := 2) (u := .slice A4 G.length c4') (own_setN (i := 1) (u := .slice A1 c.next.length c1') (own_setN (i := 0) (u := .int .i64 (Cir.toCz c).ins) (own_setN (i := 2) (u := .slice A4 G.length c4') Q3.out n37) n36) n36) n36) n36
    have e1 : (Cir.toCz ⟨c.ins, c.next.map (Cir.useX m), G.reverse, c.outs.map (Cir.useX m)⟩).outs.length = c.outs.length := by simp [Cir.toCz]
    unfold IntsAt
    rw [e1]
    exact Row.of_own h
  · exact ((((HB8.out.setCell hw7 _).setCell hwg6 _).setCell hwg6 _).setCell hwg6 _).setCell hwg6 _
end Go.Proofs.Ytdgminjbgjbamaa
namespace Go.Proofs.Ytdgminjbgjbamaa
open Go.RowKit Go.Maps
theorem append_gatesO {w : World} {ops : Array Oper} {rest : List Oper} {o : Oper} {a : Act} {Q : Exit → Act → World → Prop} (hgd : o.guard = none) (s x : Operand)
    (ho : o.op = .call { callee := .builtin .append, args := #[s, x], argTypes := #[24, 24] })
    (base : Nat) (v : Value) (n : Nat) (xs : List Value) (hs : a.eval s = v) (hown : w.ownsRow base 72 2 v n xs) (sv : Value) (m : Nat) (news : List Value) (hx : a.eval x = sv) (hr : Row w 2 sv m news) (h1 : ∀ u ∈ news, u.oneCell' = true)
    (h63 : n + m ≤ 1000000) (hbase : base ≤ w.heap.size)
    (h : ∀ v' w', w'.ownsRow base 72 2 v' (n + m) (xs ++ news) → w.grownBy w' v.ownBlock → (v'.ownBlock = v.ownBlock ∨ v'.ownBlock = some w.heap.size) → wpList Try.prog ops Q rest (a.put o.dst v') w') : wpList Try.prog ops Q (o :: rest) a w := by
  obtain ⟨i, hi, hz0, hz1, hz2⟩ := info_parts info_gate
  exact wpList_append_at hgd s x 24 ho base 72 i _ 2 16 Try.underlying24 hi hz0 hz1 hz2 rfl (by decide) v n xs hs hown sv m news hx hr h1 (by unfold maxLen; omega) (by omega) hbase h
theorem plc_row_set {F n v : Nat} {keep : List Bool} {x : Nat} (hv : v < n) (hx : x = Cir.plc F keep v) : (ints (((List.range v).map (Cir.plc F keep) ++ List.replicate (n - v) 0).map Int.ofNat)).set v (.int .i64 (x : Nat)) = ints (((List.range (v + 1)).map (Cir.plc F keep) ++ List.replicate (n - (v + 1)) 0).map Int.ofNat) := by
  subst hx
  have e : List.replicate (n - v) 0 = 0 :: List.replicate (n - (v + 1)) 0 := by
    rw [show n - v = (n - (v + 1)) + 1 from by omega, List.replicate_succ]
  rw [e, List.range_succ]
  unfold ints
  rw [List.map_append, List.map_append, List.set_append_right _ _ (by simp)]
  simp
theorem plc_row_zero {F n v : Nat} {keep : List Bool} (hv : v < n) (hx : Cir.plc F keep v = 0) : ((List.range v).map (Cir.plc F keep) ++ List.replicate (n - v) 0) = ((List.range (v + 1)).map (Cir.plc F keep) ++ List.replicate (n - (v + 1)) 0) := by
  have e : List.replicate (n - v) 0 = 0 :: List.replicate (n - (v + 1)) 0 := by
    rw [show n - v = (n - (v + 1)) + 1 from by omega, List.replicate_succ]
  rw [e, List.range_succ]
  simp [hx]
theorem pruned_any (g : Nat) (d : Ci) (w : World) (h : PCirc w g (Cir.toCz d)) (hd : Cir.Ok d) :
    Calls Try.prog 93 #[.pointer (some ⟨g, 0, none⟩)] w fun e w' => (∃ v, e = .returned v ∧ CircOwn 0 w' v (Cir.toCz (Cir.prune d (Cir.reached d)))) ∧ Below w.heap.size w w' := by
  have s1 := hd.ins
  have s2 := hd.nexts
  have s3 := hd.gatess
  have s4 := hd.outss
  have Hp := Lib.hid h
  have Hd := Lib.hid hd
  obtain ⟨n, hn⟩ : ∃ n, n = Cir.nvars d := ⟨_, rfl⟩
  have hnf : Cir.nfirst d ≤ 8 := by unfold Cir.nfirst; omega
  have hnn : n = Cir.nfirst d + d.gates.length := hn
  have hnu : n ≤ 22 := by omega
  have HRe : Hid (∀ w', Below w.heap.size w w' → Calls Try.prog 90 #[.pointer (some ⟨g, 0, none⟩)] w' (OwnBools (Cir.reached d) w')) := Lib.hid fun w' hb => reached_any g d w' (Hp.out.below hb) hd
  have HPf : Hid (∀ w', Below w.heap.size w w' → Calls Try.prog 61 #[.pointer (some ⟨g, 0, none⟩)] w' fun e w'' => e = .returned (.int .i64 (Cir.nfirst d : Nat)) ∧ Below w'.heap.size w' w'') := Lib.hid fun w' hb => by
    have := firstGate_any g _ w' (Hp.out.below hb) (by show (0 : Int) ≤ (d.ins : Int); omega) (by show (d.ins : Int) ≤ 100; omega) (by show (List.map _ _).length ≤ 100; rw [List.length_map]; omega)
    rwa [Cir.first_toCz] at this
  have HVa : Hid (∀ w', Below w.heap.size w w' → Calls Try.prog 67 #[.pointer (some ⟨g, 0, none⟩)] w' fun e w'' => e = .returned (.int .i64 (n : Nat)) ∧ Below w'.heap.size w' w'') := Lib.hid fun w' hb => by
    have := vars_any g _ w' (Hp.out.below hb) (by show (0 : Int) ≤ (d.ins : Int); omega) (by show (d.ins : Int) ≤ 100; omega) (by show (List.map _ _).length ≤ 100; rw [List.length_map]; omega) (by show (List.map _ _).length ≤ 100; rw [List.length_map]; omega)
    rwa [Cir.vars_toCz, ← hn] at this
  have hRl := Cir.reached_length d
  rw [← hn] at hRl
  have HN : Hid ((∀ l ∈ d.next, l < 2 * n) ∧ (∀ x ∈ d.gates, x.1 < 2 * n ∧ x.2 < 2 * n) ∧ ∀ l ∈ d.outs, l < 2 * n) := Lib.hid ⟨fun l hl => by rw [hn]; exact hd.next l hl, fun x hx => by
    obtain ⟨k, hk, rfl⟩ := List.mem_iff_getElem.1 hx
    have := hd.gate k _ (List.getElem?_eq_getElem hk)
    omega, fun l hl => by rw [hn]; exact hd.out l hl⟩
  have HRes : Hid (Cir.prune d (Cir.reached d) = { ins := d.ins, next := d.next.map (Cir.useP (Cir.nfirst d) (Cir.reached d)), gates := Cir.keptG (Cir.nfirst d) (Cir.reached d) d.gates d.gates.length, outs := d.outs.map (Cir.useP (Cir.nfirst d) (Cir.reached d)) }) := Lib.hid rfl
  generalize Cir.reached d = keep at *
  have hF0 := Cir.nfirst_pos d
  generalize Cir.nfirst d = F at *
  have Hnn := Lib.hid hnn
  have hFn : F ≤ n := by omega
  have hmk := run_make_row' (P := Try.prog) 23 3 (.int .i64 0) 8 Try.underlying23 info_int rfl .i64 .i64 n (by omega) (by omega)
  have hbR := bel_new w (.cells #[.int .i64 0, .slice none 0 0, .slice none 0 0, .slice none 0 0] 26)
  have hR0 := heap_alloc_new w (.cells #[.int .i64 0, .slice none 0 0, .slice none 0 0, .slice none 0 0] 26)
  have hzR : (w.alloc (.cells #[.int .i64 0, .slice none 0 0, .slice none 0 0, .slice none 0 0] 26)).heap.size = w.heap.size + 1 := by simp
  clear h hd hn hnn
  go_enter Try.func93, Try.ntmps93
  go_wp2_with fail
  generalize w.alloc (.cells #[.int .i64 0, .slice none 0 0, .slice none 0 0, .slice none 0 0] 26) = W0 at *
  obtain ⟨gR, hgR⟩ : ∃ gR, gR = w.heap.size := ⟨_, rfl⟩
  rw [← hgR] at hR0 ⊢
  rw [hgR]
  refine (HRe.out W0 hbR).mono ?_
  rw [← hgR]
  rintro e w1 ⟨vk, rfl, hok, hb1⟩
  have hwR : w.heap.size ≤ gR := by omega
  have hwz : w.heap.size ≤ W0.heap.size := by omega
  have hgRz : gR < W0.heap.size := by omega
  rw [hRl] at hok
  obtain ⟨gk, ck, hvk, hgk1, hgk2, -, -⟩ := own_open hok (by omega)
  subst hvk
  have HB1 := Lib.hid (hbR.trans (hb1.mono hwz))
  have hR1 := (hb1.block gR hgRz).trans hR0
  have Hok := Lib.hid hok
  have hz1 := hb1.size
  have Hkl := Lib.hid hRl
  clear hb1 hbR hR0 hok hgR hzR HRe hRl
  go_wp2_with fail
  refine (HVa.out w1 HB1.out).mono ?_
  rintro e w2 ⟨rfl, hb2⟩
  have hO0 : (w2.alloc (.cells (madeCells #[Value.int .i64 0] n) 3)).ownsRow w2.heap.size 3 1 (.slice (some ⟨w2.heap.size, 0, none⟩) n n) n (ints (((List.range 0).map (Cir.plc F keep) ++ List.replicate (n - 0) 0).map Int.ofNat)) := by
    have h := World.ownsRow_lit (base := w2.heap.size) (e := 3) (size := 1) w2 (madeCells #[Value.int .i64 0] n) n (Nat.le_refl _) (by unfold maxLen; omega) (by simp [madeCells])
    have e : (madeCells #[Value.int .i64 0] n).toList = ints (((List.range 0).map (Cir.plc F keep) ++ List.replicate (n - 0) 0).map Int.ofNat) := by simp [madeCells, ints, Nat.mod_one, List.map_const']
    rwa [e] at h
  have hb3 := bel_new w2 (.cells (madeCells #[Value.int .i64 0] n) 3)
  have hb4 := bel_new (w2.alloc (.cells (madeCells #[Value.int .i64 0] n) 3)) (.cells #[.slice (some ⟨w2.heap.size, 0, none⟩) n n] 23)
  have hk4 := heap_alloc_new (w2.alloc (.cells (madeCells #[Value.int .i64 0] n) 3)) (.cells #[.slice (some ⟨w2.heap.size, 0, none⟩) n n] 23)
  have hz4 : (w2.alloc (.cells (madeCells #[Value.int .i64 0] n) 3)).heap.size = w2.heap.size + 1 := by simp
  have hO4 := own_below hO0 hb4
  have hB4 := HB1.out.trans ((hb2.trans (hb3.mono hb2.size)).trans (hb4.mono (by have := hb2.size; omega)) |>.mono HB1.out.size)
  have hB14 : Below w1.heap.size w1 ((w2.alloc (.cells (madeCells #[Value.int .i64 0] n) 3)).alloc (.cells #[.slice (some ⟨w2.heap.size, 0, none⟩) n n] 23)) := (hb2.trans (hb3.mono hb2.size)).trans (hb4.mono (by have := hb2.size; omega))
  have hR4 := (hB14.block gR (by omega)).trans hR1
  have Hok4 := Lib.hid (own_below Hok.out hB14)
  rw [hz4] at hk4
  have hz2 := hb2.size
  have hz5 : ((w2.alloc (.cells (madeCells #[Value.int .i64 0] n) 3)).alloc (.cells #[.slice (some ⟨w2.heap.size, 0, none⟩) n n] 23)).heap.size = w2.heap.size + 1 + 1 := by simp
  go_wp2_with fail
  generalize (w2.alloc (.cells (madeCells #[Value.int .i64 0] n) 3)).alloc (.cells #[.slice (some ⟨w2.heap.size, 0, none⟩) n n] 23) = W4 at *
  obtain ⟨gp, hgp⟩ : ∃ gp, gp = w2.heap.size := ⟨_, rfl⟩
  obtain ⟨g4, hg4⟩ : ∃ g4, g4 = w2.heap.size + 1 := ⟨_, rfl⟩
  rw [← hg4] at hk4
  rw [← hgp] at hk4 hO4
  rw [← hg4, ← hgp]
  have hgpz : gk < gp := by omega
  have hgR0 : gR < gk := by omega
  have hg4p : gp < g4 := by omega
  have hw4 : w.heap.size ≤ gp := by omega
  have hg4z : g4 < W4.heap.size := by omega
  refine (HPf.out W4 hB4).mono ?_
  rintro e w5 ⟨rfl, hb5⟩
  have HB5 := Lib.hid (hB4.trans (hb5.mono hB4.size))
  have HO5 := Lib.hid (own_below hO4 hb5)
  have Hok5 := Lib.hid (own_below Hok4.out hb5)
  have HK5 := Lib.hid ((hb5.block g4 hg4z).trans hk4)
  have HR5 := Lib.hid ((hb5.block gR (by omega)).trans hR4)
  clear hb2 hb3 hb4 hO0 hk4 hz4 hO4 hB4 hB14 hR4 hz5 hb5 hmk hR1 hgp hg4 Hok4 HVa Hok HB1 hg4z
  have q4 := blk_cell HK5.out 0
  simp at q4
  clear hz2
  go_wp2_with fail
  clear q4
  go_loopw [5, 20] (fun x i wr => ∃ (v y : Nat), v ≤ n ∧ i = .int .i64 v ∧ x = .int .i64 y ∧ Hid (y = F + (Cir.keptI F keep (v - F)).length) ∧ Hid (wr.ownsRow gp 3 1 (.slice (some ⟨gp, 0, none⟩) n n) n (ints (((List.range v).map (Cir.plc F keep) ++ List.replicate (n - v) 0).map Int.ofNat))) ∧ Hid (wr.heap[g4]? = some (.cells #[.slice (some ⟨gp, 0, none⟩) n n] 23 (0, 0))) ∧ Hid (wr.heap[gR]? = some (.cells #[.int .i64 0, .slice none 0 0, .slice none 0 0, .slice none 0 0] 26 (0, 0))) ∧ Hid (wr.ownsRow W0.heap.size 4 1 (.slice (some ⟨gk, 0, none⟩) n ck) n (bools keep)) ∧ Hid (Below w.heap.size w wr)) (fun _ i _ => n - (intOf i).toNat)
  case atStart => exact ⟨0, F, Nat.zero_le _, rfl, rfl, Lib.hid (by simp [Cir.keptI]), HO5, HK5, HR5, Hok5, HB5⟩
  case round =>
    obtain ⟨v, y, hv, rfl, rfl, HY, HO, HK, HR, Hok, Hb⟩ := hrel
    clear HO5 HK5 HR5 Hok5 HB5
    have hgRz := blk_ltB HR.out
    have hg4z := blk_ltB HK.out
    by_cases hlt : v < n
    · have hkl := Cir.keptI_le F keep (v - F)
      have hyb : y ≤ 60 := by have := HY.out; omega
      clear hkl
      go_wp2_with fail
      refine (HPf.out wr Hb.out).mono ?_
      rintro e w9 ⟨rfl, hb9⟩
      have Hb9 := Lib.hid (Hb.out.trans (hb9.mono Hb.out.size))
      have HO9 := Lib.hid (own_below HO.out hb9)
      have HK9 := Lib.hid ((hb9.block g4 hg4z).trans HK.out)
      have HR9 := Lib.hid ((hb9.block gR hgRz).trans HR.out)
      have Hok9 := Lib.hid (own_below Hok.out hb9)
      have hz9 := Hb9.out.size
      have q4 := blk_cell HK9.out 0
      simp at q4
      obtain ⟨u0, _, hd0, hf0⟩ := own_slot HO9.out (j := v) (by omega)
      clear HO HK HR Hok Hb hb9
      by_cases hvF : v < F
      · have hst := HO9.out.stored v (.int .i64 (v : Nat))
        have Hst := Lib.hid hst
        have hp : v = Cir.plc F keep v := by unfold Cir.plc; rw [if_pos hvF]
        have Hset := Lib.hid (plc_row_set hlt hp)
        have HY2 : Hid (y = F + (Cir.keptI F keep (v + 1 - F)).length) := Lib.hid (by rw [HY.out, show v + 1 - F = v - F from by omega])
        clear hst hp
        go_wp2_with fail
        go_roundw
        case rel => exact ⟨v + 1, y, by omega, by go_num, rfl, HY2, Lib.hid (by rw [← Hset.out]; exact Hst.out.1), Lib.hid ((heap_setCell_other' _ _ _ _ _ (by omega)).trans HK9.out), Lib.hid ((heap_setCell_other' _ _ _ _ _ (by omega)).trans HR9.out), Lib.hid (own_setN Hok9.out (fun e => by have := Option.some.inj e; simp only at this; omega)), Lib.hid (Hb9.out.setCell hw4 _)⟩
        case measure => simp [intOf]; omega
      · have hsk : (bools keep)[v]? = some (.bool (keep.getD v false)) := by
          have := Hkl.out
          unfold bools
          rw [List.getElem?_map, List.getElem?_eq_getElem (by omega), List.getD_eq_getElem?_getD, List.getElem?_eq_getElem (by omega)]
          rfl
        obtain ⟨u1, hu1, hd1, hf1⟩ := own_slot Hok9.out (j := v) (by omega)
        obtain rfl : u1 = .bool (keep.getD v false) := Option.some.inj (hu1.symm.trans hsk)
        have hs := Cir.keptI_succ F keep (v - F)
        rw [show F + (v - F) = v from by omega, show v - F + 1 = v + 1 - F from by omega] at hs
        clear hu1 hf1 hsk
        cases hfl : keep.getD v false
        · rw [hfl] at hd1 hs
          have hp : Cir.plc F keep v = 0 := by unfold Cir.plc; rw [if_neg hvF, hfl]; rfl
          have Hset := Lib.hid (plc_row_zero hlt hp)
          have HY2 : Hid (y = F + (Cir.keptI F keep (v + 1 - F)).length) := Lib.hid (by rw [HY.out, hs]; simp)
          clear hp hs hfl
          go_wp2_with fail
          go_roundw
          case rel => exact ⟨v + 1, y, by omega, by go_num, rfl, HY2, Lib.hid (by rw [← Hset.out]; exact HO9.out), HK9, HR9, Hok9, Hb9⟩
          case measure => simp [intOf]; omega
        · rw [hfl] at hd1 hs
          have hp : y = Cir.plc F keep v := by unfold Cir.plc; rw [if_neg hvF, hfl, if_pos rfl, HY.out]
          have hst := HO9.out.stored v (.int .i64 (y : Nat))
          have Hst := Lib.hid hst
          have Hset := Lib.hid (plc_row_set hlt hp)
          have HY2 : Hid (y + 1 = F + (Cir.keptI F keep (v + 1 - F)).length) := Lib.hid (by rw [HY.out, hs]; simp; omega)
          have hwy := IntWalk.i64_in ((y : Int) + 1) (by omega)
          clear hst hp hs hfl
          go_wp2_with fail
          go_roundw
          case rel => exact ⟨v + 1, y + 1, by omega, by go_num, by go_num, HY2, Lib.hid (by rw [← Hset.out]; exact Hst.out.1), Lib.hid ((heap_setCell_other' _ _ _ _ _ (by omega)).trans HK9.out), Lib.hid ((heap_setCell_other' _ _ _ _ _ (by omega)).trans HR9.out), Lib.hid (own_setN Hok9.out (fun e => by have := Option.some.inj e; simp only at this; omega)), Lib.hid (Hb9.out.setCell hw4 _)⟩
          case measure => simp [intOf]; omega
    · obtain rfl : v = n := by omega
      have HO' : Hid (IntsAt wr (.slice (some ⟨gp, 0, none⟩) v v) (((List.range v).map (Cir.plc F keep)).map Int.ofNat)) := Lib.hid (by
        have h := HO.out
        rw [Nat.sub_self, List.replicate_zero, List.append_nil] at h
        unfold IntsAt
        rw [List.length_map, List.length_map, List.length_range]
        exact Row.of_own h)
      have hpl : ∀ x ∈ (List.range v).map (Cir.plc F keep), x ≤ 1000000 := fun x hx => by
        obtain ⟨i, hi, rfl⟩ := List.mem_map.1 hx
        have hi' := List.mem_range.1 hi
        have := Cir.keptI_le F keep (i - F)
        unfold Cir.plc
        split
        · omega
        · split <;> omega
      have HC := Lib.hid (replaced_any g (2 * v) d 108 #[.pointer (some ⟨g4, 0, none⟩)] (Cir.useP F keep) wr (Hp.out.below Hb.out) (by omega) (by omega) (by omega) HN.out.1 HN.out.2.1 HN.out.2.2 (fun vs w' => by kernel_rfl) (fun w' hb l hl => by
        have hc := pruneUse_any g4 l ((List.range v).map (Cir.plc F keep)) (.slice (some ⟨gp, 0, none⟩) v v) w' ((hb.cell (p := ⟨g4, 0, none⟩) hg4z).trans (blk_cell HK.out 0)) (Row.below HO'.out hb) (by rw [List.length_map, List.length_range]; omega) (by omega) hpl
        have he : 2 * ((List.range v).map (Cir.plc F keep)).getD (l / 2) 0 + l % 2 = Cir.useP F keep l := by
          unfold Cir.useP
          rw [List.getD_eq_getElem?_getD, List.getElem?_map, List.getElem?_range (by omega)]
          rfl
        rw [he] at hc
        exact hc))
      have q4 := blk_cell HK.out 0
      clear hlt HO HO' hpl
      go_wp2_with fail
      refine HC.out.mono ?_
      rintro e w6 ⟨⟨v6, rfl, vn', vg', vo', e6, h1, h2, h3⟩, hb6⟩
      subst e6
      obtain ⟨A1, c1', hv1⟩ := slice_of_own h1
      obtain ⟨A2, c2', hv2⟩ := slice_of_own h2
      obtain ⟨A3, c3', hv3⟩ := slice_of_own h3
      subst hv1 hv2 hv3
      have hlm : (Cir.toCz (mapC (Cir.useP F keep) d)).next.length = d.next.length ∧ (Cir.toCz (mapC (Cir.useP F keep) d)).gates.length = d.gates.length ∧ (Cir.toCz (mapC (Cir.useP F keep) d)).outs.length = d.outs.length := ⟨by simp [Cir.toCz, mapC], by simp [Cir.toCz, mapC], by simp [Cir.toCz, mapC]⟩
      rw [hlm.1] at h1 ⊢
      rw [hlm.2.1] at h2 ⊢
      rw [hlm.2.2] at h3 ⊢
      have hIe : (Cir.toCz (mapC (Cir.useP F keep) d)).ins = (Cir.toCz d).ins := rfl
      rw [hIe]
      clear hIe hlm HC q4
      go_wp2_with fail
      have hX7 := heap_alloc_new w6 (.cells #[.int .i64 (Cir.toCz d).ins, .slice A1 d.next.length c1', .slice none 0 0, .slice A3 d.outs.length c3'] 26)
      have hb7 := bel_new w6 (.cells #[.int .i64 (Cir.toCz d).ins, .slice A1 d.next.length c1', .slice none 0 0, .slice A3 d.outs.length c3'] 26)
      have hz7 : (w6.alloc (.cells #[.int .i64 (Cir.toCz d).ins, .slice A1 d.next.length c1', .slice none 0 0, .slice A3 d.outs.length c3'] 26)).heap.size = w6.heap.size + 1 := by simp
      have hb67 := hb6.trans (hb7.mono hb6.size)
      have hz6 := hb6.size
      have hR7 := (hb67.block gR hgRz).trans HR.out
      have Hok7 := Lib.hid (own_below Hok.out hb67)
      have hl1 : ∀ g, (Value.slice A1 d.next.length c1').ownBlock = some g → g < w6.heap.size := fun g hg => (h1.lt g hg).2
      have hl2 : ∀ g, (Value.slice A2 d.gates.length c2').ownBlock = some g → g < w6.heap.size := fun g hg => (h2.lt g hg).2
      have hl3 : ∀ g, (Value.slice A3 d.outs.length c3').ownBlock = some g → g < w6.heap.size := fun g hg => (h3.lt g hg).2
      have HO1 := Lib.hid (own_below h1 hb7)
      have HO2 := Lib.hid (own_below h2 hb7)
      have HO3 := Lib.hid (own_below h3 hb7)
      have HB7 := Lib.hid (Hb.out.trans (hb67.mono Hb.out.size))
      generalize w6.alloc (.cells #[.int .i64 (Cir.toCz d).ins, .slice A1 d.next.length c1', .slice none 0 0, .slice A3 d.outs.length c3'] 26) = W7 at *
      obtain ⟨g7, hg7⟩ : ∃ g7, g7 = w6.heap.size := ⟨_, rfl⟩
      obtain ⟨B6, hB6⟩ : ∃ B6, B6 = wr.heap.size := ⟨_, rfl⟩
      rw [← hg7] at hX7 hl1 hl2 hl3 hz7 ⊢
      rw [← hB6] at HO1 HO2 HO3
      have HL := Lib.hid (And.intro hl1 (And.intro hl2 hl3))
      have hgR7 : gR < g7 := by omega
      have hgk7 : gk < g7 := by omega
      have hw7 : w.heap.size ≤ g7 := by omega
      have hz8 : g7 + 1 ≤ W7.heap.size := by omega
      have HX7 := Lib.hid hX7
      have HR7 := Lib.hid hR7
      have HGs : Hid (ngates (d.gates.map fun g => (Cir.useP F keep g.1, Cir.useP F keep g.2)) = cubes (Cir.toCz (mapC (Cir.useP F keep) d)).gates ∧ (Cir.toCz (mapC (Cir.useP F keep) d)).gates.length = d.gates.length) := Lib.hid ⟨rfl, by simp [Cir.toCz, mapC]⟩
      clear hX7 hb7 hz7 hb67 hz6 hR7 hl1 hl2 hl3 h1 h2 h3 hb6 hg7 hB6 HR HK Hok Hb
      go_loopw [52] (fun i wr => ∃ (k kk : Nat) (v2 : Value), k ≤ d.gates.length ∧ i = .int .i64 k ∧ kk ≤ k ∧ Hid (kk = (Cir.keptI F keep k).length) ∧ Hid (wr.heap[g7]? = some (.cells #[.int .i64 (Cir.toCz d).ins, .slice A1 d.next.length c1', v2, .slice A3 d.outs.length c3'] 26 (0, 0))) ∧ Hid (wr.heap[gR]? = some (.cells #[.int .i64 0, .slice none 0 0, .slice none 0 0, .slice none 0 0] 26 (0, 0))) ∧ Hid (wr.ownsRow B6 3 1 (.slice A1 d.next.length c1') d.next.length (ints (Cir.toCz (mapC (Cir.useP F keep) d)).next)) ∧ Hid (wr.ownsRow B6 72 2 (.slice A2 d.gates.length c2') d.gates.length (cubes (Cir.toCz (mapC (Cir.useP F keep) d)).gates)) ∧ Hid (wr.ownsRow B6 3 1 (.slice A3 d.outs.length c3') d.outs.length (ints (Cir.toCz (mapC (Cir.useP F keep) d)).outs)) ∧ Hid (wr.ownsRow W0.heap.size 4 1 (.slice (some ⟨gk, 0, none⟩) v ck) v (bools keep)) ∧ Hid (wr.ownsRow (g7 + 1) 72 2 v2 kk (ngates (Cir.keptG F keep d.gates k))) ∧ g7 + 1 ≤ wr.heap.size ∧ Hid (Below w.heap.size w wr)) (fun i _ => d.gates.length - (intOf i).toNat)
      case atStart => exact ⟨0, 0, .slice none 0 0, Nat.zero_le _, rfl, Nat.le_refl _, Lib.hid rfl, HX7, HR7, HO1, HO2, HO3, Hok7, Lib.hid (World.ownsRow_nil _ _ _ _), hz8, HB7⟩
      case round =>
        obtain ⟨k, kk, v2, hk, rfl, hkk, HKK, HX, HR, HP1, HP2, HP3, Hok, HG, hzr, Hb⟩ := hrel
        clear HX7 HR7 HO1 HO2 HO3 Hok7 HB7
        have hgRz := blk_ltB HR.out
        have hg7z := blk_ltB HX.out
        by_cases hlt : k < d.gates.length
        · obtain ⟨b, o, x, hA2, hbl, hx, hs1, hs2⟩ := cubes_open (Row.of_own HP2.out) (Below.refl _ _) HGs.out.2.symm (i := k) (by rw [HGs.out.2]; exact hlt)
          subst hA2
          obtain ⟨gt, hgt⟩ := at_some hlt
          have hxe : x = (((Cir.useP F keep gt.1 : Nat) : Int), ((Cir.useP F keep gt.2 : Nat) : Int)) := by
            have h1 := hx.out
            unfold Cir.toCz mapC at h1
            simp only [List.getElem?_map, hgt] at h1
            exact (Option.some.inj h1).symm
          subst hxe
          have hgD : d.gates.getD k (0, 0) = gt := by rw [List.getD_eq_getElem?_getD, hgt, Option.getD_some]
          have hsu := Cir.keptI_succ F keep k
          have HG1 : Hid (keep.getD (F + k) false = true → (Cir.keptI F keep (k + 1)).length = (Cir.keptI F keep k).length + 1 ∧ ngates (Cir.keptG F keep d.gates (k + 1)) = ngates (Cir.keptG F keep d.gates k) ++ [.int .i64 (Cir.useP F keep gt.1 : Nat), .int .i64 (Cir.useP F keep gt.2 : Nat)]) := Lib.hid fun h => by
            unfold Cir.keptG
            rw [hsu, if_pos h]
            unfold ngates cubes
            simp only [List.length_append, List.length_singleton, List.map_append, List.map_cons, List.map_nil, List.flatMap_append, List.flatMap_cons, List.flatMap_nil, hgD]
            exact ⟨trivial, rfl⟩
          have HG0 : Hid (keep.getD (F + k) false = false → (Cir.keptI F keep (k + 1)).length = (Cir.keptI F keep k).length ∧ ngates (Cir.keptG F keep d.gates (k + 1)) = ngates (Cir.keptG F keep d.gates k)) := Lib.hid fun h => by
            unfold Cir.keptG
            rw [hsu, if_neg (by rw [h]; simp), List.append_nil]
            exact ⟨rfl, rfl⟩
          generalize hcs : ngates (Cir.keptG F keep d.gates k) = cs at *
          generalize Cir.useP F keep gt.1 = x1 at *
          generalize Cir.useP F keep gt.2 = x2 at *
          have hba := bel_new wr (.cells #[.int .i64 (x1 : Int), .int .i64 (x2 : Int)] 72)
          have hg9 := heap_alloc_new wr (.cells #[.int .i64 (x1 : Int), .int .i64 (x2 : Int)] 72)
          have hza : (wr.alloc (.cells #[.int .i64 (x1 : Int), .int .i64 (x2 : Int)] 72)).heap.size = wr.heap.size + 1 := by simp
          have hBa := Hb.out.trans (hba.mono Hb.out.size)
          clear hx hgt hcs hgD hsu hbl
          go_wp2_with fail
          refine (HPf.out _ hBa).mono ?_
          rintro e w9 ⟨rfl, hb9⟩
          have hb19 := hba.trans (hb9.mono (by omega))
          obtain ⟨gx, hgx⟩ : ∃ gx, gx = wr.heap.size := ⟨_, rfl⟩
          have hg99 := (hb9.block wr.heap.size (by omega)).trans hg9
          rw [← hgx] at hg99 ⊢
          have k0 := blk_cell hg99 0
          have k1 := blk_cell hg99 1
          simp at k0 k1
          have HXa := Lib.hid ((hb19.block g7 hg7z).trans HX.out)
          have HRa := Lib.hid ((hb19.block gR hgRz).trans HR.out)
          have HP1a := Lib.hid (own_below HP1.out hb19)
          have HP2a := Lib.hid (own_below HP2.out hb19)
          have HP3a := Lib.hid (own_below HP3.out hb19)
          have Hoka := Lib.hid (own_below Hok.out hb19)
          have HGa := Lib.hid (own_below HG.out hb19)
          have HBa := Lib.hid (Hb.out.trans (hb19.mono Hb.out.size))
          have hz9 := hb19.size
          have hFk : F + k < v := by have := Hnn.out; omega
          have hsk : (bools keep)[F + k]? = some (.bool (keep.getD (F + k) false)) := by
            have := Hkl.out
            unfold bools
            rw [List.getElem?_map, List.getElem?_eq_getElem (by omega), List.getD_eq_getElem?_getD, List.getElem?_eq_getElem (by omega)]
            rfl
          obtain ⟨u1, hu1, hd1, hf1⟩ := own_slot Hoka.out (j := F + k) (by omega)
          obtain rfl : u1 = .bool (keep.getD (F + k) false) := Option.some.inj (hu1.symm.trans hsk)
          have hix : ((F : Int) + (k : Int)).toNat = F + k := by omega
          have hwk : IntKind.i64.wrap ((F : Int) + (k : Int)) = (F : Int) + (k : Int) := IntWalk.i64_in _ (by omega)
          clear hu1 hf1 hsk hs1 hs2 hba hg9 hza hBa hb9 hb19 hgx hg99 HX HR HP1 HP2 HP3 Hok HG Hb
          cases hfl : keep.getD (F + k) false
          · rw [hfl] at hd1
            have HG0' := Lib.hid (HG0.out hfl)
            clear HG0 HG1 hfl
            go_wp2_with fail
            go_roundw
            case rel => exact ⟨k + 1, kk, v2, by omega, by go_num, by omega, Lib.hid (by rw [HG0'.out.1]; exact HKK.out), HXa, HRa, HP1a, HP2a, HP3a, Hoka, Lib.hid (by rw [HG0'.out.2]; exact HGa.out), by omega, HBa⟩
            case measure => simp [intOf]; omega
          · rw [hfl] at hd1
            have HG1' := Lib.hid (HG1.out hfl)
            clear HG0 HG1 hfl
            have q2 := blk_cell HXa.out 2
            simp at q2
            have hg7a := blk_ltB HXa.out
            have hgRa := blk_ltB HRa.out
            have hbl := bel_new w9 (.cells #[.int .i64 (x1 : Int), .int .i64 (x2 : Int)] 72)
            have hzl : (w9.alloc (.cells #[.int .i64 (x1 : Int), .int .i64 (x2 : Int)] 72)).heap.size = w9.heap.size + 1 := by simp
            have Hlit := Lib.hid (Row.of_own (World.ownsRow_lit (base := w9.heap.size) (e := 72) (size := 2) w9 #[.int .i64 (x1 : Int), .int .i64 (x2 : Int)] 1 (Nat.le_refl _) (by unfold maxLen; omega) rfl))
            have HGl := Lib.hid (own_below HGa.out hbl)
            have HXl := Lib.hid ((hbl.block g7 hg7a).trans HXa.out)
            have HRl := Lib.hid ((hbl.block gR hgRa).trans HRa.out)
            have HP1l := Lib.hid (own_below HP1a.out hbl)
            have HP2l := Lib.hid (own_below HP2a.out hbl)
            have HP3l := Lib.hid (own_below HP3a.out hbl)
            have Hokl := Lib.hid (own_below Hoka.out hbl)
            have HBl := Lib.hid (HBa.out.trans (hbl.mono HBa.out.size))
            have hlt2 : ∀ g, v2.ownBlock = some g → g7 + 1 ≤ g := fun g hg => (HGa.out.lt g hg).1
            have hne : ¬ (v2.ownBlock = some g7) := fun e => by have := hlt2 g7 e; omega
            have hneR : ¬ (v2.ownBlock = some gR) := fun e => by have := hlt2 gR e; omega
            have Hlt2 := Lib.hid hlt2
            clear HXa HRa HP1a HP2a HP3a Hoka HGa hbl hlt2
            go_wp2_with (at_builtin; refine append_gatesO rfl (.tmp 65) (.tmp 67) rfl (g7 + 1) v2 kk cs rfl HGl.out _ 1 [.int .i64 (x1 : Int), .int .i64 (x2 : Int)] rfl Hlit.out (by simp [Value.oneCell']) (by omega) (by omega) ?_; intro v4 w4 hown4 hg4 hat4; obtain ⟨A9, c9, hv9⟩ := slice_of_own hown4; subst hv9; have O9 := Only.grown (E := fun g => v2.ownBlock = some g) hg4 (fun k hk => hk); have hx9 := (O9.block g7 (by omega) hne).trans HXl.out; have q9 := blk_cell hx9 2; have f9 := blk_free hx9 2; have Hown4 := Lib.hid hown4; have HO9 := Lib.hid O9; have Hx9 := Lib.hid hx9; clear hown4 hg4 hat4 hx9 O9)
            have Hx10 := Lib.hid (heap_setCell_same w4 g7 2 _ _ (.slice A9 (kk + 1) c9) Hx9.out)
            have HR9 := Lib.hid ((HO9.out.block gR (by omega) hneR).trans HRl.out)
            have HB9 := Lib.hid (Only.below HBl.out HO9.out HBl.out.size (fun q hq => by have := Hlt2.out q hq; omega))
            have hz4 := HO9.out.size
            go_roundw
            case rel => exact ⟨k + 1, kk + 1, _, by omega, by go_num, by omega, Lib.hid (by rw [HG1'.out.1, ← HKK.out]), Lib.hid (by have h := Hx10.out; simp at h; exact h), Lib.hid ((heap_setCell_other' _ _ _ _ _ (by omega)).trans HR9.out), Lib.hid (own_setN (own_only HP1l.out HO9.out (fun g hg e => by have h1 := HL.out.1 g hg; have h2 := Hlt2.out g e; omega)) (fun e => by have := HL.out.1 _ e; omega)), Lib.hid (own_setN (own_only HP2l.out HO9.out (fun g hg e => by have h1 := HL.out.2.1 g hg; have h2 := Hlt2.out g e; omega)) (fun e => by have := HL.out.2.1 _ e; omega)), Lib.hid (own_setN (own_only HP3l.out HO9.out (fun g hg e => by have h1 := HL.out.2.2 g hg; have h2 := Hlt2.out g e; omega)) (fun e => by have := HL.out.2.2 _ e; omega)), Lib.hid (own_setN (own_only Hokl.out HO9.out (fun g hg e => by have h1 := Option.some.inj hg; simp only at h1; have h2 := Hlt2.out g e; omega)) (fun e => by have := Option.some.inj e; simp only at this; omega)), Lib.hid (by rw [HG1'.out.2]; exact own_setB Hown4.out (by omega)), by simp; omega, Lib.hid (HB9.out.setCell hw7 _)⟩
            case measure => simp [intOf]; omega
        · obtain rfl : k = d.gates.length := by omega
          obtain ⟨A9, c9, hv9⟩ := slice_of_own HG.out
          subst hv9
          have q0 := blk_cell HX.out 0
          have q1 := blk_cell HX.out 1
          have q2 := blk_cell HX.out 2
          have q3 := blk_cell HX.out 3
          have r0 := blk_cell HR.out 0
          have r1 := blk_cell HR.out 1
          have r2 := blk_cell HR.out 2
          have r3 := blk_cell HR.out 3
          have f0 := blk_free HR.out 0
          have f1 := blk_free HR.out 1
          have f2 := blk_free HR.out 2
          have f3 := blk_free HR.out 3
          have n1 : (Value.slice A1 d.next.length c1').ownBlock ≠ some gR := fun e => own_ne_tag HP1.out HR.out (by decide) e
          have n3 : (Value.slice A3 d.outs.length c3').ownBlock ≠ some gR := fun e => own_ne_tag HP3.out HR.out (by decide) e
          have n9 : (Value.slice A9 kk c9).ownBlock ≠ some gR := fun e => by have := (HG.out.lt gR e).1; omega
          have N1 := Lib.hid (And.intro n1 (And.intro n3 n9))
          have hkk2 := HKK.out
          have hlm : Hid ((Cir.toCz (Cir.prune d keep)).next.length = d.next.length ∧ (Cir.toCz (Cir.prune d keep)).gates.length = kk ∧ (Cir.toCz (Cir.prune d keep)).outs.length = d.outs.length) := Lib.hid ⟨by rw [HRes.out]; simp [Cir.toCz], by rw [HRes.out, hkk2]; simp [Cir.toCz, Cir.keptG_len], by rw [HRes.out]; simp [Cir.toCz]⟩
          clear n1 n3 n9 hlt hkk2 HX
          go_wp2_with fail
          refine bodyPost_ret (v := .agg #[.int .i64 (Cir.toCz d).ins, .slice A1 d.next.length c1', .slice A9 kk c9, .slice A3 d.outs.length c3']) (by simp [results, Try.results93, go_sem, r0, r1, r2, r3]) rfl ⟨⟨_, rfl, _, _, _, by rw [HRes.out]; rfl, ?_, ?_, ?_⟩, ?_⟩
          · have h := own_setN (i := 3) (u := .slice A3 d.outs.length c3') (own_setN (i := 2) (u := .slice A9 kk c9) (own_setN (i := 1) (u := .slice A1 d.next.length c1') (own_setN (i := 0) (u := .int .i64 (Cir.toCz d).ins) HP1.out N1.out.1) N1.out.1) N1.out.1) N1.out.1
            rw [hlm.out.1, HRes.out]
            exact own_mono h (Nat.zero_le _)
          · have h := own_setN (i := 3) (u := .slice A3 d.outs.length c3') (own_setN (i := 2) (u := .slice A9 kk c9) (own_setN (i := 1) (u := .slice A1 d.next.length c1') (own_setN (i := 0) (u := .int .i64 (Cir.toCz d).ins) HG.out N1.out.2.2) N1.out.2.2) N1.out.2.2) N1.out.2.2
            rw [hlm.out.2.1, HRes.out]
            exact own_mono h (Nat.zero_le _)
          · have h := own_setN (i := 3) (u := .slice A3 d.outs.length c3') (own_setN (i := 2) (u := .slice A9 kk c9) (own_setN (i := 1) (u := .slice A1 d.next.length c1') (own_setN (i := 0) (u := .int .i64 (Cir.toCz d).ins) HP3.out N1.out.2.1) N1.out.2.1) N1.out.2.1) N1.out.2.1
            rw [hlm.out.2.2, HRes.out]
            exact own_mono h (Nat.zero_le _)
          · exact (((Hb.out.setCell hwR _).setCell hwR _).setCell hwR _).setCell hwR _
end Go.Proofs.Ytdgminjbgjbamaa
namespace Go.Proofs.Ytdgminjbgjbamaa
open Go.RowKit Go.Maps
section
variable {S : RS} {Fin : List Ty → Prop} {o : Oper} {l : List Oper} {i : Nat} {τs : List Ty}
theorem rs_callW (hd : i = S.d) {R0 R1 : World → Prop} (hJ : S.J = JStep R0 R1) (hrd : S.rd = none) (T : Ty) (hT : Stb S.E T) (f : FuncId) (args : Array Operand) (at_ : Array TypeId) (ho : o.op = .call { callee := .value (.func f), args := args, argTypes := at_ })
    (h : ∀ ρ w, Only S.E S.w0 w → R0 w → Known S.ops (tys τs) S.a0 ρ w i (.func f :: args.toList) → ∃ vs, (execOp ρ o).run S.P w = .ok (.enter f vs) w ∧ Calls S.P f vs w fun e w' => ∃ v, e = .returned v ∧ T w' v ∧ R1 w' ∧ Only S.E w w')
    (rest : RSeq S Fin l (i + 1) (T :: τs)) : RSeq S Fin (o :: l) i τs := by
  intro _
  refine ⟨T, hT, fun k ov ρ w hk hI hov hK => ?_, rest⟩
  obtain rfl := hov (by rw [hd]; exact ancB_self _ _ _)
  have h0 : R0 w := by have := hI.2.2; rw [hJ] at this; exact this
  have he : o.op.operands.toList = .func f :: args.toList := by rw [ho]; simp [Op.operands, Call.operands]
  rw [he] at hK
  obtain ⟨vs, h1, h2⟩ := h ρ w hI.2.1 h0 hK
  unfold Good
  rw [h1]
  refine h2.mono ?_
  rintro e w' ⟨v, rfl, h3, h4, h5⟩
  refine ⟨h3, ⟨?_, hI.2.1.trans h5, ?_⟩, h5⟩
  · rw [hrd]; trivial
  · rw [if_pos hd, hJ]
    exact h4
end
def TBld (B0 F : Nat) : Ty := fun w v => ∃ b E B, v = .pointer (some ⟨b, 0, none⟩) ∧ B0 ≤ B ∧ BldAt B b F [] E w
theorem stb_bld (B0 F : Nat) : Stb (fun _ => False) (TBld B0 F) := fun _ _ _ ⟨b, E, B, h1, h2, h3⟩ ho => ⟨b, E, B, h1, h2, h3.below (only_below ho)⟩
theorem optimize_any (g : Nat) (d : Ci) (w : World) (h : PCirc w g (Cir.toCz d)) (hd : Cir.Ok d) :
    Calls Try.prog 43 #[.pointer (some ⟨g, 0, none⟩)] w fun e w' => (∃ v, e = .returned v ∧ CircOwn 0 w' v (Cir.toCz (Cir.optI d))) ∧ Below w.heap.size w w' := by
  have s1 := hd.ins
  have s2 := hd.nexts
  have s3 := hd.gatess
  have s4 := hd.outss
  have Hp := Lib.hid h
  have Hd := Lib.hid hd
  have hcl := Cir.reached_closed hd
  have hIn : ∀ k, k ≤ d.gates.length → (Cir.optGo (Cir.nfirst d) (Cir.reached d) d.gates k).2.length = Cir.nfirst d + k ∧ (Cir.optGo (Cir.nfirst d) (Cir.reached d) d.gates k).1.length ≤ k ∧ ∀ l ∈ (Cir.optGo (Cir.nfirst d) (Cir.reached d) d.gates k).2, l < 2 * (Cir.nfirst d + (Cir.optGo (Cir.nfirst d) (Cir.reached d) d.gates k).1.length) := fun k hk => ⟨(Cir.opt_inv hd hcl k hk).len, (Cir.opt_inv hd hcl k hk).glen, (Cir.opt_inv hd hcl k hk).lt⟩
  have HIn := Lib.hid hIn
  obtain ⟨n, hn⟩ : ∃ n, n = Cir.nvars d := ⟨_, rfl⟩
  have hnf : Cir.nfirst d ≤ 8 := by unfold Cir.nfirst; omega
  have hnn : n = Cir.nfirst d + d.gates.length := hn
  have hnu : n ≤ 22 := by omega
  have hFe : 1 + d.ins + d.next.length = Cir.nfirst d := rfl
  have HRe : Hid (∀ w', Below w.heap.size w w' → Calls Try.prog 90 #[.pointer (some ⟨g, 0, none⟩)] w' (OwnBools (Cir.reached d) w')) := Lib.hid fun w' hb => reached_any g d w' (Hp.out.below hb) hd
  have HOl : Hid (∀ w', Below w.heap.size w w' → Calls Try.prog 91 #[.pointer (some ⟨g, 0, none⟩)] w' (OwnInts ((Cir.ownL (Cir.nfirst d)).map Int.ofNat) w')) := Lib.hid fun w' hb => ownLits_any g d w' (Hp.out.below hb) hd
  have HPf : Hid (∀ w', Below w.heap.size w w' → Calls Try.prog 61 #[.pointer (some ⟨g, 0, none⟩)] w' fun e w'' => e = .returned (.int .i64 (Cir.nfirst d : Nat)) ∧ Below w'.heap.size w' w'') := Lib.hid fun w' hb => by
    have := firstGate_any g _ w' (Hp.out.below hb) (by show (0 : Int) ≤ (d.ins : Int); omega) (by show (d.ins : Int) ≤ 100; omega) (by show (List.map _ _).length ≤ 100; rw [List.length_map]; omega)
    rwa [Cir.first_toCz] at this
  have HNb : Hid (∀ w', Calls Try.prog 71 #[.int .i64 (d.ins : Int), .int .i64 (d.next.length : Int)] w' fun e w'' => ∃ b E, e = .returned (.pointer (some ⟨b, 0, none⟩)) ∧ BldAt w'.heap.size b (Cir.nfirst d) [] E w'' ∧ Below w'.heap.size w' w'') := Lib.hid fun w' => by
    have := newBld_any d.ins d.next.length w' (by omega) (by omega)
    rwa [hFe] at this
  have hRl := Cir.reached_length d
  rw [← hn] at hRl
  have HRes : Hid (Cir.optI d = Cir.prune (Cir.built d (Cir.reached d)) (Cir.reached (Cir.built d (Cir.reached d)))) := Lib.hid rfl
  have HOkB := Lib.hid (Cir.built_ok hd hcl)
  have HBe : Hid (Cir.built d (Cir.reached d) = ⟨d.ins, d.next.map (Cir.useX (Cir.optGo (Cir.nfirst d) (Cir.reached d) d.gates d.gates.length).2), (Cir.optGo (Cir.nfirst d) (Cir.reached d) d.gates d.gates.length).1.reverse, d.outs.map (Cir.useX (Cir.optGo (Cir.nfirst d) (Cir.reached d) d.gates d.gates.length).2)⟩) := Lib.hid rfl
  have HN : Hid ((∀ l ∈ d.next, l < 2 * n) ∧ ∀ l ∈ d.outs, l < 2 * n) := Lib.hid ⟨fun l hl => by rw [hn]; exact hd.next l hl, fun l hl => by rw [hn]; exact hd.out l hl⟩
  have hF0 := Cir.nfirst_pos d
  have HGt := Lib.hid hd.gate
  have hgl : (Cir.toCz d).gates.length = d.gates.length := List.length_map _
  have hnl : (Cir.toCz d).next.length = d.next.length := List.length_map _
  generalize Cir.reached d = keep at *
  clear hIn hcl
  generalize Cir.nfirst d = F at *
  have Hnn := Lib.hid hnn
  have hFn : F ≤ n := by omega
  obtain ⟨vn, vg, vo, hg, c0, c1, c2, c3, r1, r2, r3⟩ := h
  obtain ⟨An, cn, hvn, hcn, hcmn⟩ := Row.shape r1
  rw [hnl] at hvn hcn
  subst hvn
  obtain ⟨Ag, cg, hvg, hcg, hcmg⟩ := Row.shape r2
  rw [hgl] at hvg
  subst hvg
  rw [hgl] at hcg
  have c0' : w.cell? ⟨g, 0, none⟩ = some (.int .i64 (d.ins : Int)) := c0
  have C0 := Lib.hid c0'
  have C1 := Lib.hid c1
  have C2 := Lib.hid c2
  have R2 : Hid (Row w 2 (.slice Ag d.gates.length cg) d.gates.length (cubes (Cir.toCz d).gates)) := Lib.hid (by have := r2; unfold CubesAt at this; rwa [hgl] at this)
  have Hgl := Lib.hid hgl
  have hbR := bel_new w (.cells #[.int .i64 0, .slice none 0 0, .slice none 0 0, .slice none 0 0] 26)
  have hR0 := heap_alloc_new w (.cells #[.int .i64 0, .slice none 0 0, .slice none 0 0, .slice none 0 0] 26)
  have hzR : (w.alloc (.cells #[.int .i64 0, .slice none 0 0, .slice none 0 0, .slice none 0 0] 26)).heap.size = w.heap.size + 1 := by simp
  clear hd hn hnn r1 r2 r3 c0 c0' c1 c2 c3 hnl hgl hFe
  go_enter Try.func43, Try.ntmps43
  go_wp2_with fail
  generalize w.alloc (.cells #[.int .i64 0, .slice none 0 0, .slice none 0 0, .slice none 0 0] 26) = W0 at *
  obtain ⟨gR, hgR⟩ : ∃ gR, gR = w.heap.size := ⟨_, rfl⟩
  rw [← hgR] at hR0 ⊢
  rw [hgR]
  refine (HRe.out W0 hbR).mono ?_
  rw [← hgR]
  rintro e w1 ⟨vk, rfl, hok, hb1⟩
  have hwR : w.heap.size ≤ gR := by omega
  have hwz : w.heap.size ≤ W0.heap.size := by omega
  have hgRz : gR < W0.heap.size := by omega
  rw [hRl] at hok
  obtain ⟨gk, ck, hvk, hgk1, hgk2, -, -⟩ := own_open hok (by omega)
  subst hvk
  have HB1 := Lib.hid (hbR.trans (hb1.mono hwz))
  have hR1 := (hb1.block gR hgRz).trans hR0
  have HR1 := Lib.hid hR1
  have Hok1 := Lib.hid hok
  have hz1 := hb1.size
  have Hkl := Lib.hid hRl
  clear hb1 hbR hR0 hok hgR hzR HRe hRl hR1
  go_wp2_with fail
  refine wp_region_rs (quietRS Try.prog _ w1 _) quietRS_ok (by kernel_rfl) (by kernel_rfl) (by kernel_rfl) (Nat.le_of_ble_eq_true rfl) trivial trivial ?_
  refine rs_old quietRS_ok quiet_any _ (.inl rfl) _ rfl rfl ?_
  apply rs_eq quietRS_ok quiet_any
  · intro ρ w' ho hK
    have ho : Only _ w1 w' := ho
    obtain ⟨h0, -⟩ := hK
    have h0' : ρ (.tmp 12) = _ := h0
    go_simp
    try exact rfl
  apply rs_eq quietRS_ok quiet_any
  · intro ρ w' ho hK
    have ho : Only _ w1 w' := ho
    obtain ⟨h0, -⟩ := hK
    have h0' : ρ (.tmp 13) = _ := h0
    go_simp
    try exact rfl
  apply rs_eq quietRS_ok quiet_any
  · intro ρ w' ho hK
    have ho : Only _ w1 w' := ho
    obtain ⟨h0, -⟩ := hK
    have h0' : ρ (.tmp 14) = _ := h0
    have hb := HB1.out.trans ((only_below ho).mono HB1.out.size)
    have q0 := (hb.cell (p := ⟨g, 0, none⟩) hg).trans C0.out
    have q1 := (hb.cell (p := ⟨g, 1, none⟩) hg).trans C1.out
    go_simp
    try exact rfl
  refine rs_old quietRS_ok quiet_any _ (.inl rfl) _ rfl rfl ?_
  apply rs_eq quietRS_ok quiet_any
  · intro ρ w' ho hK
    have ho : Only _ w1 w' := ho
    obtain ⟨h0, -⟩ := hK
    have h0' : ρ (.tmp 16) = _ := h0
    go_simp
    try exact rfl
  apply rs_eq quietRS_ok quiet_any
  · intro ρ w' ho hK
    have ho : Only _ w1 w' := ho
    obtain ⟨h0, -⟩ := hK
    have h0' : ρ (.tmp 17) = _ := h0
    go_simp
    try exact rfl
  apply rs_eq quietRS_ok quiet_any
  · intro ρ w' ho hK
    have ho : Only _ w1 w' := ho
    obtain ⟨h0, -⟩ := hK
    have h0' : ρ (.tmp 18) = _ := h0
    have hb := HB1.out.trans ((only_below ho).mono HB1.out.size)
    have q0 := (hb.cell (p := ⟨g, 0, none⟩) hg).trans C0.out
    have q1 := (hb.cell (p := ⟨g, 1, none⟩) hg).trans C1.out
    go_simp
    try exact rfl
  apply rs_eq quietRS_ok quiet_any
  · intro ρ w' ho hK
    have ho : Only _ w1 w' := ho
    obtain ⟨h0, -⟩ := hK
    have h0' : ρ (.tmp 19) = _ := h0
    go_simp
    try exact rfl
  refine rs_call quietRS_ok quiet_any (TBld w1.heap.size F) (stb_bld _ _) 71 _ _ rfl (fun ρ w' ho hK => by
    have ho : Only _ w1 w' := ho
    obtain ⟨h0, h1, h2, -⟩ := hK
    have h0' : ρ (.func 71) = .func (.func 71) #[] #[] := h0
    have h1' : ρ (.tmp 15) = _ := h1
    have h2' : ρ (.tmp 20) = _ := h2
    refine ⟨#[ρ (.tmp 15), ρ (.tmp 20)], ?_, ?_⟩
    · go_simp
    · rw [h1', h2']
      refine (HNb.out w').mono ?_
      rintro e w2 ⟨b, E, rfl, hB, hb⟩
      exact ⟨_, rfl, ⟨b, E, _, rfl, ho.size, hB⟩, hb⟩) ?_
  refine rs_same quietRS_ok quiet_any 21 9 (.inr rfl) rfl _ rfl ?_
  intro f w9 k9 hk9 hI9 ht9 hcp9
  have E0 : f 0 = _ := ht9 0 (Nat.le_of_ble_eq_true rfl)
  conv at E0 => rhs; whnf
  have E1 : f 1 = _ := ht9 1 (Nat.le_of_ble_eq_true rfl)
  have E2 : f 2 = _ := ht9 2 (Nat.le_of_ble_eq_true rfl)
  have E3 : f 3 = _ := ht9 3 (Nat.le_of_ble_eq_true rfl)
  have E4 : f 4 = _ := ht9 4 (Nat.le_of_ble_eq_true rfl)
  conv at E4 => rhs; whnf
  have E5 : f 5 = _ := ht9 5 (Nat.le_of_ble_eq_true rfl)
  have E6 : f 6 = _ := ht9 6 (Nat.le_of_ble_eq_true rfl)
  have E7 : f 7 = _ := ht9 7 (Nat.le_of_ble_eq_true rfl)
  have E8 : f 8 = _ := ht9 8 (Nat.le_of_ble_eq_true rfl)
  have E9 : (TBld w1.heap.size F) w9 (f 9) := ht9 9 (Nat.le_of_ble_eq_true rfl)
  have E10 : (TBld w1.heap.size F) w9 (f 10) := ht9 10 (Nat.le_of_ble_eq_true rfl)
  have Ho9 : Only _ w1 w9 := hI9.2.1
  have C10 : f 10 = f 9 := (hcp9 10 _ 21 9 rfl rfl rfl rfl).2
  simp only [putAll, E0, E1, E2, E3, E4, E5, E6, E7, E8, C10, Nat.zero_add, Nat.reduceAdd, Act.put, List.setIfInBounds_toArray, List.set_cons_succ, List.set_cons_zero]
  clear E0 E1 E2 E3 E4 E5 E6 E7 E8
  clear hI9 ht9 hcp9 hk9
  generalize f 9 = r9 at *
  obtain ⟨b, E0, B, e9, hBw, hB2⟩ : ∃ b E B, r9 = .pointer (some ⟨b, 0, none⟩) ∧ w1.heap.size ≤ B ∧ BldAt B b F [] E w9 := E9
  subst e9
  obtain ⟨w2, hw2⟩ : ∃ w2, w2 = w9 := ⟨_, rfl⟩
  subst hw2
  have hb2 := only_below Ho9
  have HB2 := Lib.hid (HB1.out.trans (hb2.mono HB1.out.size))
  have HR2 := Lib.hid ((hb2.block gR (by omega)).trans HR1.out)
  have Hok2 := Lib.hid (own_below Hok1.out hb2)
  have HBl2 := Lib.hid hB2
  have hz2 := hb2.size
  clear hb2 Ho9 hB2 HB1 HR1 Hok1 C10 HNb
  go_wp2_with fail
  refine (HOl.out w2 HB2.out).mono ?_
  rintro e w3 ⟨vl, rfl, hol, hb3⟩
  have hll : ((Cir.ownL F).map Int.ofNat).length = F := by simp [Cir.ownL]
  rw [hll] at hol
  have HB3 := Lib.hid (HB2.out.trans (hb3.mono HB2.out.size))
  have hER : ∀ q, E0 q → B ≤ q ∧ q < w2.heap.size := fun q hq => by obtain ⟨_, _, _, _, h⟩ := HBl2.out; exact h.lo q hq
  have HR3 := Lib.hid ((hb3.block gR (by omega)).trans HR2.out)
  have Hok3 := Lib.hid (own_below Hok2.out hb3)
  have HBl3 := Lib.hid (HBl2.out.below hb3)
  have Hol3 : Hid (w3.ownsRow w2.heap.size 3 1 vl (F + 0) (ints ((Cir.optGo F keep d.gates 0).2.map Int.ofNat))) := Lib.hid hol
  have HA3 : Hid (∀ q, E0 q → vl.ownBlock ≠ some q) := Lib.hid fun q hq e => by have h1 := (hol.lt q e).1; have h2 := (hER q hq).2; omega
  have q2 := (HB3.out.cell (p := ⟨g, 2, none⟩) hg).trans C2.out
  have hz3 := hb3.size
  obtain ⟨BL, hBL⟩ : ∃ BL, BL = w2.heap.size := ⟨_, rfl⟩
  rw [← hBL] at Hol3
  have hBL1 : w1.heap.size ≤ BL := by omega
  have hBLz : BL ≤ w3.heap.size := by omega
  clear hb3 hER hll hol HB2 HR2 Hok2 HBl2 HOl hBL
  go_wp2_with fail
  clear q2
  have hBl3 : BldAt B b F (Cir.optGo F keep d.gates 0).1 E0 w3 := HBl3.out
  go_loopw [5, 29] (fun lv i wr => ∃ (k M : Nat) (E : Nat → Prop) (lv' : Value), lv' = lv ∧ Hid (M = F + k) ∧ k ≤ d.gates.length ∧ i = .int .i64 k ∧ Hid (BldAt B b F (Cir.optGo F keep d.gates k).1 E wr) ∧ Hid (wr.ownsRow BL 3 1 lv M (ints ((Cir.optGo F keep d.gates k).2.map Int.ofNat))) ∧ Hid (∀ q, E q → lv.ownBlock ≠ some q) ∧ Hid (wr.heap[gR]? = some (.cells #[.int .i64 0, .slice none 0 0, .slice none 0 0, .slice none 0 0] 26 (0, 0))) ∧ Hid (wr.ownsRow W0.heap.size 4 1 (.slice (some ⟨gk, 0, none⟩) n ck) n (bools keep)) ∧ BL ≤ wr.heap.size ∧ Hid (Below w.heap.size w wr)) (fun _ i _ => d.gates.length - (intOf i).toNat)
  case atStart => exact ⟨0, F, E0, vl, rfl, Lib.hid rfl, Nat.zero_le _, rfl, Lib.hid hBl3, Hol3, HA3, HR3, Hok3, hBLz, HB3⟩
  case round =>
    obtain ⟨k, M, E, lv', hlv, HM, hk, rfl, HBl, HL, HA, HR, Hok, hzr, Hb⟩ := hrel
    subst hlv
    obtain ⟨gl, cl, hvl, hgl1, hgl2, -, -⟩ := own_open HL.out (by have := HM.out; omega)
    subst hvl
    clear hBl3 HBl3 Hol3 HA3 HR3 Hok3 HB3
    have hgRz := blk_ltB HR.out
    by_cases hlt : k < d.gates.length
    · obtain ⟨bq, o, x, rfl, hbl, hx, hs1, hs2⟩ := cubes_open R2.out Hb.out Hgl.out.symm (i := k) (by rw [Hgl.out]; exact hlt)
      obtain ⟨gt, hgt⟩ := at_some hlt
      have hxe : x = ((gt.1 : Int), (gt.2 : Int)) := by
        have h1 := hx.out
        unfold Cir.toCz at h1
        simp only [List.getElem?_map, hgt] at h1
        exact (Option.some.inj h1).symm
      subst hxe
      obtain ⟨g1, g2⟩ := HGt.out k gt hgt
      have hgD : d.gates.getD k (0, 0) = gt := by rw [List.getD_eq_getElem?_getD, hgt, Option.getD_some]
      have HInk := Lib.hid (HIn.out k (by omega))
      have HSt : Hid (Cir.optGo F keep d.gates (k + 1) = if keep.getD (F + k) false then ((Cir.andB F (Cir.optGo F keep d.gates k).1 (Cir.useX (Cir.optGo F keep d.gates k).2 gt.1) (Cir.useX (Cir.optGo F keep d.gates k).2 gt.2)).2, (Cir.optGo F keep d.gates k).2 ++ [(Cir.andB F (Cir.optGo F keep d.gates k).1 (Cir.useX (Cir.optGo F keep d.gates k).2 gt.1) (Cir.useX (Cir.optGo F keep d.gates k).2 gt.2)).1]) else ((Cir.optGo F keep d.gates k).1, (Cir.optGo F keep d.gates k).2 ++ [0])) := Lib.hid (by rw [Cir.optGo]; unfold Cir.optStep; rw [hgD])
      generalize hpp : Cir.optGo F keep d.gates k = pp at *
      obtain ⟨G, m⟩ := pp
      obtain ⟨x1, hx1⟩ : ∃ x1, x1 = gt.1 := ⟨_, rfl⟩
      obtain ⟨x2, hx2⟩ : ∃ x2, x2 = gt.2 := ⟨_, rfl⟩
      rw [← hx1] at g1 HSt hs1
      rw [← hx2] at g2 HSt hs2
      have hba := bel_new wr (.cells #[.int .i64 (x1 : Int), .int .i64 (x2 : Int)] 72)
      have hg9 := heap_alloc_new wr (.cells #[.int .i64 (x1 : Int), .int .i64 (x2 : Int)] 72)
      have hza : (wr.alloc (.cells #[.int .i64 (x1 : Int), .int .i64 (x2 : Int)] 72)).heap.size = wr.heap.size + 1 := by simp
      have hBa := Hb.out.trans (hba.mono Hb.out.size)
      clear hx hgt hgD hbl hx1 hx2 hpp
      go_wp2_with fail
      refine (HPf.out _ hBa).mono ?_
      rintro e wf ⟨rfl, hb9⟩
      have hb19 := hba.trans (hb9.mono (by omega))
      obtain ⟨gx, hgx⟩ : ∃ gx, gx = wr.heap.size := ⟨_, rfl⟩
      have hg99 := (hb9.block wr.heap.size (by omega)).trans hg9
      rw [← hgx] at hg99 ⊢
      have HG9 := Lib.hid hg99
      have HRa := Lib.hid ((hb19.block gR hgRz).trans HR.out)
      have HBla := Lib.hid (HBl.out.below hb19)
      have HLa := Lib.hid (own_below HL.out hb19)
      have Hoka := Lib.hid (own_below Hok.out hb19)
      have HBa := Lib.hid (Hb.out.trans (hb19.mono Hb.out.size))
      have hz9 := hb19.size
      have hgxE : ∀ q, E q → q < gx := fun q hq => by rw [hgx]; obtain ⟨_, _, _, _, h⟩ := HBl.out; exact (h.lo q hq).2
      have HgxE := Lib.hid hgxE
      have hgxz : gx < wf.heap.size := blk_ltB hg99
      have hFk : F + k < n := by have := Hnn.out; omega
      have hsk : (bools keep)[F + k]? = some (.bool (keep.getD (F + k) false)) := by
        have := Hkl.out
        unfold bools
        rw [List.getElem?_map, List.getElem?_eq_getElem (by omega), List.getD_eq_getElem?_getD, List.getElem?_eq_getElem (by omega)]
        rfl
      obtain ⟨u1, hu1, hd1, hf1⟩ := own_slot Hoka.out (j := F + k) (by omega)
      obtain rfl : u1 = .bool (keep.getD (F + k) false) := Option.some.inj (hu1.symm.trans hsk)
      have hix : ((F : Int) + (k : Int)).toNat = F + k := by omega
      have hwk : IntKind.i64.wrap ((F : Int) + (k : Int)) = (F : Int) + (k : Int) := IntWalk.i64_in _ (by omega)
      clear hu1 hf1 hsk hs1 hs2 hba hg9 hza hBa hb9 hb19 hgx hg99 HR HBl HL Hok Hb hgxE
      cases hfl : keep.getD (F + k) false
      · rw [hfl] at hd1
        rw [hfl, if_neg (by simp)] at HSt
        have hbl := bel_new wf (.cells #[.int .i64 0] 3)
        have hzl : (wf.alloc (.cells #[.int .i64 0] 3)).heap.size = wf.heap.size + 1 := by simp
        have Hlit := Lib.hid (Row.of_own (World.ownsRow_lit (base := wf.heap.size) (e := 3) (size := 1) wf #[.int .i64 0] 1 (Nat.le_refl _) (by unfold maxLen; omega) rfl))
        have HLl := Lib.hid (own_below HLa.out hbl)
        have HBll := Lib.hid (HBla.out.below hbl)
        have HRl := Lib.hid ((hbl.block gR (blk_ltB HRa.out)).trans HRa.out)
        have Hokl := Lib.hid (own_below Hoka.out hbl)
        have HBal := Lib.hid (HBa.out.trans (hbl.mono HBa.out.size))
        generalize hcs : ints (m.map Int.ofNat) = cs at *
        have Hsn : Hid (ints (List.map Int.ofNat (m ++ [0])) = cs ++ [Value.int .i64 0]) := Lib.hid (by rw [← hcs]; unfold ints; rw [List.map_append, List.map_append]; rfl)
        clear hbl hfl HRa HBla HLa Hoka hcs
        go_wp2_with (at_builtin; refine append_ints rfl (.tmp 63) (.tmp 65) rfl BL (.slice (some ⟨gl, 0, none⟩) M cl) M cs rfl HLl.out _ 1 [.int .i64 0] rfl Hlit.out (by simp [Value.oneCell']) (by have := HM.out; omega) (by omega) ?_; intro v4 w4 hown4 hg4 hat4; have Hown4 := Lib.hid hown4; have Hg4 := Lib.hid hg4; have Hat4 := Lib.hid hat4; clear hown4 hg4 hat4)
        have O9 : Only (fun q => (Value.slice (some ⟨gl, 0, none⟩) M cl).ownBlock = some q) _ w4 := Only.grown Hg4.out (fun k hk => hk)
        have hO9 := Lib.hid O9
        have hz4 := O9.size
        clear O9
        go_roundw
        case rel => exact ⟨k + 1, M + 1, E, v4, rfl, Lib.hid (by rw [HM.out]; omega), by omega, by go_num, Lib.hid (by rw [HSt.out]; exact HBll.out.only hO9.out (fun q hq e => HA.out q hq e)), Lib.hid (by rw [HSt.out]; show w4.ownsRow BL 3 1 v4 (M + 1) (ints ((m ++ [0]).map Int.ofNat)); rw [Hsn.out]; exact Hown4.out), Lib.hid (fun q hq e => by
          have h1 := HgxE.out q hq
          rcases Hat4.out with h2 | h2
          · exact HA.out q hq (by rw [← h2]; exact e)
          · rw [h2] at e; have e' := Option.some.inj e; omega), Lib.hid ((hO9.out.block gR (by have := blk_ltB HRl.out; omega) (fun e => by have := Option.some.inj e; simp only at this; omega)).trans HRl.out), Lib.hid (own_only Hokl.out hO9.out (fun q hq e => by have h1 := Option.some.inj hq; have h2 := Option.some.inj e; simp only at h1 h2; omega)), by omega, Lib.hid (Only.below HBal.out hO9.out HBal.out.size (fun q hq => by have := Option.some.inj hq; simp only at this; omega))⟩
        case measure => simp [intOf]; omega
      · rw [hfl] at hd1
        rw [hfl, if_pos rfl] at HSt
        have hml : m.length = F + k := HInk.out.1
        have hGl : G.length ≤ k := HInk.out.2.1
        have y1b := Cir.useX_lt (show 0 < F + G.length by omega) HInk.out.2.2 x1
        have y2b := Cir.useX_lt (show 0 < F + G.length by omega) HInk.out.2.2 x2
        have t1 := tdiv_two x1
        have t2 := tdiv_two x2
        have a1 := and_one_nat x1 (by omega)
        have a2 := and_one_nat x2 (by omega)
        have hmv : ∀ l ∈ m, l ≤ 1000 := fun l hl => by have : l < 2 * (F + G.length) := HInk.out.2.2 l hl; omega
        have m1b := getD_le hmv (x1 / 2)
        have m2b := getD_le hmv (x2 / 2)
        have e1 := i64_xor_nat (m.getD (x1 / 2) 0) (x1 % 2) (by omega) (by omega)
        have e2 := i64_xor_nat (m.getD (x2 / 2) 0) (x2 % 2) (by omega) (by omega)
        have hMk := HM.out
        have q1b : x1 / 2 < M := by omega
        have q2b : x2 / 2 < M := by omega
        have hc1 : (ints (m.map Int.ofNat))[x1 / 2]? = some (.int .i64 ((m.getD (x1 / 2) 0 : Nat) : Int)) := by
          unfold ints
          rw [List.getElem?_map, List.getElem?_map, List.getElem?_eq_getElem (by omega), List.getD_eq_getElem?_getD, List.getElem?_eq_getElem (by omega)]
          rfl
        have hc2 : (ints (m.map Int.ofNat))[x2 / 2]? = some (.int .i64 ((m.getD (x2 / 2) 0 : Nat) : Int)) := by
          unfold ints
          rw [List.getElem?_map, List.getElem?_map, List.getElem?_eq_getElem (by omega), List.getD_eq_getElem?_getD, List.getElem?_eq_getElem (by omega)]
          rfl
        obtain ⟨u2, hu2, hd2, -⟩ := own_slot HLa.out (j := x1 / 2) (by omega)
        obtain rfl : u2 = _ := Option.some.inj (hu2.symm.trans hc1)
        obtain ⟨u3, hu3, hd3, -⟩ := own_slot HLa.out (j := x2 / 2) (by omega)
        obtain rfl : u3 = _ := Option.some.inj (hu3.symm.trans hc2)
        have hU1 : m.getD (x1 / 2) 0 ^^^ (x1 % 2) = Cir.useX m x1 := rfl
        have hU2 : m.getD (x2 / 2) 0 ^^^ (x2 % 2) = Cir.useX m x2 := rfl
        rw [hU1] at e1
        rw [hU2] at e2
        clear hu2 hu3 hc1 hc2 hU1 hU2 hmv
        generalize Cir.useX m x1 = y1 at *
        generalize Cir.useX m x2 = y2 at *
        generalize m.getD (x1 / 2) 0 = m1 at *
        generalize m.getD (x2 / 2) 0 = m2 at *
        have hwq1 : IntKind.i64.wrap ((x1 / 2 : Nat) : Int) = ((x1 / 2 : Nat) : Int) := IntWalk.i64_in _ (by omega)
        have hwq2 : IntKind.i64.wrap ((x2 / 2 : Nat) : Int) = ((x2 / 2 : Nat) : Int) := IntWalk.i64_in _ (by omega)
        generalize x1 / 2 = p1 at *
        generalize x2 / 2 = p2 at *
        generalize x1 % 2 = r1 at *
        generalize x2 % 2 = r2 at *
        have hn1 : ¬ E gx := fun e => by have := HgxE.out gx e; omega
        have hn2 : ¬ E gl := fun e => HA.out gl e rfl
        have hgl3 : gl < wf.heap.size := by omega
        have HAB := Lib.hid (Cir.andB_len F G y1 y2)
        have Hml := Lib.hid hml
        generalize hAB : Cir.andB F G y1 y2 = ab at *
        have HabE := Lib.hid hAB
        obtain ⟨r, G2⟩ := ab
        clear hfl hAB hml hMk
        go_wp2_with fail
        have hOk := fun ops a => stepRS_ok (Pg := Try.prog) (ops := ops) (w := wf) (a := a) (E := E) (R0 := fun w' => BldAt B b F G E w') (R1 := fun w' => ∃ E', BldAt B b F G2 E' w' ∧ (∀ q, E' q → E q ∨ wf.heap.size ≤ q) ∧ ∀ q, E q → E' q) (d := 21) (fun q hq => by have := HgxE.out q hq; omega) (fun w1 w2 h hb => h.below hb) (fun w1 w2 ⟨E', h1, h2, h3⟩ hb => ⟨E', h1.below hb, h2, h3⟩)
        refine wp_region_rs (stepRS Try.prog _ wf _ E _ _ 21) (hOk _ _) (by kernel_rfl) (by kernel_rfl) (by kernel_rfl) (Nat.le_of_ble_eq_true rfl) trivial HBla.out ?_
        refine rs_old (hOk _ _) (.inl (Nat.ne_of_beq_eq_false rfl)) _ (.inl rfl) _ rfl rfl ?_
        refine rs_old (hOk _ _) (.inl (Nat.ne_of_beq_eq_false rfl)) _ (.inl rfl) _ rfl rfl ?_
        apply rs_eq (hOk _ _) (.inl (Nat.ne_of_beq_eq_false rfl))
        · intro ρ w' ho hK
          have ho : Only _ wf w' := ho
          obtain ⟨h0, -⟩ := hK
          have h0' : ρ (.tmp 7) = _ := h0
          go_simp
          try exact rfl
        apply rs_eq (hOk _ _) (.inl (Nat.ne_of_beq_eq_false rfl))
        · intro ρ w' ho hK
          have ho : Only _ wf w' := ho
          obtain ⟨h0, -⟩ := hK
          have h0' : ρ (.tmp 43) = _ := h0
          have k0 := cell_on ho hn1 hgxz (blk_cell HG9.out 0)
          have k1 := cell_on ho hn1 hgxz (blk_cell HG9.out 1)
          have l1 := cell_on ho hn2 hgl3 hd2
          have l2 := cell_on ho hn2 hgl3 hd3
          go_simp
          try exact rfl
        apply rs_eq (hOk _ _) (.inl (Nat.ne_of_beq_eq_false rfl))
        · intro ρ w' ho hK
          have ho : Only _ wf w' := ho
          obtain ⟨h0, h1, -⟩ := hK
          have h0' : ρ (.tmp 44) = _ := h0
          have h1' : ρ (.const (Value.int IntKind.i64 2)) = (Value.int IntKind.i64 2) := h1
          go_simp
          try exact rfl
        apply rs_eq (hOk _ _) (.inl (Nat.ne_of_beq_eq_false rfl))
        · intro ρ w' ho hK
          have ho : Only _ wf w' := ho
          obtain ⟨h0, h1, -⟩ := hK
          have h0' : ρ (.tmp 42) = _ := h0
          have h1' : ρ (.tmp 45) = _ := h1
          go_simp
          try exact rfl
        apply rs_eq (hOk _ _) (.inl (Nat.ne_of_beq_eq_false rfl))
        · intro ρ w' ho hK
          have ho : Only _ wf w' := ho
          obtain ⟨h0, -⟩ := hK
          have h0' : ρ (.tmp 46) = _ := h0
          have k0 := cell_on ho hn1 hgxz (blk_cell HG9.out 0)
          have k1 := cell_on ho hn1 hgxz (blk_cell HG9.out 1)
          have l1 := cell_on ho hn2 hgl3 hd2
          have l2 := cell_on ho hn2 hgl3 hd3
          go_simp
          try exact rfl
        apply rs_eq (hOk _ _) (.inl (Nat.ne_of_beq_eq_false rfl))
        · intro ρ w' ho hK
          have ho : Only _ wf w' := ho
          obtain ⟨h0, -⟩ := hK
          have h0' : ρ (.tmp 7) = _ := h0
          go_simp
          try exact rfl
        apply rs_eq (hOk _ _) (.inl (Nat.ne_of_beq_eq_false rfl))
        · intro ρ w' ho hK
          have ho : Only _ wf w' := ho
          obtain ⟨h0, -⟩ := hK
          have h0' : ρ (.tmp 48) = _ := h0
          have k0 := cell_on ho hn1 hgxz (blk_cell HG9.out 0)
          have k1 := cell_on ho hn1 hgxz (blk_cell HG9.out 1)
          have l1 := cell_on ho hn2 hgl3 hd2
          have l2 := cell_on ho hn2 hgl3 hd3
          go_simp
          try exact rfl
        apply rs_eq (hOk _ _) (.inl (Nat.ne_of_beq_eq_false rfl))
        · intro ρ w' ho hK
          have ho : Only _ wf w' := ho
          obtain ⟨h0, h1, -⟩ := hK
          have h0' : ρ (.tmp 49) = _ := h0
          have h1' : ρ (.const (Value.int IntKind.i64 1)) = (Value.int IntKind.i64 1) := h1
          go_simp
          try exact rfl
        apply rs_eq (hOk _ _) (.inl (Nat.ne_of_beq_eq_false rfl))
        · intro ρ w' ho hK
          have ho : Only _ wf w' := ho
          obtain ⟨h0, h1, -⟩ := hK
          have h0' : ρ (.tmp 47) = _ := h0
          have h1' : ρ (.tmp 50) = _ := h1
          go_simp
          try exact rfl
        refine rs_old (hOk _ _) (.inl (Nat.ne_of_beq_eq_false rfl)) _ (.inl rfl) _ rfl rfl ?_
        apply rs_eq (hOk _ _) (.inl (Nat.ne_of_beq_eq_false rfl))
        · intro ρ w' ho hK
          have ho : Only _ wf w' := ho
          obtain ⟨h0, -⟩ := hK
          have h0' : ρ (.tmp 7) = _ := h0
          go_simp
          try exact rfl
        apply rs_eq (hOk _ _) (.inl (Nat.ne_of_beq_eq_false rfl))
        · intro ρ w' ho hK
          have ho : Only _ wf w' := ho
          obtain ⟨h0, -⟩ := hK
          have h0' : ρ (.tmp 53) = _ := h0
          have k0 := cell_on ho hn1 hgxz (blk_cell HG9.out 0)
          have k1 := cell_on ho hn1 hgxz (blk_cell HG9.out 1)
          have l1 := cell_on ho hn2 hgl3 hd2
          have l2 := cell_on ho hn2 hgl3 hd3
          go_simp
          try exact rfl
        apply rs_eq (hOk _ _) (.inl (Nat.ne_of_beq_eq_false rfl))
        · intro ρ w' ho hK
          have ho : Only _ wf w' := ho
          obtain ⟨h0, h1, -⟩ := hK
          have h0' : ρ (.tmp 54) = _ := h0
          have h1' : ρ (.const (Value.int IntKind.i64 2)) = (Value.int IntKind.i64 2) := h1
          go_simp
          try exact rfl
        apply rs_eq (hOk _ _) (.inl (Nat.ne_of_beq_eq_false rfl))
        · intro ρ w' ho hK
          have ho : Only _ wf w' := ho
          obtain ⟨h0, h1, -⟩ := hK
          have h0' : ρ (.tmp 52) = _ := h0
          have h1' : ρ (.tmp 55) = _ := h1
          go_simp
          try exact rfl
        apply rs_eq (hOk _ _) (.inl (Nat.ne_of_beq_eq_false rfl))
        · intro ρ w' ho hK
          have ho : Only _ wf w' := ho
          obtain ⟨h0, -⟩ := hK
          have h0' : ρ (.tmp 56) = _ := h0
          have k0 := cell_on ho hn1 hgxz (blk_cell HG9.out 0)
          have k1 := cell_on ho hn1 hgxz (blk_cell HG9.out 1)
          have l1 := cell_on ho hn2 hgl3 hd2
          have l2 := cell_on ho hn2 hgl3 hd3
          go_simp
          try exact rfl
        apply rs_eq (hOk _ _) (.inl (Nat.ne_of_beq_eq_false rfl))
        · intro ρ w' ho hK
          have ho : Only _ wf w' := ho
          obtain ⟨h0, -⟩ := hK
          have h0' : ρ (.tmp 7) = _ := h0
          go_simp
          try exact rfl
        apply rs_eq (hOk _ _) (.inl (Nat.ne_of_beq_eq_false rfl))
        · intro ρ w' ho hK
          have ho : Only _ wf w' := ho
          obtain ⟨h0, -⟩ := hK
          have h0' : ρ (.tmp 58) = _ := h0
          have k0 := cell_on ho hn1 hgxz (blk_cell HG9.out 0)
          have k1 := cell_on ho hn1 hgxz (blk_cell HG9.out 1)
          have l1 := cell_on ho hn2 hgl3 hd2
          have l2 := cell_on ho hn2 hgl3 hd3
          go_simp
          try exact rfl
        apply rs_eq (hOk _ _) (.inl (Nat.ne_of_beq_eq_false rfl))
        · intro ρ w' ho hK
          have ho : Only _ wf w' := ho
          obtain ⟨h0, h1, -⟩ := hK
          have h0' : ρ (.tmp 59) = _ := h0
          have h1' : ρ (.const (Value.int IntKind.i64 1)) = (Value.int IntKind.i64 1) := h1
          go_simp
          try exact rfl
        apply rs_eq (hOk _ _) (.inl (Nat.ne_of_beq_eq_false rfl))
        · intro ρ w' ho hK
          have ho : Only _ wf w' := ho
          obtain ⟨h0, h1, -⟩ := hK
          have h0' : ρ (.tmp 57) = _ := h0
          have h1' : ρ (.tmp 60) = _ := h1
          go_simp
          try exact rfl
        refine rs_callW rfl rfl rfl (TEq (.int .i64 (r : Nat))) (stb_eq _ _) 72 _ _ rfl (fun ρ w' ho hJ hK => by
          obtain ⟨hf, h0, h1, h2, -⟩ := hK
          have hf' : ρ (.func 72) = .func (.func 72) #[] #[] := hf
          have h0' : ρ (.tmp 41) = .pointer (some ⟨b, 0, none⟩) := h0
          have h1' : ρ (.tmp 51) = .int .i64 (y1 : Nat) := h1
          have h2' : ρ (.tmp 61) = .int .i64 (y2 : Nat) := h2
          refine ⟨#[.pointer (some ⟨b, 0, none⟩), .int .i64 (y1 : Nat), .int .i64 (y2 : Nat)], ?_, ?_⟩
          · go_simp
          · refine (and_any y1 y2 w' hJ (by omega) (by omega) y1b y2b).mono ?_
            rw [HabE.out]
            rintro e w2 ⟨rfl, E', hB', n', i', o'⟩
            exact ⟨_, rfl, rfl, ⟨E', hB', fun q hq => (n' q hq).imp id (fun h => Nat.le_trans ho.size h), i'⟩, o'⟩) ?_
        refine rs_same (hOk _ _) (.inl (Nat.ne_of_beq_eq_false rfl)) 62 21 (.inr rfl) rfl _ rfl ?_
        intro f w9 k9 hk9 hI9 ht9 hcp9
        have E0 : f 0 = _ := ht9 0 (Nat.le_of_ble_eq_true rfl)
        conv at E0 => rhs; whnf
        have E1 : f 1 = _ := ht9 1 (Nat.le_of_ble_eq_true rfl)
        conv at E1 => rhs; whnf
        have E2 : f 2 = _ := ht9 2 (Nat.le_of_ble_eq_true rfl)
        have E3 : f 3 = _ := ht9 3 (Nat.le_of_ble_eq_true rfl)
        have E4 : f 4 = _ := ht9 4 (Nat.le_of_ble_eq_true rfl)
        have E5 : f 5 = _ := ht9 5 (Nat.le_of_ble_eq_true rfl)
        have E6 : f 6 = _ := ht9 6 (Nat.le_of_ble_eq_true rfl)
        have E7 : f 7 = _ := ht9 7 (Nat.le_of_ble_eq_true rfl)
        have E8 : f 8 = _ := ht9 8 (Nat.le_of_ble_eq_true rfl)
        have E9 : f 9 = _ := ht9 9 (Nat.le_of_ble_eq_true rfl)
        have E10 : f 10 = _ := ht9 10 (Nat.le_of_ble_eq_true rfl)
        have E11 : f 11 = _ := ht9 11 (Nat.le_of_ble_eq_true rfl)
        conv at E11 => rhs; whnf
        have E12 : f 12 = _ := ht9 12 (Nat.le_of_ble_eq_true rfl)
        have E13 : f 13 = _ := ht9 13 (Nat.le_of_ble_eq_true rfl)
        have E14 : f 14 = _ := ht9 14 (Nat.le_of_ble_eq_true rfl)
        have E15 : f 15 = _ := ht9 15 (Nat.le_of_ble_eq_true rfl)
        have E16 : f 16 = _ := ht9 16 (Nat.le_of_ble_eq_true rfl)
        have E17 : f 17 = _ := ht9 17 (Nat.le_of_ble_eq_true rfl)
        have E18 : f 18 = _ := ht9 18 (Nat.le_of_ble_eq_true rfl)
        have E19 : f 19 = _ := ht9 19 (Nat.le_of_ble_eq_true rfl)
        have E20 : f 20 = _ := ht9 20 (Nat.le_of_ble_eq_true rfl)
        have E21 : f 21 = _ := ht9 21 (Nat.le_of_ble_eq_true rfl)
        have E22 : f 22 = _ := ht9 22 (Nat.le_of_ble_eq_true rfl)
        have Ho9 : Only _ wf w9 := hI9.2.1
        have HJ9 := hI9.2.2
        simp only [putAll, E0, E1, E2, E3, E4, E5, E6, E7, E8, E9, E10, E11, E12, E13, E14, E15, E16, E17, E18, E19, E20, E21, E22, Nat.zero_add, Nat.reduceAdd, Act.put, List.setIfInBounds_toArray, List.set_cons_succ, List.set_cons_zero]
        clear E0 E1 E2 E3 E4 E5 E6 E7 E8 E9 E10 E11 E12 E13 E14 E15 E16 E17 E18 E19 E20 E21 E22
        clear hI9 ht9 hcp9 hk9
        have Oq : Only E wf w9 := Ho9
        obtain ⟨E', hB', hn', hi'⟩ := HJ9
        have hElo : ∀ q, E q → B ≤ q := fun q hq => by obtain ⟨_, _, _, _, h⟩ := HBla.out; exact (h.lo q hq).1
        have hL9 := own_only HLa.out Oq (fun q hq e => HA.out q e hq)
        have hR9 := (Oq.block gR (by omega) (fun e => by have := hElo gR e; omega)).trans HRa.out
        have hok9 := own_only Hoka.out Oq (fun q hq e => by have h1 := Option.some.inj hq; simp only at h1; have := hElo q e; omega)
        have hB9 := Only.below HBa.out Oq HBa.out.size (fun q hq => by have := hElo q hq; omega)
        have hz10 := Oq.size
        have HE' : Hid ((∀ q, E' q → Value.ownBlock (.slice (some ⟨gl, 0, none⟩) M cl) ≠ some q) ∧ ∀ q, E' q → q < w9.heap.size) := Lib.hid ⟨fun q hq e => by
          rcases hn' q hq with h | h
          · exact HA.out q h e
          · have := Option.some.inj e; simp only at this; omega, fun q hq => by obtain ⟨_, _, _, _, h⟩ := hB'; exact (h.lo q hq).2⟩
        have hbl := bel_new w9 (.cells #[.int .i64 (r : Nat)] 3)
        have hzl : (w9.alloc (.cells #[.int .i64 (r : Nat)] 3)).heap.size = w9.heap.size + 1 := by simp
        have Hlit := Lib.hid (Row.of_own (World.ownsRow_lit (base := w9.heap.size) (e := 3) (size := 1) w9 #[.int .i64 (r : Nat)] 1 (Nat.le_refl _) (by unfold maxLen; omega) rfl))
        have HLl := Lib.hid (own_below hL9 hbl)
        have HBll := Lib.hid (hB'.below hbl)
        have HRl := Lib.hid ((hbl.block gR (blk_ltB hR9)).trans hR9)
        have Hokl := Lib.hid (own_below hok9 hbl)
        have HBal := Lib.hid (hB9.trans (hbl.mono hB9.size))
        have Hsn : Hid (ints (List.map Int.ofNat (m ++ [r])) = ints (m.map Int.ofNat) ++ [Value.int .i64 (r : Nat)]) := Lib.hid (by unfold ints; rw [List.map_append, List.map_append]; rfl)
        generalize ints (m.map Int.ofNat) = cs at *
        clear hbl HRa HBla HLa Hoka Ho9 hB' hn' hi' hL9 hR9 hok9 hB9 Oq HBa HG9 hd2 hd3 hOk
        go_wp2_with (at_builtin; refine append_ints rfl (.tmp 63) (.tmp 65) rfl BL (.slice (some ⟨gl, 0, none⟩) M cl) M cs rfl HLl.out _ 1 [.int .i64 (r : Nat)] rfl Hlit.out (by simp [Value.oneCell']) (by have := HM.out; omega) (by omega) ?_; intro v4 w4 hown4 hg4 hat4; have Hown4 := Lib.hid hown4; have Hg4 := Lib.hid hg4; have Hat4 := Lib.hid hat4; clear hown4 hg4 hat4)
        have O9 : Only (fun q => (Value.slice (some ⟨gl, 0, none⟩) M cl).ownBlock = some q) _ w4 := Only.grown Hg4.out (fun k hk => hk)
        have hO9 := Lib.hid O9
        have hz4 := O9.size
        clear O9
        go_roundw
        case rel => exact ⟨k + 1, M + 1, E', v4, rfl, Lib.hid (by rw [HM.out]; omega), by omega, by go_num, Lib.hid (by rw [HSt.out]; exact HBll.out.only hO9.out (fun q hq e => HE'.out.1 q hq e)), Lib.hid (by rw [HSt.out]; show w4.ownsRow BL 3 1 v4 (M + 1) (ints ((m ++ [r]).map Int.ofNat)); rw [Hsn.out]; exact Hown4.out), Lib.hid (fun q hq e => by
          have h1 := HE'.out.2 q hq
          rcases Hat4.out with h2 | h2
          · exact HE'.out.1 q hq (by rw [← h2]; exact e)
          · rw [h2] at e; have e' := Option.some.inj e; omega), Lib.hid ((hO9.out.block gR (by have := blk_ltB HRl.out; omega) (fun e => by have := Option.some.inj e; simp only at this; omega)).trans HRl.out), Lib.hid (own_only Hokl.out hO9.out (fun q hq e => by have h1 := Option.some.inj hq; have h2 := Option.some.inj e; simp only at h1 h2; omega)), by omega, Lib.hid (Only.below HBal.out hO9.out HBal.out.size (fun q hq => by have := Option.some.inj hq; simp only at this; omega))⟩
        case measure => simp [intOf]; omega
    · obtain rfl : k = d.gates.length := by omega
      have hInE := HIn.out _ (Nat.le_refl _)
      have hML : (Cir.optGo F keep d.gates d.gates.length).2.length = M := by rw [hInE.1, HM.out]
      have hMn : M = n := by have := HM.out; have := Hnn.out; omega
      have HLi : Hid (IntsAt wr (.slice (some ⟨gl, 0, none⟩) M cl) ((Cir.optGo F keep d.gates d.gates.length).2.map Int.ofNat)) := Lib.hid (by
        have h := Row.of_own HL.out
        unfold IntsAt
        rw [List.length_map, hML]
        exact h)
      have HCi := Lib.hid (circuit_any g d _ _ wr HBl.out (Hp.out.below Hb.out) HLi.out (by omega) (by omega) (by omega) (by have := hInE.2.1; omega) (by rw [hML, hMn]; exact HN.out.1) (by rw [hML, hMn]; exact HN.out.2) (fun x hx => by have h1 := hInE.2.2 x hx; have h2 := hInE.2.1; omega))
      rw [← HBe.out] at HCi
      clear HL HLi hlt hInE hML hMn
      go_wp2_with fail
      refine HCi.out.mono ?_
      rintro e w5 ⟨⟨v5, rfl, hC5⟩, hb5⟩
      obtain ⟨A1, c1', A2, c2', A3, c3', e5⟩ := hC5.shape
      subst e5
      have hR5 := (hb5.block gR hgRz).trans HR.out
      have hgR5 := blk_ltB hR5
      have hB5 := Hb.out.trans (hb5.mono Hb.out.size)
      obtain ⟨vn5, vg5, vo5, ev5, i1, i2, i3⟩ := hC5
      have hPB : PCirc (w5.alloc (.cells #[.int .i64 (Cir.toCz (Cir.built d keep)).ins, vn5, vg5, vo5] 26)) w5.heap.size (Cir.toCz (Cir.built d keep)) := PCirc.boxed _ i1 i2 i3
      have hba := bel_new w5 (.cells #[.int .i64 (Cir.toCz (Cir.built d keep)).ins, vn5, vg5, vo5] 26)
      injection ev5 with ev6
      simp only [Array.mk.injEq, List.cons.injEq, and_true] at ev6
      obtain ⟨-, e1, e2, e3⟩ := ev6
      subst e1 e2 e3
      have HPr := Lib.hid (pruned_any w5.heap.size (Cir.built d keep) _ hPB HOkB.out)
      rw [← HRes.out] at HPr
      have hRa := (hba.block gR hgR5).trans hR5
      have HBa := Lib.hid (hB5.trans (hba.mono hB5.size))
      have hRaz := blk_ltB hRa
      have HRa := Lib.hid hRa
      generalize (Cir.toCz (Cir.built d keep)).next.length = L1 at *
      generalize (Cir.toCz (Cir.built d keep)).gates.length = L2 at *
      generalize (Cir.toCz (Cir.built d keep)).outs.length = L3 at *
      generalize (Cir.toCz (Cir.built d keep)).ins = II at *
      clear hPB hba hB5 hR5 i1 i2 i3 hb5 HR Hb hRa HBl HA Hok HCi
      go_wp2_with fail
      refine HPr.out.mono ?_
      rintro e w7 ⟨⟨v7, rfl, vn', vg', vo', e7, h1, h2, h3⟩, hb7⟩
      subst e7
      obtain ⟨A4, c4', hv4⟩ := slice_of_own h1
      obtain ⟨A5, c5', hv5⟩ := slice_of_own h2
      obtain ⟨A6, c6', hv6⟩ := slice_of_own h3
      subst hv4 hv5 hv6
      have hR7 := (hb7.block gR hRaz).trans HRa.out
      have r0 := blk_cell hR7 0
      have r1 := blk_cell hR7 1
      have r2 := blk_cell hR7 2
      have r3 := blk_cell hR7 3
      have f0 := blk_free hR7 0
      have f1 := blk_free hR7 1
      have f2 := blk_free hR7 2
      have f3 := blk_free hR7 3
      have n1 := own_ne_tag h1 hR7 (by decide)
      have n2 := own_ne_tag h2 hR7 (by decide)
      have n3 := own_ne_tag h3 hR7 (by decide)
      have HO1 := Lib.hid h1
      have HO2 := Lib.hid h2
      have HO3 := Lib.hid h3
      have HN1 := Lib.hid (And.intro n1 (And.intro n2 n3))
      have HB7 := Lib.hid (HBa.out.trans (hb7.mono HBa.out.size))
      generalize hl1 : (Cir.toCz (Cir.optI d)).next.length = M1 at *
      generalize hl2 : (Cir.toCz (Cir.optI d)).gates.length = M2 at *
      generalize hl3 : (Cir.toCz (Cir.optI d)).outs.length = M3 at *
      generalize hl4 : (Cir.toCz (Cir.optI d)).ins = M4 at *
      have HL := Lib.hid (And.intro hl1 (And.intro hl2 (And.intro hl3 hl4)))
      clear h1 h2 h3 n1 n2 n3 hb7 hR7 hl1 hl2 hl3 hl4
      go_wp2_with fail
      refine bodyPost_ret (v := .agg #[.int .i64 M4, .slice A4 M1 c4', .slice A5 M2 c5', .slice A6 M3 c6']) (by simp [results, Try.results43, go_sem, r0, r1, r2, r3]) rfl ⟨⟨_, rfl, .slice A4 M1 c4', .slice A5 M2 c5', .slice A6 M3 c6', by rw [HL.out.2.2.2], ?_, ?_, ?_⟩, ?_⟩
      · rw [HL.out.1]
        exact own_setN (own_setN (own_setN (own_setN HO1.out HN1.out.1) HN1.out.1) HN1.out.1) HN1.out.1
      · rw [HL.out.2.1]
        exact own_setN (own_setN (own_setN (own_setN HO2.out HN1.out.2.1) HN1.out.2.1) HN1.out.2.1) HN1.out.2.1
      · rw [HL.out.2.2.1]
        exact own_setN (own_setN (own_setN (own_setN HO3.out HN1.out.2.2) HN1.out.2.2) HN1.out.2.2) HN1.out.2.2
      · exact (((HB7.out.setCell hwR _).setCell hwR _).setCell hwR _).setCell hwR _
end Go.Proofs.Ytdgminjbgjbamaa
namespace Go.Proofs.Ytdgminjbgjbamaa
namespace Cir
def memB (l : List Nat) (n : Nat) : Bool := l.contains n
def push (l : List Nat) (n : Nat) : List Nat := if l.contains n then l else l ++ [n]
def pushes (c : Ci) (s j : Nat) (l : List Nat) : List Nat := ((List.range j).map (nextOf c s)).foldl push l
def bfs (c : Ci) : Nat → Nat → List Nat → List Nat
  | 0, _, l => l
  | f + 1, k, l => match l[k]? with
    | none => l
    | some s => bfs c f (k + 1) (pushes c s (2 ^ c.ins) l)
def reach (c : Ci) : List Nat := bfs c 9 0 [0]
structure Sts (c : Ci) (l : List Nat) : Prop where
  nodup : l.Nodup
  lt : ∀ x ∈ l, x < 2 ^ c.next.length
theorem nodup_lt : ∀ (N : Nat) (l : List Nat), l.Nodup → (∀ x ∈ l, x < N) → l.length ≤ N
  | 0, l, _, h => by
    cases l with
    | nil => simp
    | cons a l => exact absurd (h a (by simp)) (by omega)
  | N + 1, l, hn, h => by
    by_cases hm : N ∈ l
    · have h1 := nodup_lt N (l.erase N) (hn.erase N) (fun x hx => by
        have h2 := (List.Nodup.mem_erase_iff hn).1 hx
        have h3 := h x h2.2
        have h4 := h2.1
        omega)
      rw [List.length_erase_of_mem hm] at h1
      omega
    · have := nodup_lt N l hn (fun x hx => by
        have h3 := h x hx
        have h4 : x ≠ N := fun e => hm (e ▸ hx)
        omega)
      omega
theorem Sts.len {c : Ci} {l : List Nat} (h : Sts c l) (hc : Ok c) : l.length ≤ 8 := by
  have h1 := nodup_lt _ l h.nodup h.lt
  have h2 : 2 ^ c.next.length ≤ 2 ^ 3 := Nat.pow_le_pow_right (show 0 < 2 by decide) hc.nexts
  omega
theorem Sts.zero (c : Ci) : Sts c [0] := ⟨by simp, fun x hx => by simp at hx; subst hx; exact Nat.pow_pos (by decide)⟩
theorem Sts.push {c : Ci} {l : List Nat} (h : Sts c l) {n : Nat} (hn : n < 2 ^ c.next.length) : Sts c (Cir.push l n) := by
  unfold Cir.push
  cases hc : l.contains n
  · refine ⟨?_, fun x hx => ?_⟩
    · simp only [Bool.false_eq_true, if_false]
      rw [List.nodup_append]
      refine ⟨h.nodup, by simp, fun a ha b hb => ?_⟩
      simp at hb
      subst hb
      rintro rfl
      have : l.contains a = true := by simpa using ha
      rw [hc] at this
      cases this
    · simp at hx
      rcases hx with hx | rfl
      · exact h.lt x hx
      · exact hn
  · simpa using h
theorem memB_snoc (l : List Nat) (n x : Nat) : memB (l ++ [n]) x = (memB l x || x == n) := by unfold memB; rw [Bool.eq_iff_iff]; simp
theorem memB_zero (x : Nat) : memB [0] x = (x == 0) := by unfold memB; rw [Bool.eq_iff_iff]; simp
theorem pushes_zero (c : Ci) (s : Nat) (l : List Nat) : pushes c s 0 l = l := rfl
theorem pushes_succ (c : Ci) (s j : Nat) (l : List Nat) : pushes c s (j + 1) l = push (pushes c s j l) (nextOf c s j) := by
  unfold pushes
  rw [List.range_succ, List.map_append, List.foldl_append]
  rfl
theorem Sts.pushes {c : Ci} {l : List Nat} (h : Sts c l) (s : Nat) : ∀ j, Sts c (Cir.pushes c s j l)
  | 0 => h
  | j + 1 => by
    rw [pushes_succ]
    exact (Sts.pushes h s j).push (nextOf_lt _ _ _)
theorem pushes_prefix (c : Ci) (s : Nat) (l : List Nat) : ∀ j, ∃ m, Cir.pushes c s j l = l ++ m
  | 0 => ⟨[], by simp [pushes_zero]⟩
  | j + 1 => by
    obtain ⟨m, hm⟩ := pushes_prefix c s l j
    rw [pushes_succ, hm]
    unfold push
    split
    · exact ⟨m, rfl⟩
    · exact ⟨m ++ [nextOf c s j], by rw [List.append_assoc]⟩
theorem pushes_get {c : Ci} {s : Nat} {l : List Nat} {j k x : Nat} (h : l[k]? = some x) : (Cir.pushes c s j l)[k]? = some x := by
  obtain ⟨m, hm⟩ := pushes_prefix c s l j
  obtain ⟨hk, _⟩ := List.getElem?_eq_some_iff.1 h
  rw [hm, List.getElem?_append_left hk, h]
end Cir
end Go.Proofs.Ytdgminjbgjbamaa
namespace Go.Proofs.Ytdgminjbgjbamaa
namespace Cir
def bad (c : Ci) (o s x : Nat) : Bool := (outsOf c s x).getD o false
def vsts (l : List (Nat × List Nat)) : List Nat := l.map (·.1)
def vpush (l : List (Nat × List Nat)) (n : Nat) (p : List Nat) : List (Nat × List Nat) := if memB (vsts l) n then l else l ++ [(n, p)]
def vpushes (c : Ci) (s : Nat) (p : List Nat) : Nat → List (Nat × List Nat) → List (Nat × List Nat)
  | 0, l => l
  | j + 1, l => vpush (vpushes c s p j l) (nextOf c s j) (p ++ [j])
def vfind (c : Ci) (o s M : Nat) : Option Nat := (List.range M).find? (bad c o s)
def vbfs (c : Ci) (o : Nat) : Nat → Nat → List (Nat × List Nat) → Option (List Nat)
  | 0, _, _ => none
  | f + 1, k, l => match l[k]? with
    | none => none
    | some (s, p) => match vfind c o s (2 ^ c.ins) with
      | some x => some (p ++ [x])
      | none => vbfs c o f (k + 1) (vpushes c s p (2 ^ c.ins) l)
def viol (c : Ci) (o : Nat) : Option (List Nat) := vbfs c o 9 0 [(0, [])]
theorem vsts_vpush (l : List (Nat × List Nat)) (n : Nat) (p : List Nat) : vsts (vpush l n p) = push (vsts l) n := by
  unfold vpush push memB
  split
  · rfl
  · unfold vsts; simp
theorem vsts_vpushes (c : Ci) (s : Nat) (p : List Nat) (l : List (Nat × List Nat)) : ∀ j, vsts (vpushes c s p j l) = pushes c s j (vsts l)
  | 0 => by rw [pushes_zero]; rfl
  | j + 1 => by rw [pushes_succ, ← vsts_vpushes c s p l j, ← vsts_vpush]; rfl
theorem vsts_get {l : List (Nat × List Nat)} {k s : Nat} {p : List Nat} (h : l[k]? = some (s, p)) : (vsts l)[k]? = some s := by
  unfold vsts; rw [List.getElem?_map, h]; rfl
theorem vsts_length (l : List (Nat × List Nat)) : (vsts l).length = l.length := by unfold vsts; simp
theorem vpush_prefix (l : List (Nat × List Nat)) (n : Nat) (p : List Nat) : ∃ m, vpush l n p = l ++ m := by
  unfold vpush
  split
  · exact ⟨[], by simp⟩
  · exact ⟨_, rfl⟩
theorem vpushes_prefix (c : Ci) (s : Nat) (p : List Nat) (l : List (Nat × List Nat)) : ∀ j, ∃ m, vpushes c s p j l = l ++ m
  | 0 => ⟨[], by simp [vpushes]⟩
  | j + 1 => by
    obtain ⟨m, hm⟩ := vpushes_prefix c s p l j
    obtain ⟨m', hm'⟩ := vpush_prefix (vpushes c s p j l) (nextOf c s j) (p ++ [j])
    exact ⟨m ++ m', by rw [vpushes, hm', hm, List.append_assoc]⟩
theorem vpushes_get {c : Ci} {s : Nat} {p : List Nat} {l : List (Nat × List Nat)} {j k : Nat} {x : Nat × List Nat} (h : l[k]? = some x) : (vpushes c s p j l)[k]? = some x := by
  obtain ⟨m, hm⟩ := vpushes_prefix c s p l j
  rw [hm, List.getElem?_append_left (List.getElem?_eq_some_iff.1 h).1, h]
structure Vs (c : Ci) (l : List (Nat × List Nat)) : Prop where
  sts : Sts c (vsts l)
  len : ∀ (k s : Nat) (p : List Nat), l[k]? = some (s, p) → p.length ≤ k
  inp : ∀ (k s : Nat) (p : List Nat), l[k]? = some (s, p) → ∀ x ∈ p, x < 2 ^ c.ins
theorem Vs.zero (c : Ci) : Vs c [(0, [])] := by
  refine ⟨Sts.zero c, fun k s p h => ?_, fun k s p h => ?_⟩
  · cases k with
    | zero => simp at h; obtain ⟨_, rfl⟩ := h; simp
    | succ k => simp at h
  · cases k with
    | zero => simp at h; obtain ⟨_, rfl⟩ := h; simp
    | succ k => simp at h
theorem Vs.push {c : Ci} {l : List (Nat × List Nat)} (h : Vs c l) {k s : Nat} {p : List Nat} (hk : l[k]? = some (s, p)) {n x : Nat} (hn : n < 2 ^ c.next.length) (hx : x < 2 ^ c.ins) : Vs c (vpush l n (p ++ [x])) := by
  refine ⟨by rw [vsts_vpush]; exact h.sts.push hn, fun k' s' p' h' => ?_, fun k' s' p' h' => ?_⟩
  all_goals
    unfold vpush at h'
    split at h'
    · first | exact h.len _ _ _ h' | exact h.inp _ _ _ h'
    · rcases Nat.lt_or_ge k' l.length with hl | hl
      · rw [List.getElem?_append_left hl] at h'
        first | exact h.len _ _ _ h' | exact h.inp _ _ _ h'
      · rw [List.getElem?_append_right hl] at h'
        have hz : k' - l.length = 0 := by
          rcases Nat.eq_zero_or_pos (k' - l.length) with hz | hz
          · exact hz
          · rw [List.getElem?_eq_none (by simp; omega)] at h'; cases h'
        rw [hz] at h'
        simp at h'
        obtain ⟨rfl, rfl⟩ := h'
        first
        | (have := h.len _ _ _ hk
           have h2 := (List.getElem?_eq_some_iff.1 hk).1
           simp
           omega)
        | (intro y hy
           rcases List.mem_append.1 hy with hy | hy
           · exact h.inp _ _ _ hk y hy
           · obtain rfl := List.mem_singleton.1 hy
             exact hx)
theorem Vs.pushes {c : Ci} {l : List (Nat × List Nat)} (h : Vs c l) {k s : Nat} {p : List Nat} (hk : l[k]? = some (s, p)) : ∀ j, j ≤ 2 ^ c.ins → Vs c (vpushes c s p j l)
  | 0, _ => h
  | j + 1, hj => (Vs.pushes h hk j (by omega)).push (vpushes_get hk) (nextOf_lt c s j) (by omega)
theorem Vs.size {c : Ci} {l : List (Nat × List Nat)} (h : Vs c l) (hc : Ok c) : l.length ≤ 8 := by
  have := h.sts.len hc
  rwa [vsts_length] at this
theorem vfind_none {c : Ci} {o s M : Nat} (h : ∀ x, x < M → bad c o s x = false) : vfind c o s M = none := by
  unfold vfind
  rw [List.find?_eq_none]
  intro x hx
  rw [h x (List.mem_range.1 hx)]
  simp
theorem find_range (p : Nat → Bool) : ∀ (M x : Nat), x < M → p x = true → (∀ y, y < x → p y = false) → (List.range M).find? p = some x
  | 0, x, h, _, _ => by omega
  | M + 1, x, h, hp, hl => by
    rw [List.range_succ, List.find?_append]
    rcases Nat.lt_or_ge x M with hx | hx
    · rw [find_range p M x hx hp hl]; rfl
    · obtain rfl : x = M := by omega
      rw [List.find?_eq_none.2 (fun y hy => by rw [hl y (List.mem_range.1 hy)]; simp)]
      simp [hp]
theorem vfind_some {c : Ci} {o s M x : Nat} (hx : x < M) (hb : bad c o s x = true) (h : ∀ y, y < x → bad c o s y = false) : vfind c o s M = some x := find_range _ M x hx hb h
theorem vbfs_hit {c : Ci} {o f k s x : Nat} {p : List Nat} {l : List (Nat × List Nat)} (hk : l[k]? = some (s, p)) (h : vfind c o s (2 ^ c.ins) = some x) : vbfs c o (f + 1) k l = some (p ++ [x]) := by
  rw [vbfs, hk]; simp only [h]
theorem vbfs_step {c : Ci} {o f k s : Nat} {p : List Nat} {l : List (Nat × List Nat)} (hk : l[k]? = some (s, p)) (h : vfind c o s (2 ^ c.ins) = none) : vbfs c o (f + 1) k l = vbfs c o f (k + 1) (vpushes c s p (2 ^ c.ins) l) := by
  rw [vbfs, hk]; simp only [h]
theorem vbfs_end {c : Ci} {o f : Nat} {l : List (Nat × List Nat)} : vbfs c o f l.length l = none := by
  cases f with
  | zero => rfl
  | succ f => rw [vbfs, List.getElem?_eq_none (Nat.le_refl _)]
theorem vpush_no {l : List (Nat × List Nat)} {n : Nat} {p : List Nat} (h : memB (vsts l) n = false) : vpush l n p = l ++ [(n, p)] := by
  unfold vpush; rw [h]; rfl
theorem vpush_yes {l : List (Nat × List Nat)} {n : Nat} {p : List Nat} (h : memB (vsts l) n = true) : vpush l n p = l := by
  unfold vpush; rw [h]; rfl
theorem vpushes_succ (c : Ci) (s : Nat) (p : List Nat) (j : Nat) (l : List (Nat × List Nat)) : vpushes c s p (j + 1) l = vpush (vpushes c s p j l) (nextOf c s j) (p ++ [j]) := rfl
structure Back (l : List (Nat × List Nat)) (from_ how : List Nat) : Prop where
  l1 : from_.length = l.length
  l2 : how.length = l.length
  zero : ∃ s, l[0]? = some (s, [])
  step : ∀ (k s : Nat) (p : List Nat), l[k]? = some (s, p) → 0 < k → ∃ i x s' p', from_[k]? = some i ∧ i < k ∧ how[k]? = some x ∧ l[i]? = some (s', p') ∧ p = p' ++ [x]
end Cir
end Go.Proofs.Ytdgminjbgjbamaa
namespace Go.Proofs.Ytdgminjbgjbamaa
namespace Cir
section
variable {c d : Ci}
end
theorem ok_valid {d : Ci} (h : Ok d) : valid (toCz d) = true := by
  unfold valid
  rw [Bool.and_eq_true, Bool.and_eq_true]
  have e1 := first_toCz d
  have e2 := vars_toCz d
  refine ⟨⟨?_, ?_⟩, ?_⟩
  · unfold sizes
    rw [decide_eq_true_eq]
    have := h.ins
    have := h.nexts
    have := h.gatess
    have := h.outss
    simp only [toCz, List.length_map]
    omega
  · rw [e1]
    have : ∀ (gs : List (Nat × Nat)) (k : Nat), (∀ i g, gs[i]? = some g → g.1 < 2 * (nfirst d + (k + i)) ∧ g.2 < 2 * (nfirst d + (k + i))) → gatesOk (nfirst d : Nat) k (gs.map fun g => ((g.1 : Int), (g.2 : Int))) = true := fun gs => by
      induction gs with
      | nil => intro k _; rfl
      | cons g gs ih =>
        intro k hg
        have h0 := hg 0 g rfl
        rw [List.map_cons, gatesOk, ih (k + 1) (fun i g' hi => by have := hg (i + 1) g' (by simpa using hi); omega)]
        unfold isLit
        rw [Bool.and_true, Bool.and_eq_true, decide_eq_true_eq, decide_eq_true_eq]
        omega
    exact this d.gates 0 fun i g hi => by have := h.gate i g hi; omega
  · rw [e2]
    refine List.all_eq_true.2 fun x hx => ?_
    have hx' : ∃ l : Nat, x = (l : Int) ∧ l < 2 * nvars d := by
      rcases List.mem_append.1 hx with hx | hx
      · obtain ⟨l, hl, rfl⟩ := List.mem_map.1 hx
        exact ⟨l, rfl, h.next l hl⟩
      · obtain ⟨l, hl, rfl⟩ := List.mem_map.1 hx
        exact ⟨l, rfl, h.out l hl⟩
    obtain ⟨l, rfl, hl⟩ := hx'
    unfold isLit
    rw [decide_eq_true_eq]
    omega
def optZ (c : Cz) : Cz := if valid c then toCz (optI (nat c)) else ⟨0, [], [], []⟩
end Cir
end Go.Proofs.Ytdgminjbgjbamaa
namespace Go.Proofs.Ytdgminjbgjbamaa
open Go.RowKit Go.Maps
theorem circOwn_four {w : World} {v : Value} {c : Cz} {gR : Nat} {u0 u1 u2 u3 : Value} {old : Array Value} (h : CircOwn 0 w v c) (hk : w.heap[gR]? = some (.cells old 26 (0, 0))) :
    CircOwn 0 ((((w.setCell ⟨gR, 0, none⟩ u0).setCell ⟨gR, 1, none⟩ u1).setCell ⟨gR, 2, none⟩ u2).setCell ⟨gR, 3, none⟩ u3) v c := by
  obtain ⟨vn, vg, vo, e, h1, h2, h3⟩ := h
  have n1 := own_ne_tag h1 hk (by decide)
  have n2 := own_ne_tag h2 hk (by decide)
  have n3 := own_ne_tag h3 hk (by decide)
  exact ⟨vn, vg, vo, e, own_setN (own_setN (own_setN (own_setN h1 n1) n1) n1) n1, own_setN (own_setN (own_setN (own_setN h2 n2) n2) n2) n2, own_setN (own_setN (own_setN (own_setN h3 n3) n3) n3) n3⟩
theorem implOpt_any (v : Value) (c : Cz) (w : World) (h : CircAt w v c) :
    Calls Try.prog 10 #[v] w fun e w' => (∃ v', e = .returned v' ∧ CircOwn 0 w' v' (Cir.optZ c)) ∧ Below w.heap.size w w' := by
  have HC := Lib.hid h
  obtain ⟨An, cn, Ag, cg, Ao, co, rfl⟩ := h.shape
  have hb0 := bel_new w (.cells #[.int .i64 c.ins, .slice An c.next.length cn, .slice Ag c.gates.length cg, .slice Ao c.outs.length co] 26)
  have hsz : (w.alloc (.cells #[.int .i64 c.ins, .slice An c.next.length cn, .slice Ag c.gates.length cg, .slice Ao c.outs.length co] 26)).heap.size = w.heap.size + 1 := by simp
  have hp0 : PCirc (w.alloc (.cells #[.int .i64 c.ins, .slice An c.next.length cn, .slice Ag c.gates.length cg, .slice Ao c.outs.length co] 26)) w.heap.size c := by
    obtain ⟨vn, vg, vo, e, i1, i2, i3⟩ := h
    injection e with e
    simp only [Array.mk.injEq, List.cons.injEq, and_true] at e
    obtain ⟨-, e1, e2, e3⟩ := e
    subst e1 e2 e3
    exact PCirc.boxed _ i1 i2 i3
  have PC := PCells.boxed w c.ins (.slice An c.next.length cn) (.slice Ag c.gates.length cg) (.slice Ao c.outs.length co) 26
  obtain ⟨W1, hW1⟩ : ∃ W1, w.alloc (.cells #[.int .i64 c.ins, .slice An c.next.length cn, .slice Ag c.gates.length cg, .slice Ao c.outs.length co] 26) = W1 := ⟨_, rfl⟩
  rw [hW1] at hb0 hsz hp0 PC
  have hb1 := bel_new W1 (.cells #[.int .i64 0, .slice none 0 0, .slice none 0 0, .slice none 0 0] 26)
  have hR1 := heap_alloc_new W1 (.cells #[.int .i64 0, .slice none 0 0, .slice none 0 0, .slice none 0 0] 26)
  have hp1 := hp0.below hb1
  have hB1 := hb0.trans (hb1.mono hb0.size)
  have hz1 : (W1.alloc (.cells #[.int .i64 0, .slice none 0 0, .slice none 0 0, .slice none 0 0] 26)).heap.size = W1.heap.size + 1 := by simp
  obtain ⟨zz, p0, p1, p2, p3⟩ := PC.below hb1
  have HC1 := Lib.hid (HC.out.below hB1)
  have Hp1 := Lib.hid hp1
  have HB1 := Lib.hid hB1
  have HR1 := Lib.hid hR1
  have hgw : W1.heap.size = w.heap.size + 1 := hsz
  clear hp0 hb0 hb1 hp1 hB1 hR1 HC h PC
  go_enter Try.func10, Try.ntmps10
  go_wp2_with fail
  generalize W1.alloc (.cells #[.int .i64 0, .slice none 0 0, .slice none 0 0, .slice none 0 0] 26) = W2 at *
  have HV := Lib.hid (implValid_any _ _ _ HC1.out)
  obtain ⟨gc, hgc⟩ : ∃ gc, gc = w.heap.size := ⟨_, rfl⟩
  obtain ⟨gR, hgR⟩ : ∃ gR, gR = w.heap.size + 1 := ⟨_, rfl⟩
  rw [← hgc] at p0 p1 p2 p3 zz Hp1
  rw [hgw, ← hgR] at HR1
  rw [← hgR, ← hgc]
  have hwR : w.heap.size ≤ gR := by omega
  have hgRz := blk_ltB HR1.out
  clear hW1 hsz hgw hgc hgR hz1
  refine HV.out.mono ?_
  rintro e w3 ⟨rfl, hb3⟩
  have Hp3 := Lib.hid (Hp1.out.below hb3)
  have HR3 := Lib.hid ((hb3.block gR hgRz).trans HR1.out)
  have HB3 := Lib.hid (HB1.out.trans (hb3.mono HB1.out.size))
  clear p0 p1 p2 p3 zz hb3 HB1 HR1 Hp1 HC1 HV
  cases hv : Cir.valid c
  · have HE : Hid (Cir.optZ c = ⟨0, [], [], []⟩) := Lib.hid (by unfold Cir.optZ; rw [hv]; rfl)
    have r0 := blk_cell HR3.out 0
    have r1 := blk_cell HR3.out 1
    have r2 := blk_cell HR3.out 2
    have r3 := blk_cell HR3.out 3
    have f0 := blk_free HR3.out 0
    have f1 := blk_free HR3.out 1
    have f2 := blk_free HR3.out 2
    have f3 := blk_free HR3.out 3
    clear hv
    go_wp2_with fail
    refine bodyPost_ret (v := .agg #[.int .i64 0, .slice none 0 0, .slice none 0 0, .slice none 0 0]) (by simp [results, Try.results10, go_sem, r0, r1, r2, r3]) rfl ⟨⟨_, rfl, ?_⟩, ?_⟩
    · rw [HE.out]
      exact ⟨_, _, _, rfl, World.ownsRow_nil _ _ _ _, World.ownsRow_nil _ _ _ _, World.ownsRow_nil _ _ _ _⟩
    · exact (((HB3.out.setCell hwR _).setCell hwR _).setCell hwR _).setCell hwR _
  · obtain ⟨hd1, hd2⟩ := Cir.nat_ok hv
    have HE : Hid (Cir.optZ c = Cir.toCz (Cir.optI (Cir.nat c))) := Lib.hid (by unfold Cir.optZ; rw [hv]; rfl)
    rw [hd1] at Hp3
    have HO := Lib.hid (optimize_any gc (Cir.nat c) w3 Hp3.out hd2)
    rw [← HE.out] at HO
    have hgR3 := blk_ltB HR3.out
    clear hd1 hd2 HE Hp3 hv
    go_wp2_with fail
    refine HO.out.mono ?_
    rintro e w4 ⟨⟨v4, rfl, hC4⟩, hb4⟩
    have hR4 := (hb4.block gR hgR3).trans HR3.out
    have HC4 := Lib.hid hC4
    have HB4 := Lib.hid (HB3.out.trans (hb4.mono HB3.out.size))
    obtain ⟨A1, c1, A2, c2, A4, c4, e6⟩ := hC4.at.shape
    subst e6
    have HR4 := Lib.hid hR4
    have r0 := blk_cell hR4 0
    have r1 := blk_cell hR4 1
    have r2 := blk_cell hR4 2
    have r3 := blk_cell hR4 3
    have f0 := blk_free hR4 0
    have f1 := blk_free hR4 1
    have f2 := blk_free hR4 2
    have f3 := blk_free hR4 3
    clear hC4 hb4 hR4 HB3 HR3 HO
    generalize hL1 : (Cir.optZ c).next.length = L1 at *
    generalize hL2 : (Cir.optZ c).gates.length = L2 at *
    generalize hL3 : (Cir.optZ c).outs.length = L3 at *
    generalize hL4 : (Cir.optZ c).ins = L4 at *
    clear hL1 hL2 hL3 hL4
    go_wp2_with fail
    refine bodyPost_ret (v := .agg #[.int .i64 L4, .slice A1 L1 c1, .slice A2 L2 c2, .slice A4 L3 c4]) (by simp [results, Try.results10, go_sem, r0, r1, r2, r3]) rfl ⟨⟨_, rfl, circOwn_four HC4.out HR4.out⟩, ?_⟩
    exact (((HB4.out.setCell hwR _).setCell hwR _).setCell hwR _).setCell hwR _
end Go.Proofs.Ytdgminjbgjbamaa
namespace Go.Proofs.Ytdgminjbgjbamaa
open Go.RowKit Go.Maps
namespace Cir
end Cir
def AndGive (I : Nat) (vn vo : Value) (r : Nat × List (Nat × Nat)) (w : World) (e : Ending) (w' : World) : Prop :=
  ∃ vg', e = .returned (.tuple #[.agg #[.int .i64 (I : Int), vn, vg', vo], .int .i64 (r.1 : Int)]) ∧ w'.ownsRow 0 72 2 vg' r.2.length (cubes (Cir.gatesOf r.2)) ∧ Below w.heap.size w w'
end Go.Proofs.Ytdgminjbgjbamaa
namespace Go.Proofs.Ytdgminjbgjbamaa
end Go.Proofs.Ytdgminjbgjbamaa
namespace Go.Proofs.Ytdgminjbgjbamaa
open Go.RowKit
theorem l3Map_any (v : Value) (l : Nat) (m : List Nat) (w : World) (hm : IntsAt w v (m.map Int.ofNat)) (hl : l / 2 < m.length) (hb : l ≤ 1000000) (hv : ∀ x ∈ m, x ≤ 1000000) :
    Calls Try.prog 65 #[v, .int .i64 (l : Int)] w fun e w' => e = .returned (.int .i64 (Cir.useX m l : Nat)) ∧ Below w.heap.size w w' := by
  obtain ⟨A, c, rfl, hc1, hcm⟩ := Row.shape hm
  rw [List.length_map] at hc1
  obtain ⟨b, o, rfl, hbl, hs⟩ := nat_cell (by have := hm; unfold IntsAt at this; rwa [List.length_map] at this) (Below.refl _ _) rfl hl
  rw [List.length_map]
  have hq := tdiv_two l
  have hr : (l : Int).tmod 2 = ((l % 2 : Nat) : Int) := by rw [Int.tmod_eq_emod_of_nonneg (by omega)]; rfl
  have hx := i64_xor_nat (m.getD (l / 2) 0) (l % 2) (by have := getD_le hv (l / 2); omega) (by omega)
  have hR : Hid (Cir.useX m l = m.getD (l / 2) 0 ^^^ (l % 2)) := Lib.hid rfl
  have hlb : l / 2 ≤ 1000000 := by omega
  have hr2 : l % 2 < 2 := by omega
  generalize l / 2 = q at *
  generalize m.getD q 0 = x at *
  generalize l % 2 = r at *
  generalize x ^^^ r = y at *
  have hwq : IntKind.i64.wrap (q : Int) = q := IntWalk.i64_in _ (by omega)
  have hwr : IntKind.i64.wrap (r : Int) = r := IntWalk.i64_in _ (by omega)
  generalize hML : m.length = ML at *
  clear hm hv
  go_enter Try.func65, Try.ntmps65
  go_wp2_with fail
  go_ret
  exact ⟨by rw [hR.out]; rfl, Below.refl _ _⟩
structure Used (d : Ci) (U : List Bool) : Prop where
  len : U.length = d.gates.length
  closed : Cir.Closed d (List.replicate (Cir.nfirst d) true ++ U)
def UsedGive (d : Ci) (w : World) (e : Ending) (w' : World) : Prop := ∃ v U, e = .returned v ∧ Used d U ∧ w'.ownsRow w.heap.size 4 1 v U.length (bools U) ∧ Below w.heap.size w w'
def Fan (F : Nat) (gs : List (Nat × Nat)) (j : Nat) (U : List Bool) : Prop := ∀ l, l = (gs.getD j (0, 0)).1 ∨ l = (gs.getD j (0, 0)).2 → F ≤ l / 2 → U.getD (l / 2 - F) false = true
end Go.Proofs.Ytdgminjbgjbamaa
namespace Go.Proofs.Ytdgminjbgjbamaa
namespace Cir
def bStep (share : Bool) (F : Nat) (keep : List Bool) (gs : List (Nat × Nat)) (k : Nat) (p : List (Nat × Nat) × List Nat) : List (Nat × Nat) × List Nat :=
  if keep.getD (F + k) false then
    (if share then ((andB F p.1 (useX p.2 (gs.getD k (0, 0)).1) (useX p.2 (gs.getD k (0, 0)).2)).2, p.2 ++ [(andB F p.1 (useX p.2 (gs.getD k (0, 0)).1) (useX p.2 (gs.getD k (0, 0)).2)).1])
    else ((useX p.2 (gs.getD k (0, 0)).1, useX p.2 (gs.getD k (0, 0)).2) :: p.1, p.2 ++ [2 * (F + p.1.length)]))
  else (p.1, p.2 ++ [0])
def bGo (share : Bool) (F : Nat) (keep : List Bool) (gs : List (Nat × Nat)) : Nat → List (Nat × Nat) × List Nat
  | 0 => ([], ownL F)
  | k + 1 => bStep share F keep gs k (bGo share F keep gs k)
def bRes (share : Bool) (c : Ci) (keep : List Bool) : Ci :=
  { ins := c.ins, next := c.next.map (useX (bGo share (nfirst c) keep c.gates c.gates.length).2), gates := (bGo share (nfirst c) keep c.gates c.gates.length).1.reverse, outs := c.outs.map (useX (bGo share (nfirst c) keep c.gates c.gates.length).2) }
structure BInv (F k : Nat) (p : List (Nat × Nat) × List Nat) : Prop where
  len : p.2.length = F + k
  glen : p.1.length ≤ k
  lt : ∀ l ∈ p.2, l < 2 * (F + p.1.length)
end Cir
end Go.Proofs.Ytdgminjbgjbamaa
namespace Go.Proofs.Ytdgminjbgjbamaa
open Go.RowKit
section
variable {P : Program} {ops : Array Oper}
end
end Go.Proofs.Ytdgminjbgjbamaa
namespace Go.Proofs.Ytdgminjbgjbamaa
open Go.RowKit
section
variable {P : Program}
end
def TLit0 (B : Nat) (e : TypeId) : Ty := fun w v => ∃ g, v = .slice (some ⟨g, 0, none⟩) 0 0 ∧ B ≤ g ∧ w.heap[g]? = some (.cells #[] e (0, 0))
section
variable {S : RS} {Fin : List Ty → Prop} {o : Oper} {l : List Oper} {i : Nat} {τs : List Ty}
end
end Go.Proofs.Ytdgminjbgjbamaa