import Derived.Test.YtmlmnelbphjfbaaS06
import Derived.Test.YtmlmnelbphjfbaaS08
import Derived.Test.YtmlmnelbphjfbaaS01
set_option linter.unusedVariables false
set_option linter.unusedSimpArgs false
namespace Go.Proofs.Ytmlmnelbphjfbaa
open Go.RowKit
set_option maxRecDepth 100000
/-! Drawn machines with inputs. -/
def DrawnRun (w : World) (e : Ending) (w' : World) : Prop := ∃ v m vi ins, e = .returned (.tuple #[v, vi]) ∧ MachAt w' v m ∧ IntsAt w' vi ins ∧ ins.length ≤ 20 ∧ Below w.heap.size w w'
set_option maxHeartbeats 8000000 in
theorem drawRun_any (v : Value) (bs : List Int) (w : World) (h : Row w 1 v bs.length (bs.map (Value.int .u8))) (hb : ∀ x ∈ bs, (Lit.int .u8 x).wf = true) (hl : bs.length ≤ 1048576) :
    Calls Try.prog 10 #[v] w (DrawnRun w) := by
  have H := Lib.hid h
  clear h
  have hX := heap_alloc_new w (.cells #[.int .i64 0, .slice none 0 0, .slice none 0 0] 25)
  have HB0 := Lib.hid (bel_new w (.cells #[.int .i64 0, .slice none 0 0, .slice none 0 0] 25))
  have hs : (w.alloc (.cells #[.int .i64 0, .slice none 0 0, .slice none 0 0] 25)).heap.size = w.heap.size + 1 := by simp
  have HX := Lib.hid hX
  clear hX
  go_enter Try.func10, Try.ntmps10
  go_wp2_with fail
  have H0 := Lib.hid (H.out.alloc (.cells #[.int .i64 0, .slice none 0 0, .slice none 0 0] 25))
  generalize w.alloc (.cells #[.int .i64 0, .slice none 0 0, .slice none 0 0] 25) = W at *
  refine (open_any _ bs _ H0.out hb hl).mono ?_
  rintro e w1 ⟨rfl, hr1, hb1⟩
  rw [hs] at hr1
  have HZ1 := Lib.hid hr1.lt
  have Hr1 := Lib.hid hr1
  have Hb1 := Lib.hid (HB0.out.trans (hb1.mono HB0.out.size))
  have HX1 := Lib.hid ((hb1.block _ (by omega)).trans HX.out)
  clear hr1 hb1 HX HB0 H H0 hb hl
  go_wp2_with fail
  refine (l20Machine_any _ 0 12 _ Hr1.out (by omega) (by omega) (by omega)).mono ?_
  rintro e w2 ⟨v2, m, rfl, hm, hr2, hg2⟩
  have HX2 := Lib.hid (res_grown HX1.out hg2 (fun e => by have := Option.some.inj e; omega))
  have Hb2 := Lib.hid (Hb1.out.grown hg2 Hb1.out.size (fun k hk => by have := Option.some.inj hk; omega))
  obtain ⟨An, cn, Ao, co, rfl, -⟩ := MachAt.shape hm.at
  have HM := Lib.hid hm
  have Hr2 := Lib.hid hr2
  have hzw : w.heap.size + 1 < w1.heap.size := by have := HZ1.out; omega
  have hz2 := hg2.size
  clear hr2 hg2 hm HX1 Hb1 Hr1
  -- the box and the empty list
  have hbx := bel_new w2 (.cells #[.int .i64 m.ins, .slice An m.next.length cn, .slice Ao m.out.length co] 25)
  have hbl := bel_new (w2.alloc (.cells #[.int .i64 m.ins, .slice An m.next.length cn, .slice Ao m.out.length co] 25)) (.cells #[] 3)
  have hs2 : (w2.alloc (.cells #[.int .i64 m.ins, .slice An m.next.length cn, .slice Ao m.out.length co] 25)).heap.size = w2.heap.size + 1 := by simp
  have PM := Lib.hid ((MCells.boxed w2 m.ins (.slice An m.next.length cn) (.slice Ao m.out.length co) 25).below hbl)
  have hI0 : Hid (((w2.alloc (.cells #[.int .i64 m.ins, .slice An m.next.length cn, .slice Ao m.out.length co] 25)).alloc (.cells #[] 3)).ownsRow (w2.heap.size + 1) 3 1 (.slice (some ⟨w2.heap.size + 1, 0, none⟩) 0 0) 0 (ints [])) := Lib.hid (by
    have := World.ownsRow_lit (base := w2.heap.size + 1) (e := 3) (size := 1) (w2.alloc (.cells #[.int .i64 m.ins, .slice An m.next.length cn, .slice Ao m.out.length co] 25)) #[] 0 (by omega) (by unfold maxLen; omega) rfl
    rwa [hs2] at this)
  have hbxl := hbx.trans (hbl.mono hbx.size)
  have HO3 := Lib.hid (Only.of_below (fun g => g = w.heap.size + 1) hbxl)
  have Hr3 := Lib.hid ((Hr2.out.alloc (.cells #[.int .i64 m.ins, .slice An m.next.length cn, .slice Ao m.out.length co] 25)).alloc (.cells #[] 3))
  have Hs3 : Hid (((w2.alloc (.cells #[.int .i64 m.ins, .slice An m.next.length cn, .slice Ao m.out.length co] 25)).alloc (.cells #[] 3)).heap.size = w2.heap.size + 2) := Lib.hid (by simp)
  clear hbx hbl hs2 hbxl Hr2
  go_wp2_with fail
  generalize (w2.alloc (.cells #[.int .i64 m.ins, .slice An m.next.length cn, .slice Ao m.out.length co] 25)).alloc (.cells #[] 3) = w3 at *
  refine (pick_any 14 _ _ _ Hr3.out (by omega) (by omega) (by omega)).mono ?_
  rintro e w4 ⟨K, hK0, hK1, rfl, hr4, hg4⟩
  obtain ⟨K, rfl⟩ := Int.eq_ofNat_of_zero_le hK0
  have Hr4 := Lib.hid hr4
  have HO4 := Lib.hid (Only.grown (E := fun g => g = w.heap.size + 1 ∨ g = w2.heap.size + 1) hg4 (fun g hg => .inl (Option.some.inj hg).symm))
  have hz3 := hg4.size
  have HI4 := Lib.hid (own_kept hI0.out hg4 (fun g hg e => by have h1 := (hI0.out.lt g hg).1; have h2 := Option.some.inj e; omega))
  obtain ⟨zm, m0, m1, m2⟩ := PM.out
  have hng : ¬ (w2.heap.size = w.heap.size + 1) := by omega
  have hog : Only (fun g => g = w.heap.size + 1) w3 w4 := Only.grown hg4 (fun g hg => (Option.some.inj hg).symm)
  have PM4 : Hid (MCells w4 w2.heap.size m.ins (.slice An m.next.length cn) (.slice Ao m.out.length co)) := Lib.hid ⟨Nat.lt_of_lt_of_le zm hog.size, cell_on hog hng zm m0, cell_on hog hng zm m1, cell_on hog hng zm m2⟩
  clear hr4 hg4 hog Hr3 hI0 hK0 PM4 zm m0 m1 m2
  obtain ⟨N, hN4, hNN⟩ : ∃ N : Nat, N ≤ 4 ∧ ((m.ins ≤ 0 ∧ N = 0) ∨ (0 < m.ins ∧ m.ins < 4 ∧ m.ins = N) ∨ (4 ≤ m.ins ∧ N = 4)) := by
    rcases Int.lt_or_le 0 m.ins with h | h
    rotate_left
    · exact ⟨0, by omega, .inl ⟨h, rfl⟩⟩
    · rcases Int.lt_or_le m.ins 4 with h2 | h2
      · exact ⟨m.ins.toNat, by omega, .inr (.inl ⟨h, h2, by omega⟩)⟩
      · exact ⟨4, by omega, .inr (.inr ⟨h2, rfl⟩)⟩
  obtain ⟨M, eM, hM⟩ : ∃ M : Nat, (2 : Int) ^ N = (M : Int) ∧ M = 2 ^ N := ⟨2 ^ N, two_pow N, rfl⟩
  have hM16 : M ≤ 16 := by rw [hM]; exact Nat.pow_le_pow_right (show 0 < 2 by decide) hN4
  have hM1 : 1 ≤ M := by rw [hM]; exact Nat.pow_pos (by decide)
  have hwM := IntWalk.i64_in (M : Int) (by omega)
  have HNN := Lib.hid hNN
  clear hM hNN
  go_wp2_with fail
  go_loopw [6, 7] (fun vi i wr => ∃ (ui : Value) (k : Nat) (xs : List Int), ui = vi ∧ i = .int .i64 k ∧ k ≤ 13 ∧ xs.length + k ≤ 13 ∧ Hid (wr.ownsRow (w2.heap.size + 1) 3 1 vi xs.length (ints xs)) ∧ Hid (Rd wr (w.heap.size + 1) (0 + 20000 + 100 + xs.length)) ∧ Hid (Only (fun g => g = w.heap.size + 1 ∨ g = w2.heap.size + 1) w3 wr)) (fun _ i _ => (intOf i).toNat)
  case atStart => exact ⟨_, K, [], rfl, rfl, by omega, by simp; omega, HI4, Lib.hid (Hr4.out.more (by simp)), HO4⟩
  case round =>
    obtain ⟨ui, k, xs, hui, rfl, hk, hxk, Hi, Hr, HO⟩ := hrel
    subst hui
    clear HI4 Hr4 HO4
    obtain ⟨zm, m0, m1, m2⟩ := PM.out
    have hngm : ¬ (w2.heap.size = w.heap.size + 1 ∨ w2.heap.size = w2.heap.size + 1) := by omega
    have q0 := cell_on HO.out hngm zm m0
    have q1 := cell_on HO.out hngm zm m1
    have q2 := cell_on HO.out hngm zm m2
    have hzr := HO.out.size
    have hw3z : w2.heap.size < w3.heap.size := zm
    clear m0 m1 m2
    by_cases hk0 : 0 < k
    · have hdk : decide (0 < k) = true := decide_eq_true hk0
      have hdk2 : decide ((0 : Int) < (k : Int)) = true := decide_eq_true (by omega)
      have hwk : IntKind.i64.wrap ((k : Int) - 1) = ((k - 1 : Nat) : Int) := by rw [IntWalk.i64_in _ (by omega)]; omega
      obtain ⟨k', hk'⟩ : ∃ k', k - 1 = k' := ⟨_, rfl⟩
      rw [hk'] at hwk
      have hkk : k' < k := by omega
      have hwl := fun q : Int => Lib.hid (Row.of_own (World.ownsRow_lit (base := wr.heap.size) (e := 3) (size := 1) wr #[.int .i64 q] 1 (Nat.le_refl _) (by unfold maxLen; omega) rfl))
      clear hwl
      rcases HNN.out with ⟨h1, h2⟩ | ⟨h1, h2, h3⟩ | ⟨h1, h2⟩
      · subst h2
        have hM1' : M = 1 := by have : (2 : Int) ^ 0 = 1 := rfl; omega
        subst hM1'
        have hw1 : IntKind.i64.wrap (1 : Int) = 1 := IntWalk.i64_in _ (by omega)
        have hd0 : decide (0 < m.ins) = false := decide_eq_false (by omega)
        have hd4 : decide (m.ins < 4) = true := decide_eq_true (by omega)
        have hn0 : ¬ (0 < m.ins) := by omega
        have hn4 : m.ins < 4 := by omega
        go_wp2_with fail
        refine (pick_any 1 _ _ _ Hr.out (by omega) (by omega) (by omega)).mono ?_
        rintro e w5 ⟨x, hx0, hx1, rfl, hr5, hg5⟩
        have Hr5 := Lib.hid hr5
        have HO5 := Lib.hid (HO.out.trans (Only.grown (E := fun g => g = w.heap.size + 1 ∨ g = w2.heap.size + 1) hg5 (fun g hg => .inl (Option.some.inj hg).symm)))
        have Hi5 := Lib.hid (own_kept Hi.out hg5 (fun g hg e => by have h1 := (Hi.out.lt g hg).1; have h2 := Option.some.inj e; omega))
        have hz5 : w3.heap.size ≤ w5.heap.size := HO5.out.size
        have Hlit := Lib.hid (Row.of_own (World.ownsRow_lit (base := w5.heap.size) (e := 3) (size := 1) w5 #[.int .i64 x] 1 (Nat.le_refl _) (by unfold maxLen; omega) rfl))
        clear hr5 hg5 Hr HO Hi q0 q1 q2
        go_wp2_with (at_builtin; refine append_ints rfl (.tmp 19) (.tmp 27) rfl (w2.heap.size + 1) _ xs.length _ rfl (Hi5.out.alloc _) _ 1 [.int .i64 x] rfl Hlit.out (by simp [Value.oneCell']) (by omega) (by simp <;> omega) ?_; intro v7 w7 hown7 hg7 hat7; have Hi7 := Lib.hid hown7; have Hr7 := Lib.hid (app_rd Hr5.out hg7 Hi5.out (by omega)); have HO7 := Lib.hid (Only.aft (HO5.out.trans (Only.of_below _ (bel_new w5 (.cells #[.int .i64 x] 3)))) (Only.grown hg7 (fun g hg => hg)) (fun g hg => by have h1 := (Hi5.out.lt g hg).1; have h2 := Hs3.out; by_cases h3 : g = w2.heap.size + 1; exact .inr (.inr h3); exact .inl (by omega))); clear hown7 hg7 hat7)
        go_roundw
        case rel => exact ⟨_, k', xs ++ [x], rfl, rfl, by omega, by rw [List.length_append, List.length_singleton]; omega, Lib.hid (by rw [List.length_append, List.length_singleton, ints_snoc]; exact Hi7.out), Lib.hid (Hr7.out.more (by rw [List.length_append, List.length_singleton]; omega)), HO7⟩
        case measure => simp [intOf] <;> omega
      · have hd0 : decide (0 < m.ins) = true := decide_eq_true (by omega)
        have hd4 : decide (m.ins < 4) = true := decide_eq_true (by omega)
        rw [h3] at h1 h2 hd0 hd4 q0
        clear h3
        go_wp2_with fail
        refine (pick_any M _ _ _ Hr.out (by omega) (by omega) (by omega)).mono ?_
        rintro e w5 ⟨x, hx0, hx1, rfl, hr5, hg5⟩
        have Hr5 := Lib.hid hr5
        have HO5 := Lib.hid (HO.out.trans (Only.grown (E := fun g => g = w.heap.size + 1 ∨ g = w2.heap.size + 1) hg5 (fun g hg => .inl (Option.some.inj hg).symm)))
        have Hi5 := Lib.hid (own_kept Hi.out hg5 (fun g hg e => by have h1 := (Hi.out.lt g hg).1; have h2 := Option.some.inj e; omega))
        have hz5 : w3.heap.size ≤ w5.heap.size := HO5.out.size
        have Hlit := Lib.hid (Row.of_own (World.ownsRow_lit (base := w5.heap.size) (e := 3) (size := 1) w5 #[.int .i64 x] 1 (Nat.le_refl _) (by unfold maxLen; omega) rfl))
        clear hr5 hg5 Hr HO Hi q0 q1 q2
        go_wp2_with (at_builtin; refine append_ints rfl (.tmp 19) (.tmp 27) rfl (w2.heap.size + 1) _ xs.length _ rfl (Hi5.out.alloc _) _ 1 [.int .i64 x] rfl Hlit.out (by simp [Value.oneCell']) (by omega) (by simp <;> omega) ?_; intro v7 w7 hown7 hg7 hat7; have Hi7 := Lib.hid hown7; have Hr7 := Lib.hid (app_rd Hr5.out hg7 Hi5.out (by omega)); have HO7 := Lib.hid (Only.aft (HO5.out.trans (Only.of_below _ (bel_new w5 (.cells #[.int .i64 x] 3)))) (Only.grown hg7 (fun g hg => hg)) (fun g hg => by have h1 := (Hi5.out.lt g hg).1; have h2 := Hs3.out; by_cases h3 : g = w2.heap.size + 1; exact .inr (.inr h3); exact .inl (by omega))); clear hown7 hg7 hat7)
        go_roundw
        case rel => exact ⟨_, k', xs ++ [x], rfl, rfl, by omega, by rw [List.length_append, List.length_singleton]; omega, Lib.hid (by rw [List.length_append, List.length_singleton, ints_snoc]; exact Hi7.out), Lib.hid (Hr7.out.more (by rw [List.length_append, List.length_singleton]; omega)), HO7⟩
        case measure => simp [intOf] <;> omega
      · subst h2
        have hM1' : M = 16 := by have : (2 : Int) ^ 4 = 16 := rfl; omega
        subst hM1'
        have hw1 : IntKind.i64.wrap (16 : Int) = 16 := IntWalk.i64_in _ (by omega)
        have hd0 : decide (0 < m.ins) = true := decide_eq_true (by omega)
        have hd4 : decide (m.ins < 4) = false := decide_eq_false (by omega)
        have hn4 : ¬ (m.ins < 4) := by omega
        go_wp2_with fail
        refine (pick_any 16 _ _ _ Hr.out (by omega) (by omega) (by omega)).mono ?_
        rintro e w5 ⟨x, hx0, hx1, rfl, hr5, hg5⟩
        have Hr5 := Lib.hid hr5
        have HO5 := Lib.hid (HO.out.trans (Only.grown (E := fun g => g = w.heap.size + 1 ∨ g = w2.heap.size + 1) hg5 (fun g hg => .inl (Option.some.inj hg).symm)))
        have Hi5 := Lib.hid (own_kept Hi.out hg5 (fun g hg e => by have h1 := (Hi.out.lt g hg).1; have h2 := Option.some.inj e; omega))
        have hz5 : w3.heap.size ≤ w5.heap.size := HO5.out.size
        have Hlit := Lib.hid (Row.of_own (World.ownsRow_lit (base := w5.heap.size) (e := 3) (size := 1) w5 #[.int .i64 x] 1 (Nat.le_refl _) (by unfold maxLen; omega) rfl))
        clear hr5 hg5 Hr HO Hi q0 q1 q2
        go_wp2_with (at_builtin; refine append_ints rfl (.tmp 19) (.tmp 27) rfl (w2.heap.size + 1) _ xs.length _ rfl (Hi5.out.alloc _) _ 1 [.int .i64 x] rfl Hlit.out (by simp [Value.oneCell']) (by omega) (by simp <;> omega) ?_; intro v7 w7 hown7 hg7 hat7; have Hi7 := Lib.hid hown7; have Hr7 := Lib.hid (app_rd Hr5.out hg7 Hi5.out (by omega)); have HO7 := Lib.hid (Only.aft (HO5.out.trans (Only.of_below _ (bel_new w5 (.cells #[.int .i64 x] 3)))) (Only.grown hg7 (fun g hg => hg)) (fun g hg => by have h1 := (Hi5.out.lt g hg).1; have h2 := Hs3.out; by_cases h3 : g = w2.heap.size + 1; exact .inr (.inr h3); exact .inl (by omega))); clear hown7 hg7 hat7)
        go_roundw
        case rel => exact ⟨_, k', xs ++ [x], rfl, rfl, by omega, by rw [List.length_append, List.length_singleton]; omega, Lib.hid (by rw [List.length_append, List.length_singleton, ints_snoc]; exact Hi7.out), Lib.hid (Hr7.out.more (by rw [List.length_append, List.length_singleton]; omega)), HO7⟩
        case measure => simp [intOf] <;> omega
    · obtain rfl : k = 0 := by omega
      have hdk : decide (0 < 0) = false := decide_eq_false (by omega)
      obtain ⟨A1, c1, hv1⟩ := slice_of_own Hi.out
      subst hv1
      go_wp2_with fail
      refine (odd_every 9 _ _ _ Hr.out (by omega) (by omega) (by omega)).mono ?_
      rintro e w6 ⟨b, rfl, hr6, hg6⟩
      have Hr6 := Lib.hid hr6
      have HO6 := Lib.hid (HO.out.trans (Only.grown (E := fun g => g = w.heap.size + 1 ∨ g = w2.heap.size + 1) hg6 (fun g hg => .inl (Option.some.inj hg).symm)))
      have Hi6 := Lib.hid (own_kept Hi.out hg6 (fun g hg e => by have h1 := (Hi.out.lt g hg).1; have h2 := Option.some.inj e; omega))
      have hz6 : w3.heap.size ≤ w6.heap.size := HO6.out.size
      clear hr6 hg6 Hr HO Hi q0 q1 q2
      cases b
      · have HOz := HO6
        have q0 := cell_on HO6.out hngm zm PM.out.2.1
        have q1 := cell_on HO6.out hngm zm PM.out.2.2.1
        have q2 := cell_on HO6.out hngm zm PM.out.2.2.2
        have hW2 : Only (fun g => g = w.heap.size + 1) w2 w6 := Only.aft HO3.out HOz.out (fun g hg => hg.elim .inr (fun h => .inl (by omega)))
        have HMz := Lib.hid (MachIn.only HM.out hW2 (fun g hg e => by omega))
        have HXz := Lib.hid ((hW2.block _ (blk_lt HX2.out) (by omega)).trans HX2.out)
        have HBz := Lib.hid (Only.below Hb2.out hW2 Hb2.out.size (fun g hg => by omega))
        have o0 := blk_cell HXz.out 0
        have o1 := blk_cell HXz.out 1
        have o2 := blk_cell HXz.out 2
        have f0 := blk_free HXz.out 0
        have f1 := blk_free HXz.out 1
        have f2 := blk_free HXz.out 2
        simp at o0 o1 o2
        have hzw2 : w2.heap.size < w6.heap.size := by have := HOz.out.size; omega
        clear hW2
        go_wp2_with fail
        refine bodyPost_ret (v := .tuple #[.agg #[.int .i64 m.ins, .slice An m.next.length cn, .slice Ao m.out.length co], .slice A1 xs.length c1]) (by simp [results, Try.results10, go_sem, o0, o1, o2]) rfl ⟨_, m, _, xs, rfl, (MachIn.only HMz.out (E := fun g => g = w.heap.size) ?_ (fun g hg e => by omega)).at, Row.of_own (own_set (own_set (own_set Hi6.out (by omega)) (by omega)) (by omega)), by first | omega | (rw [List.length_append, List.length_singleton]; omega), ?_⟩
        · exact ((Only.refl _ _).aft (Only.grown (set_grown _ _ _ _) fun k hk => (Option.some.inj hk).symm) fun g hg => .inr hg).aft (Only.grown (set_grown _ _ _ _) fun k hk => (Option.some.inj hk).symm) (fun g hg => .inr hg) |>.aft (Only.grown (set_grown _ _ _ _) fun k hk => (Option.some.inj hk).symm) (fun g hg => .inr hg)
        · exact ((HBz.out.setCell (Nat.le_refl _) _).setCell (Nat.le_refl _) _).setCell (Nat.le_refl _) _
      · have hbl := bel_new w6 (.cells #[.int .i64 (-1), .int .i64 16] 3)
        have HL0 := Lib.hid (heap_alloc_new w6 (.cells #[.int .i64 (-1), .int .i64 16] 3))
        have hs7 : (w6.alloc (.cells #[.int .i64 (-1), .int .i64 16] 3)).heap.size = w6.heap.size + 1 := by simp
        have Hr7 := Lib.hid (Hr6.out.alloc (.cells #[.int .i64 (-1), .int .i64 16] 3))
        have HO7 := Lib.hid (HO6.out.trans (Only.of_below _ hbl))
        have Hi7 := Lib.hid (own_below Hi6.out hbl)
        clear hbl Hr6 HO6 Hi6
        go_wp2_with fail
        obtain ⟨w7, hw7⟩ : ∃ w7, w6.alloc (.cells #[.int .i64 (-1), .int .i64 16] 3) = w7 := ⟨_, rfl⟩
        rw [hw7] at HL0 hs7 Hr7 HO7 Hi7 ⊢
        clear hw7
        refine (pick_any 2 _ _ _ Hr7.out (by omega) (by omega) (by omega)).mono ?_
        rintro e w8 ⟨x, hx0, hx1, rfl, hr8, hg8⟩
        have HOz8 := Lib.hid (HO7.out.trans (Only.grown (E := fun g => g = w.heap.size + 1 ∨ g = w2.heap.size + 1) hg8 (fun g hg => .inl (Option.some.inj hg).symm)))
        have Hi8 := Lib.hid (own_kept Hi7.out hg8 (fun g hg e => by have h1 := (Hi7.out.lt g hg).1; have h2 := Option.some.inj e; omega))
        have HL8 := Lib.hid ((hg8.block _ (by omega) (fun e => by have h2 := Option.some.inj e; omega)).trans HL0.out)
        have l0 := blk_cell HL8.out 0
        have l1 := blk_cell HL8.out 1
        have hz8 : w3.heap.size ≤ w8.heap.size := HOz8.out.size
        simp at l0 l1
        have hwl := fun q : Int => Lib.hid (Row.of_own (World.ownsRow_lit (base := w8.heap.size) (e := 3) (size := 1) w8 #[.int .i64 q] 1 (Nat.le_refl _) (by unfold maxLen; omega) rfl))
        clear hr8 hg8 Hr7 HO7 Hi7 HL0 HL8
        obtain rfl | rfl : x = 0 ∨ x = 1 := by omega
        · have Hlit := hwl (-1)
          clear hwl
          go_wp2_with (at_builtin; refine append_ints rfl (.tmp 31) (.tmp 37) rfl (w2.heap.size + 1) _ xs.length _ rfl (Hi8.out.alloc _) _ 1 [.int .i64 (-1)] rfl Hlit.out (by simp [Value.oneCell']) (by omega) (by simp <;> omega) ?_; intro v9 w9 hown9 hg9 hat9; have HOz := Lib.hid (Only.aft (HOz8.out.trans (Only.of_below _ (bel_new w8 (.cells #[.int .i64 (-1)] 3)))) (Only.grown hg9 (fun g hg => hg)) (fun g hg => by have h1 := (Hi8.out.lt g hg).1; have h2 := Hs3.out; by_cases h3 : g = w2.heap.size + 1; exact .inr (.inr h3); exact .inl (by omega))); obtain ⟨A9, c9, hv9⟩ := slice_of_own hown9; subst hv9; have Hi9 := Lib.hid hown9; have q0 := cell_on HOz.out hngm zm PM.out.2.1; have q1 := cell_on HOz.out hngm zm PM.out.2.2.1; have q2 := cell_on HOz.out hngm zm PM.out.2.2.2; have hW2 : Only (fun g => g = w.heap.size + 1) w2 w9 := Only.aft HO3.out HOz.out (fun g hg => hg.elim .inr (fun h => .inl (by omega))); have HXz := Lib.hid ((hW2.block _ (blk_lt HX2.out) (by omega)).trans HX2.out); have o0 := blk_cell HXz.out 0; have o1 := blk_cell HXz.out 1; have o2 := blk_cell HXz.out 2; have f0 := blk_free HXz.out 0; have f1 := blk_free HXz.out 1; have f2 := blk_free HXz.out 2; simp at o0 o1 o2; have hzw2 : w2.heap.size < w9.heap.size := (by have := HOz.out.size; omega); clear hown9 hg9 hat9 hW2 l0 l1)
          have hW2 : Only (fun g => g = w.heap.size + 1) w2 w9 := Only.aft HO3.out HOz.out (fun g hg => hg.elim .inr (fun h => .inl (by omega)))
          have HMz := Lib.hid (MachIn.only HM.out hW2 (fun g hg e => by omega))
          have HBz := Lib.hid (Only.below Hb2.out hW2 Hb2.out.size (fun g hg => by omega))
          clear hW2
          refine bodyPost_ret (v := .tuple #[.agg #[.int .i64 m.ins, .slice An m.next.length cn, .slice Ao m.out.length co], .slice A9 (xs.length + 1) c9]) (by simp [results, Try.results10, go_sem, o0, o1, o2]) rfl ⟨_, m, _, xs ++ [(-1)], rfl, (MachIn.only HMz.out (E := fun g => g = w.heap.size) ?_ (fun g hg e => by omega)).at, (by
                have h9 := own_set (i := 2) (u := .slice Ao m.out.length co) (own_set (i := 1) (u := .slice An m.next.length cn) (own_set (i := 0) (u := .int .i64 m.ins) Hi9.out (show w.heap.size < w2.heap.size + 1 by omega)) (show w.heap.size < w2.heap.size + 1 by omega)) (show w.heap.size < w2.heap.size + 1 by omega)
                rw [← ints_snoc] at h9
                have h10 := Row.of_own h9
                unfold IntsAt
                rw [List.length_append, List.length_singleton]
                exact h10), by first | omega | (rw [List.length_append, List.length_singleton]; omega), ?_⟩
          · exact ((Only.refl _ _).aft (Only.grown (set_grown _ _ _ _) fun k hk => (Option.some.inj hk).symm) fun g hg => .inr hg).aft (Only.grown (set_grown _ _ _ _) fun k hk => (Option.some.inj hk).symm) (fun g hg => .inr hg) |>.aft (Only.grown (set_grown _ _ _ _) fun k hk => (Option.some.inj hk).symm) (fun g hg => .inr hg)
          · exact ((HBz.out.setCell (Nat.le_refl _) _).setCell (Nat.le_refl _) _).setCell (Nat.le_refl _) _
        · have Hlit := hwl 16
          clear hwl
          go_wp2_with (at_builtin; refine append_ints rfl (.tmp 31) (.tmp 37) rfl (w2.heap.size + 1) _ xs.length _ rfl (Hi8.out.alloc _) _ 1 [.int .i64 16] rfl Hlit.out (by simp [Value.oneCell']) (by omega) (by simp <;> omega) ?_; intro v9 w9 hown9 hg9 hat9; have HOz := Lib.hid (Only.aft (HOz8.out.trans (Only.of_below _ (bel_new w8 (.cells #[.int .i64 16] 3)))) (Only.grown hg9 (fun g hg => hg)) (fun g hg => by have h1 := (Hi8.out.lt g hg).1; have h2 := Hs3.out; by_cases h3 : g = w2.heap.size + 1; exact .inr (.inr h3); exact .inl (by omega))); obtain ⟨A9, c9, hv9⟩ := slice_of_own hown9; subst hv9; have Hi9 := Lib.hid hown9; have q0 := cell_on HOz.out hngm zm PM.out.2.1; have q1 := cell_on HOz.out hngm zm PM.out.2.2.1; have q2 := cell_on HOz.out hngm zm PM.out.2.2.2; have hW2 : Only (fun g => g = w.heap.size + 1) w2 w9 := Only.aft HO3.out HOz.out (fun g hg => hg.elim .inr (fun h => .inl (by omega))); have HXz := Lib.hid ((hW2.block _ (blk_lt HX2.out) (by omega)).trans HX2.out); have o0 := blk_cell HXz.out 0; have o1 := blk_cell HXz.out 1; have o2 := blk_cell HXz.out 2; have f0 := blk_free HXz.out 0; have f1 := blk_free HXz.out 1; have f2 := blk_free HXz.out 2; simp at o0 o1 o2; have hzw2 : w2.heap.size < w9.heap.size := (by have := HOz.out.size; omega); clear hown9 hg9 hat9 hW2 l0 l1)
          have hW2 : Only (fun g => g = w.heap.size + 1) w2 w9 := Only.aft HO3.out HOz.out (fun g hg => hg.elim .inr (fun h => .inl (by omega)))
          have HMz := Lib.hid (MachIn.only HM.out hW2 (fun g hg e => by omega))
          have HBz := Lib.hid (Only.below Hb2.out hW2 Hb2.out.size (fun g hg => by omega))
          clear hW2
          refine bodyPost_ret (v := .tuple #[.agg #[.int .i64 m.ins, .slice An m.next.length cn, .slice Ao m.out.length co], .slice A9 (xs.length + 1) c9]) (by simp [results, Try.results10, go_sem, o0, o1, o2]) rfl ⟨_, m, _, xs ++ [16], rfl, (MachIn.only HMz.out (E := fun g => g = w.heap.size) ?_ (fun g hg e => by omega)).at, (by
                have h9 := own_set (i := 2) (u := .slice Ao m.out.length co) (own_set (i := 1) (u := .slice An m.next.length cn) (own_set (i := 0) (u := .int .i64 m.ins) Hi9.out (show w.heap.size < w2.heap.size + 1 by omega)) (show w.heap.size < w2.heap.size + 1 by omega)) (show w.heap.size < w2.heap.size + 1 by omega)
                rw [← ints_snoc] at h9
                have h10 := Row.of_own h9
                unfold IntsAt
                rw [List.length_append, List.length_singleton]
                exact h10), by first | omega | (rw [List.length_append, List.length_singleton]; omega), ?_⟩
          · exact ((Only.refl _ _).aft (Only.grown (set_grown _ _ _ _) fun k hk => (Option.some.inj hk).symm) fun g hg => .inr hg).aft (Only.grown (set_grown _ _ _ _) fun k hk => (Option.some.inj hk).symm) (fun g hg => .inr hg) |>.aft (Only.grown (set_grown _ _ _ _) fun k hk => (Option.some.inj hk).symm) (fun g hg => .inr hg)
          · exact ((HBz.out.setCell (Nat.le_refl _) _).setCell (Nat.le_refl _) _).setCell (Nat.le_refl _) _
end Go.Proofs.Ytmlmnelbphjfbaa

namespace Go.Proofs.Ytmlmnelbphjfbaa
open Go.RowKit
set_option maxRecDepth 100000
/-! RunMachine, by the reference. -/
theorem cell_only {E : Nat → Prop} {w w' : World} {g i : Nat} {u : Value} (ho : Only E w w') (hn : ¬ E g) (hl : g < w.heap.size) (h : w.cell? ⟨g, i, none⟩ = some u) : w'.cell? ⟨g, i, none⟩ = some u := cell_on ho hn hl h
set_option maxHeartbeats 8000000 in
theorem specRun_any (v vi : Value) (m : Mz) (ins : List Int) (w : World) (h : MachAt w v m) (hi : IntsAt w vi ins) :
    Calls Try.prog 13 #[v, vi] w (OwnInts (Mac.runI m ins) w) := by
  have HC := Lib.hid h
  obtain ⟨An, cn, Ao, co, rfl, hcn, hco, hcn1, hco1⟩ := h.shape
  obtain ⟨Ai, ci, rfl, hci, hcim⟩ := Row.shape hi
  have Hiw := Lib.hid hi
  have HCw := Lib.hid h
  unfold maxLen at hcim
  have hb0 := bel_alloc w (.cells #[.int .i64 m.ins, .slice An m.next.length cn, .slice Ao m.out.length co] 25)
  have hsz : (w.alloc (.cells #[.int .i64 m.ins, .slice An m.next.length cn, .slice Ao m.out.length co] 25)).heap.size = w.heap.size + 1 := by simp
  have B0 := Lib.hid (hb0.trans ((bel_alloc (w.alloc (.cells #[.int .i64 m.ins, .slice An m.next.length cn, .slice Ao m.out.length co] 25)) (.cells #[] 3)).mono hb0.size))
  have PC := Lib.hid ((MCells.boxed w m.ins (.slice An m.next.length cn) (.slice Ao m.out.length co) 25).below (bel_alloc (w.alloc (.cells #[.int .i64 m.ins, .slice An m.next.length cn, .slice Ao m.out.length co] 25)) (.cells #[] 3)))
  have Hlit : Hid (((w.alloc (.cells #[.int .i64 m.ins, .slice An m.next.length cn, .slice Ao m.out.length co] 25)).alloc (.cells #[] 3)).ownsRow (w.heap.size + 1) 3 1 (.slice (some ⟨w.heap.size + 1, 0, none⟩) 0 0) 0 []) := Lib.hid (by
    have := World.ownsRow_lit (base := w.heap.size + 1) (e := 3) (size := 1) (w.alloc (.cells #[.int .i64 m.ins, .slice An m.next.length cn, .slice Ao m.out.length co] 25)) #[] 0 (by simp) (by unfold maxLen; omega) rfl
    rwa [World.size_alloc] at this)
  have hsz2 : ((w.alloc (.cells #[.int .i64 m.ins, .slice An m.next.length cn, .slice Ao m.out.length co] 25)).alloc (.cells #[] 3)).heap.size = w.heap.size + 2 := by simp
  obtain ⟨z, p0, p1, p2⟩ := PC.out
  have HC := Lib.hid (HC.out.below B0.out)
  have HV := Lib.hid (specMValid_any _ m _ HC.out)
  generalize hW : (w.alloc (.cells #[.int .i64 m.ins, .slice An m.next.length cn, .slice Ao m.out.length co] 25)).alloc (.cells #[] 3) = W at *
  clear hi hb0 hsz
  cases hv : Mac.valid m
  · rw [hv] at HV
    have HR : Hid (Mac.runI m ins = []) := Lib.hid (by unfold Mac.runI Mac.runOk; rw [hv]; rfl)
    rw [HR.out]
    clear HR hv
    go_enter Try.func13, Try.ntmps13
    go_wp2_with fail
    refine HV.out.mono ?_
    rintro e w1 ⟨rfl, hb1⟩
    have B := Lib.hid (B0.out.trans (hb1.mono B0.out.size))
    have Hl := Lib.hid (own_mono (own_below Hlit.out hb1) (show w.heap.size ≤ w.heap.size + 1 by omega))
    clear hb1
    go_wp2_with fail
    go_ret
    exact ⟨_, rfl, Hl.out, B.out⟩
  · rw [hv] at HV
    have Hv := Lib.hid hv
    by_cases hl : (40 : Int) < ins.length
    · have HR : Hid (Mac.runI m ins = []) := Lib.hid (by unfold Mac.runI Mac.runOk; rw [hv, decide_eq_false (by omega)]; rfl)
      rw [HR.out]
      clear HR hv
      go_enter Try.func13, Try.ntmps13
      go_wp2_with fail
      refine HV.out.mono ?_
      rintro e w1 ⟨rfl, hb1⟩
      have B := Lib.hid (B0.out.trans (hb1.mono B0.out.size))
      have Hl := Lib.hid (own_mono (own_below Hlit.out hb1) (show w.heap.size ≤ w.heap.size + 1 by omega))
      clear hb1
      go_wp2_with fail
      go_ret
      exact ⟨_, rfl, Hl.out, B.out⟩
    · obtain ⟨s1, s2, s3, s4, s5⟩ := mach_sizes (m := m) (by have h := hv; unfold Mac.valid at h; simp only [Bool.and_eq_true] at h; exact h.1)
      obtain ⟨N, hN⟩ := Int.eq_ofNat_of_zero_le s1
      have hN4 : N ≤ 4 := by omega
      obtain ⟨M, eM, hM⟩ : ∃ M : Nat, (2 : Int) ^ N = (M : Int) ∧ M = 2 ^ N := ⟨2 ^ N, two_pow N, rfl⟩
      have hM16 : M ≤ 16 := by rw [hM]; exact Nat.pow_le_pow_right (show 0 < 2 by decide) hN4
      have hwM := IntWalk.i64_in (M : Int) (by omega)
      have hwM1 := IntWalk.i64_in ((M : Int) - 1) (by omega)
      have HM : Hid (2 ^ m.ins.toNat = M) := Lib.hid (by rw [hN, hM]; rfl)
      have HR0 : Hid (Mac.runI m ins = if (ins.drop 0).all (Mac.inRange m) then Mac.outs m 0 ins else []) := Lib.hid (by unfold Mac.runI Mac.runOk; rw [hv, decide_eq_true (by omega)]; rfl)
      have HRow : Hid (∀ s x : Nat, s < m.next.length → x < M → ∃ r q y o, m.next[s]? = some r ∧ m.out[s]? = some q ∧ r.length = M ∧ q.length = M ∧ r[x]? = some ((y : Nat) : Int) ∧ y < m.next.length ∧ q[x]? = some o ∧ 0 ≤ o ∧ o < 8 ∧ Mac.stepN m s x = y ∧ Mac.stepO m s x = o) := Lib.hid fun s x hs hx => by
        have := Mac.valid_row hv hs (by rw [HM.out]; exact hx)
        rwa [HM.out] at this
      have HRg : Hid (∀ x : Int, Mac.inRange m x = decide (0 ≤ x ∧ x ≤ (M : Int) - 1)) := Lib.hid fun x => by unfold Mac.inRange; rw [HM.out, in_le]
      rw [hN] at p0 HC PC HV hW HCw ⊢
      generalize Mac.runI m ins = res at *
      have S5 := Lib.hid s5
      clear hv hM s1 s2 hN s5
      go_enter Try.func13, Try.ntmps13
      go_wp2_with fail
      refine HV.out.mono ?_
      rintro e w1 ⟨rfl, hb1⟩
      have B1 := Lib.hid (B0.out.trans (hb1.mono B0.out.size))
      have PC1 := Lib.hid (PC.out.below hb1)
      have Hl1 := Lib.hid (own_below Hlit.out hb1)
      have z1 := hb1.size
      clear hb1 p0 p1 p2 z PC HC HV hW Hlit
      go_wp2_with fail
      go_loopw [5, 6, 7] (fun v s i wr => ∃ (vv : Value) (k st : Nat), vv = v ∧ k ≤ ins.length ∧ i = .int .i64 k ∧ s = .int .i64 st ∧ st < m.next.length ∧ Hid (st = Mac.st m (ins.take k)) ∧ Hid (res = if (ins.drop k).all (Mac.inRange m) then Mac.outs m 0 ins else []) ∧ Hid (wr.ownsRow (w.heap.size + 1) 3 1 v k (ints (Mac.outs m 0 (ins.take k)))) ∧ Hid (MCells wr w.heap.size N (.slice An m.next.length cn) (.slice Ao m.out.length co)) ∧ w.heap.size + 2 ≤ wr.heap.size ∧ Below w.heap.size w wr) (fun v s i _ => ins.length - (intOf i).toNat)
      case atStart => exact ⟨_, 0, 0, rfl, Nat.zero_le _, rfl, rfl, by omega, Lib.hid rfl, HR0, Hl1, PC1, by omega, B1.out⟩
      case round =>
        obtain ⟨vv, k, st, hvv, hk, rfl, rfl, hst, Hst, hres, Ho, PCr, hzb, hb⟩ := hrel
        subst hvv
        clear HR0 Hl1
        have Hb := Lib.hid hb
        obtain ⟨z, p0, p1, p2⟩ := PCr.out
        by_cases hlt : k < ins.length
        · obtain ⟨b, o, x, rfl, hbl, hx, hs0⟩ := ints_open Hiw.out (Below.refl _ _) rfl hlt
          have Hdr := Lib.hid (Mac.all_dropG (p := Mac.inRange m) hx.out)
          have K0 : ∀ w', Below w.heap.size w w' → w'.cell? ⟨b, o + k, none⟩ = some (.int .i64 x) := fun w' hb => (hb.cell (p := ⟨b, o + k, none⟩) hbl).trans hs0
          have k0 := K0 wr hb
          have HK0 := Lib.hid K0
          have hkx : k < ins.length := hlt
          clear hb K0 hs0
          cases hr : Mac.inRange m x
          · have HR : Hid (res = []) := Lib.hid (by rw [hres.out, Hdr.out, hr]; rfl)
            rw [HRg.out] at hr
            have Hr := Lib.hid hr
            rw [HR.out]
            clear hr
            go_wp2_with fail
            obtain ⟨w4, hw4⟩ : ∃ w4, w4 = wr := ⟨_, rfl⟩
            subst hw4
            refine wp_region_rs (quietRS Try.prog _ w4 _) quietRS_ok (by kernel_rfl) (by kernel_rfl) (by kernel_rfl) (Nat.le_of_ble_eq_true rfl) trivial trivial ?_
            refine rs_old quietRS_ok quiet_any _ (.inl rfl) _ rfl rfl ?_
            refine rs_old quietRS_ok quiet_any _ (.inl rfl) _ rfl rfl ?_
            apply rs_eq quietRS_ok quiet_any
            · intro ρ w' ho hK
              have ho : Only _ w4 w' := ho
              obtain ⟨h0, h1, -⟩ := hK
              have h0' : ρ (.tmp 24) = _ := h0
              have h1' : ρ (.tmp 25) = _ := h1
              go_simp
              try exact rfl
            apply rs_eq quietRS_ok quiet_any
            · intro ρ w' ho hK
              have ho : Only _ w4 w' := ho
              obtain ⟨h0, -⟩ := hK
              have h0' : ρ (.tmp 26) = _ := h0
              have hb := only_below ho
              have q0 := (hb.cell (p := ⟨w.heap.size, 0, none⟩) z).trans p0
              have q1 := HK0.out w' (Hb.out.trans (hb.mono (by omega)))
              go_simp
              try exact rfl
            apply rs_eq quietRS_ok quiet_any
            · intro ρ w' ho hK
              have ho : Only _ w4 w' := ho
              obtain ⟨h0, -⟩ := hK
              have h0' : ρ (.tmp 2) = _ := h0
              go_simp
              try exact rfl
            apply rs_eq quietRS_ok quiet_any
            · intro ρ w' ho hK
              have ho : Only _ w4 w' := ho
              obtain ⟨h0, -⟩ := hK
              have h0' : ρ (.tmp 28) = _ := h0
              have hb := only_below ho
              have q0 := (hb.cell (p := ⟨w.heap.size, 0, none⟩) z).trans p0
              have q1 := HK0.out w' (Hb.out.trans (hb.mono (by omega)))
              go_simp
              try exact rfl
            apply rs_eq quietRS_ok quiet_any
            · intro ρ w' ho hK
              have ho : Only _ w4 w' := ho
              obtain ⟨h0, h1, -⟩ := hK
              have h0' : ρ (.const (Value.int IntKind.i64 1)) = (Value.int IntKind.i64 1) := h0
              have h1' : ρ (.tmp 29) = _ := h1
              go_simp
              try exact rfl
            apply rs_eq quietRS_ok quiet_any
            · intro ρ w' ho hK
              have ho : Only _ w4 w' := ho
              obtain ⟨h0, h1, -⟩ := hK
              have h0' : ρ (.tmp 30) = _ := h0
              have h1' : ρ (.const (Value.int IntKind.i64 1)) = (Value.int IntKind.i64 1) := h1
              go_simp
              try exact rfl
            refine rs_call quietRS_ok quiet_any (TEq (.bool false)) (stb_eq _ _) 22 _ _ rfl (fun ρ w' ho hK => by
              have ho : Only _ w4 w' := ho
              obtain ⟨h0, h1, h2, h3, -⟩ := hK
              have h0' : ρ (.func 22) = .func (.func 22) #[] #[] := h0
              have h1' : ρ (.tmp 27) = _ := h1
              have h2' : ρ (.const (Value.int IntKind.i64 0)) = (Value.int IntKind.i64 0) := h2
              have h3' : ρ (.tmp 31) = _ := h3
              refine ⟨#[ρ (.tmp 27), ρ (.const (Value.int IntKind.i64 0)), ρ (.tmp 31)], ?_, ?_⟩
              · go_simp
              · rw [h1', h2', h3']
                refine (l1In_any _ _ _ w').mono ?_
                rintro e w2 ⟨rfl, rfl⟩
                exact ⟨_, rfl, by rw [Hr.out]; rfl, Below.refl _ _⟩) ?_
            apply rs_eq quietRS_ok quiet_any
            · intro ρ w' ho hK
              have ho : Only _ w4 w' := ho
              obtain ⟨h0, -⟩ := hK
              have h0' : ρ (.tmp 32) = _ := h0
              go_simp
              try exact rfl
            intro f w9 k9 hk9 hI9 ht9 hcp9
            have E0 : f 0 = _ := ht9 0 (Nat.le_of_ble_eq_true rfl)
            conv at E0 => rhs; whnf
            have E1 : f 1 = _ := ht9 1 (Nat.le_of_ble_eq_true rfl)
            conv at E1 => rhs; whnf
            have E2 : f 2 = _ := ht9 2 (Nat.le_of_ble_eq_true rfl)
            have E3 : f 3 = _ := ht9 3 (Nat.le_of_ble_eq_true rfl)
            have E4 : f 4 = _ := ht9 4 (Nat.le_of_ble_eq_true rfl)
            have E5 : f 5 = _ := ht9 5 (Nat.le_of_ble_eq_true rfl)
            have E6 : f 6 = _ := ht9 6 (Nat.le_of_ble_eq_true rfl)
            have E7 : f 7 = _ := ht9 7 (Nat.le_of_ble_eq_true rfl)
            have E8 : f 8 = _ := ht9 8 (Nat.le_of_ble_eq_true rfl)
            have E9 : f 9 = _ := ht9 9 (Nat.le_of_ble_eq_true rfl)
            have Ho9 : Only _ w4 w9 := hI9.2.1
            simp only [putAll, E0, E1, E2, E3, E4, E5, E6, E7, E8, E9, Nat.zero_add, Nat.reduceAdd, Act.put, List.setIfInBounds_toArray, List.set_cons_succ, List.set_cons_zero]
            clear E0 E1 E2 E3 E4 E5 E6 E7 E8 E9
            clear hI9 ht9 hcp9 hk9
            have hb9 := only_below Ho9
            have B9 := Lib.hid (Hb.out.trans (hb9.mono (by omega)))
            clear Ho9 hb9 p0 p1 p2 k0
            go_wp2_with fail
            go_ret
            exact own_lit0 _ _ B9.out 3
          · obtain ⟨X, rfl, hXM⟩ := Mac.inRange_nat hr
            rw [HM.out] at hXM
            have Hn : Hid (res = if (ins.drop (k + 1)).all (Mac.inRange m) then Mac.outs m 0 ins else []) := Lib.hid (by rw [hres.out, Hdr.out, hr]; rfl)
            rw [HRg.out] at hr
            have Hr := Lib.hid hr
            obtain ⟨r, q, y, O, e1, e2, l1, l2, f1, hy, f2, hO1, hO2, g1, g2⟩ := HRow.out st X hst hXM
            obtain ⟨mn, mo, hmv, rn, ro⟩ := HCw.out
            simp only [Value.agg.injEq, Array.mk.injEq, List.cons.injEq, and_true, true_and] at hmv
            obtain ⟨-, rfl, rfl⟩ := hmv
            obtain ⟨bn, on, Bn, mn, rfl, hbn, hcn1', hn1, hn2, hrn⟩ := ss_open rn (Below.refl _ _) e1
            obtain ⟨bo, oo, Bo, mo, rfl, hbo, hco1', ho1, ho2, hro⟩ := ss_open ro (Below.refl _ _) e2
            obtain ⟨bn', on', rfl, hbn', hcy⟩ := ints_row hrn rfl f1
            obtain ⟨bo', oo', rfl, hbo', hcO⟩ := ints_row hro rfl f2
            rw [l1] at hcn1' hn1
            rw [l2] at hco1' ho1
            have K : ∀ w', Below w.heap.size w w' → w'.cell? ⟨bn, on + st, none⟩ = some (.slice (some ⟨bn', on', none⟩) M mn) ∧ w'.cell? ⟨bo, oo + st, none⟩ = some (.slice (some ⟨bo', oo', none⟩) M mo) ∧ w'.cell? ⟨bn', on' + X, none⟩ = some (.int .i64 y) ∧ w'.cell? ⟨bo', oo' + X, none⟩ = some (.int .i64 O) := fun w' hb =>
              ⟨(hb.cell (p := ⟨bn, on + st, none⟩) hbn).trans hcn1', (hb.cell (p := ⟨bo, oo + st, none⟩) hbo).trans hco1', (hb.cell (p := ⟨bn', on' + X, none⟩) hbn').trans hcy, (hb.cell (p := ⟨bo', oo' + X, none⟩) hbo').trans hcO⟩
            have HK := Lib.hid K
            clear K hcn1' hco1' hcy hcO
            have HSt : Hid (y = Mac.st m (ins.take (k + 1))) := Lib.hid (by rw [Mac.st_snoc hx.out, ← Hst.out, g1])
            have HOu : Hid (ints (Mac.outs m 0 (ins.take (k + 1))) = ints (Mac.outs m 0 (ins.take k)) ++ [.int .i64 O]) := Lib.hid (by rw [Mac.outs_snoc hx.out, ← Hst.out, g2, ints_snoc])
            unfold maxLen at hn2 ho2
            have hd2 : st < m.out.length := by have := S5.out; omega
            clear hr e1 e2 f1 f2 g1 g2 hrn hro rn ro l1 l2
            go_wp2_with fail
            obtain ⟨w4, hw4⟩ : ∃ w4, w4 = wr := ⟨_, rfl⟩
            subst hw4
            refine wp_region_rs (quietRS Try.prog _ w4 _) quietRS_ok (by kernel_rfl) (by kernel_rfl) (by kernel_rfl) (Nat.le_of_ble_eq_true rfl) trivial trivial ?_
            refine rs_old quietRS_ok quiet_any _ (.inl rfl) _ rfl rfl ?_
            refine rs_old quietRS_ok quiet_any _ (.inl rfl) _ rfl rfl ?_
            apply rs_eq quietRS_ok quiet_any
            · intro ρ w' ho hK
              have ho : Only _ w4 w' := ho
              obtain ⟨h0, h1, -⟩ := hK
              have h0' : ρ (.tmp 24) = _ := h0
              have h1' : ρ (.tmp 25) = _ := h1
              go_simp
              try exact rfl
            apply rs_eq quietRS_ok quiet_any
            · intro ρ w' ho hK
              have ho : Only _ w4 w' := ho
              obtain ⟨h0, -⟩ := hK
              have h0' : ρ (.tmp 26) = _ := h0
              have hb := only_below ho
              have q0 := (hb.cell (p := ⟨w.heap.size, 0, none⟩) z).trans p0
              have q1 := HK0.out w' (Hb.out.trans (hb.mono (by omega)))
              go_simp
              try exact rfl
            apply rs_eq quietRS_ok quiet_any
            · intro ρ w' ho hK
              have ho : Only _ w4 w' := ho
              obtain ⟨h0, -⟩ := hK
              have h0' : ρ (.tmp 2) = _ := h0
              go_simp
              try exact rfl
            apply rs_eq quietRS_ok quiet_any
            · intro ρ w' ho hK
              have ho : Only _ w4 w' := ho
              obtain ⟨h0, -⟩ := hK
              have h0' : ρ (.tmp 28) = _ := h0
              have hb := only_below ho
              have q0 := (hb.cell (p := ⟨w.heap.size, 0, none⟩) z).trans p0
              have q1 := HK0.out w' (Hb.out.trans (hb.mono (by omega)))
              go_simp
              try exact rfl
            apply rs_eq quietRS_ok quiet_any
            · intro ρ w' ho hK
              have ho : Only _ w4 w' := ho
              obtain ⟨h0, h1, -⟩ := hK
              have h0' : ρ (.const (Value.int IntKind.i64 1)) = (Value.int IntKind.i64 1) := h0
              have h1' : ρ (.tmp 29) = _ := h1
              go_simp
              try exact rfl
            apply rs_eq quietRS_ok quiet_any
            · intro ρ w' ho hK
              have ho : Only _ w4 w' := ho
              obtain ⟨h0, h1, -⟩ := hK
              have h0' : ρ (.tmp 30) = _ := h0
              have h1' : ρ (.const (Value.int IntKind.i64 1)) = (Value.int IntKind.i64 1) := h1
              go_simp
              try exact rfl
            refine rs_call quietRS_ok quiet_any (TEq (.bool true)) (stb_eq _ _) 22 _ _ rfl (fun ρ w' ho hK => by
              have ho : Only _ w4 w' := ho
              obtain ⟨h0, h1, h2, h3, -⟩ := hK
              have h0' : ρ (.func 22) = .func (.func 22) #[] #[] := h0
              have h1' : ρ (.tmp 27) = _ := h1
              have h2' : ρ (.const (Value.int IntKind.i64 0)) = (Value.int IntKind.i64 0) := h2
              have h3' : ρ (.tmp 31) = _ := h3
              refine ⟨#[ρ (.tmp 27), ρ (.const (Value.int IntKind.i64 0)), ρ (.tmp 31)], ?_, ?_⟩
              · go_simp
              · rw [h1', h2', h3']
                refine (l1In_any _ _ _ w').mono ?_
                rintro e w2 ⟨rfl, rfl⟩
                exact ⟨_, rfl, by rw [Hr.out]; rfl, Below.refl _ _⟩) ?_
            apply rs_eq quietRS_ok quiet_any
            · intro ρ w' ho hK
              have ho : Only _ w4 w' := ho
              obtain ⟨h0, -⟩ := hK
              have h0' : ρ (.tmp 32) = _ := h0
              go_simp
              try exact rfl
            intro f w9 k9 hk9 hI9 ht9 hcp9
            have E0 : f 0 = _ := ht9 0 (Nat.le_of_ble_eq_true rfl)
            conv at E0 => rhs; whnf
            have E1 : f 1 = _ := ht9 1 (Nat.le_of_ble_eq_true rfl)
            conv at E1 => rhs; whnf
            have E2 : f 2 = _ := ht9 2 (Nat.le_of_ble_eq_true rfl)
            have E3 : f 3 = _ := ht9 3 (Nat.le_of_ble_eq_true rfl)
            have E4 : f 4 = _ := ht9 4 (Nat.le_of_ble_eq_true rfl)
            have E5 : f 5 = _ := ht9 5 (Nat.le_of_ble_eq_true rfl)
            have E6 : f 6 = _ := ht9 6 (Nat.le_of_ble_eq_true rfl)
            have E7 : f 7 = _ := ht9 7 (Nat.le_of_ble_eq_true rfl)
            have E8 : f 8 = _ := ht9 8 (Nat.le_of_ble_eq_true rfl)
            have E9 : f 9 = _ := ht9 9 (Nat.le_of_ble_eq_true rfl)
            have Ho9 : Only _ w4 w9 := hI9.2.1
            simp only [putAll, E0, E1, E2, E3, E4, E5, E6, E7, E8, E9, Nat.zero_add, Nat.reduceAdd, Act.put, List.setIfInBounds_toArray, List.set_cons_succ, List.set_cons_zero]
            clear E0 E1 E2 E3 E4 E5 E6 E7 E8 E9
            clear hI9 ht9 hcp9 hk9
            have hb9 := only_below Ho9
            have B9 := Lib.hid (Hb.out.trans (hb9.mono (by omega)))
            have P9 := Lib.hid (PCr.out.below hb9)
            have O9 := Lib.hid (own_below Ho.out hb9)
            have hz9 : w.heap.size + 2 ≤ w9.heap.size := Nat.le_trans hzb hb9.size
            clear Ho9 hb9 p0 p1 p2 k0 z Ho PCr
            obtain ⟨w5, hw5⟩ : ∃ w5, w5 = w9 := ⟨_, rfl⟩
            subst hw5
            obtain ⟨z, p0, p1, p2⟩ := P9.out
            generalize ints (Mac.outs m 0 (ins.take k)) = cs at *
            go_wp2_with fail
            have HBx : ∀ w', Only (fun g => vv.ownBlock = some g) w5 w' → Below w.heap.size w w' := fun w' ho => Only.below B9.out ho (by omega) (fun g hg => by have := (O9.out.lt g hg).1; omega)
            have hNg : ¬ (vv.ownBlock = some w.heap.size) := fun e => by have := (O9.out.lt _ e).1; omega
            obtain ⟨i0, hi0, hz0, hz1, hz2⟩ := info_parts info_int
            have hO := fun ops a => appRS_ok (Pg := Try.prog) (ops := ops) (a := a) (news := [.int .i64 O]) (d := 13) (O9.out)
            refine wp_region_rs (appRS Try.prog _ w5 _ (w.heap.size + 1) 3 1 (vv) (k) (cs) [.int .i64 O] 13) (hO _ _) (by kernel_rfl) (by kernel_rfl) (by kernel_rfl) (Nat.le_of_ble_eq_true rfl) trivial O9.out ?_
            refine rs_old (hO _ _) (.inl (Nat.ne_of_beq_eq_false rfl)) _ (.inl rfl) _ rfl rfl ?_
            apply rs_eq (hO _ _) (.inl (Nat.ne_of_beq_eq_false rfl))
            · intro ρ w' ho hK
              have ho : Only _ w5 w' := ho
              obtain ⟨h0, -⟩ := hK
              have h0' : ρ (.tmp 2) = _ := h0
              go_simp
              try exact rfl
            apply rs_eq (hO _ _) (.inl (Nat.ne_of_beq_eq_false rfl))
            · intro ρ w' ho hK
              have ho : Only _ w5 w' := ho
              obtain ⟨h0, -⟩ := hK
              have h0' : ρ (.tmp 36) = _ := h0
              have q0 := cell_only ho hNg z p2
              have q1 := HK0.out w' (HBx w' ho)
              obtain ⟨j1, j2, j3, j4⟩ := HK.out w' (HBx w' ho)
              go_simp
              try exact rfl
            refine rs_old (hO _ _) (.inl (Nat.ne_of_beq_eq_false rfl)) _ (.inl rfl) _ rfl rfl ?_
            apply rs_eq (hO _ _) (.inl (Nat.ne_of_beq_eq_false rfl))
            · intro ρ w' ho hK
              have ho : Only _ w5 w' := ho
              obtain ⟨h0, h1, -⟩ := hK
              have h0' : ρ (.tmp 37) = _ := h0
              have h1' : ρ (.tmp 38) = _ := h1
              go_simp
              try exact rfl
            apply rs_eq (hO _ _) (.inl (Nat.ne_of_beq_eq_false rfl))
            · intro ρ w' ho hK
              have ho : Only _ w5 w' := ho
              obtain ⟨h0, -⟩ := hK
              have h0' : ρ (.tmp 39) = _ := h0
              have q0 := cell_only ho hNg z p2
              have q1 := HK0.out w' (HBx w' ho)
              obtain ⟨j1, j2, j3, j4⟩ := HK.out w' (HBx w' ho)
              go_simp
              try exact rfl
            refine rs_old (hO _ _) (.inl (Nat.ne_of_beq_eq_false rfl)) _ (.inl rfl) _ rfl rfl ?_
            refine rs_old (hO _ _) (.inl (Nat.ne_of_beq_eq_false rfl)) _ (.inl rfl) _ rfl rfl ?_
            apply rs_eq (hO _ _) (.inl (Nat.ne_of_beq_eq_false rfl))
            · intro ρ w' ho hK
              have ho : Only _ w5 w' := ho
              obtain ⟨h0, h1, -⟩ := hK
              have h0' : ρ (.tmp 41) = _ := h0
              have h1' : ρ (.tmp 42) = _ := h1
              go_simp
              try exact rfl
            apply rs_eq (hO _ _) (.inl (Nat.ne_of_beq_eq_false rfl))
            · intro ρ w' ho hK
              have ho : Only _ w5 w' := ho
              obtain ⟨h0, -⟩ := hK
              have h0' : ρ (.tmp 43) = _ := h0
              have q0 := cell_only ho hNg z p2
              have q1 := HK0.out w' (HBx w' ho)
              obtain ⟨j1, j2, j3, j4⟩ := HK.out w' (HBx w' ho)
              go_simp
              try exact rfl
            apply rs_eq (hO _ _) (.inl (Nat.ne_of_beq_eq_false rfl))
            · intro ρ w' ho hK
              have ho : Only _ w5 w' := ho
              obtain ⟨h0, h1, -⟩ := hK
              have h0' : ρ (.tmp 40) = _ := h0
              have h1' : ρ (.tmp 44) = _ := h1
              go_simp
              try exact rfl
            apply rs_eq (hO _ _) (.inl (Nat.ne_of_beq_eq_false rfl))
            · intro ρ w' ho hK
              have ho : Only _ w5 w' := ho
              obtain ⟨h0, -⟩ := hK
              have h0' : ρ (.tmp 45) = _ := h0
              have q0 := cell_only ho hNg z p2
              have q1 := HK0.out w' (HBx w' ho)
              obtain ⟨j1, j2, j3, j4⟩ := HK.out w' (HBx w' ho)
              go_simp
              try exact rfl
            refine rs_build1 (hO _ _) (.inl (Nat.ne_of_beq_eq_false rfl)) 1 [.int .i64 O] 3 rfl (fun ρ w' ho hK => by
              have ho : Only _ w5 w' := ho
              obtain ⟨h0, -⟩ := hK
              have h0' : ρ (.tmp 46) = _ := h0
              go_simp) ?_
            refine rs_append1 rfl (w.heap.size + 1) 3 28 1 (vv) (k) (cs) _ rfl rfl (fun g hg => hg) (show w.heap.size + 1 ≤ w5.heap.size by omega) _ _ rfl _ _ rfl rfl rfl rfl i0 _ 8 Try.underlying28 hi0 hz0 hz1 hz2 rfl (by decide) (by omega) (by decide) (by simp [Value.oneCell']) ?_
            refine rs_same (hO _ _) (.inl (Nat.ne_of_beq_eq_false rfl)) 48 13 (.inr rfl) rfl _ rfl ?_
            intro f w9 k9 hk9 hI9 ht9 hcp9
            have E0 : f 0 = _ := ht9 0 (Nat.le_of_ble_eq_true rfl)
            conv at E0 => rhs; whnf
            have E1 : f 1 = _ := ht9 1 (Nat.le_of_ble_eq_true rfl)
            have E2 : f 2 = _ := ht9 2 (Nat.le_of_ble_eq_true rfl)
            have E3 : f 3 = _ := ht9 3 (Nat.le_of_ble_eq_true rfl)
            conv at E3 => rhs; whnf
            have E4 : f 4 = _ := ht9 4 (Nat.le_of_ble_eq_true rfl)
            have E5 : f 5 = _ := ht9 5 (Nat.le_of_ble_eq_true rfl)
            have E6 : f 6 = _ := ht9 6 (Nat.le_of_ble_eq_true rfl)
            conv at E6 => rhs; whnf
            have E7 : f 7 = _ := ht9 7 (Nat.le_of_ble_eq_true rfl)
            conv at E7 => rhs; whnf
            have E8 : f 8 = _ := ht9 8 (Nat.le_of_ble_eq_true rfl)
            have E9 : f 9 = _ := ht9 9 (Nat.le_of_ble_eq_true rfl)
            have E10 : f 10 = _ := ht9 10 (Nat.le_of_ble_eq_true rfl)
            have E11 : f 11 = _ := ht9 11 (Nat.le_of_ble_eq_true rfl)
            have E12 : (TNew _ 1 1 [.int .i64 O]) w9 (f 12) := ht9 12 (Nat.le_of_ble_eq_true rfl)
            have E13 : (TAny) w9 (f 13) := ht9 13 (Nat.le_of_ble_eq_true rfl)
            have E14 : (TAny) w9 (f 14) := ht9 14 (Nat.le_of_ble_eq_true rfl)
            have Ho9 : Only _ w5 w9 := hI9.2.1
            have hown9 : w9.ownsRow (w.heap.size + 1) 3 1 (f 13) (k + 1) (cs ++ [.int .i64 O]) := hI9.2.2
            have C14 : f 14 = f 13 := (hcp9 14 _ 48 13 rfl rfl rfl rfl).2
            simp only [putAll, E0, E1, E2, E3, E4, E5, E6, E7, E8, E9, E10, E11, C14, Nat.zero_add, Nat.reduceAdd, Act.put, List.setIfInBounds_toArray, List.set_cons_succ, List.set_cons_zero]
            clear E0 E1 E2 E3 E4 E5 E6 E7 E8 E9 E10 E11
            clear hI9 ht9 hcp9 hk9
            generalize f 12 = r12 at *
            generalize f 13 = r13 at *
            have B10 := Lib.hid (HBx w9 Ho9)
            have P10 : Hid (MCells w9 w.heap.size N (.slice (some ⟨bn, on, none⟩) m.next.length cn) (.slice (some ⟨bo, oo, none⟩) m.out.length co)) := Lib.hid ⟨Nat.lt_of_lt_of_le z Ho9.size, cell_only Ho9 hNg z p0, cell_only Ho9 hNg z p1, cell_only Ho9 hNg z p2⟩
            have O10 := Lib.hid hown9
            have hz10 : w.heap.size + 2 ≤ w9.heap.size := Nat.le_trans hz9 Ho9.size
            clear Ho9 hown9 p0 p1 p2 z HBx hO P9 O9
            obtain ⟨w6, hw6⟩ : ∃ w6, w6 = w9 := ⟨_, rfl⟩
            subst hw6
            obtain ⟨z, p0, p1, p2⟩ := P10.out
            go_wp2_with fail
            refine wp_region_rs (quietRS Try.prog _ w6 _) quietRS_ok (by kernel_rfl) (by kernel_rfl) (by kernel_rfl) (Nat.le_of_ble_eq_true rfl) trivial trivial ?_
            apply rs_eq quietRS_ok quiet_any
            · intro ρ w' ho hK
              have ho : Only _ w6 w' := ho
              obtain ⟨h0, -⟩ := hK
              have h0' : ρ (.tmp 2) = _ := h0
              go_simp
              try exact rfl
            apply rs_eq quietRS_ok quiet_any
            · intro ρ w' ho hK
              have ho : Only _ w6 w' := ho
              obtain ⟨h0, -⟩ := hK
              have h0' : ρ (.tmp 49) = _ := h0
              have hb := only_below ho
              have q0 := (hb.cell (p := ⟨w.heap.size, 1, none⟩) z).trans p1
              have q1 := HK0.out w' (B10.out.trans (hb.mono (by omega)))
              obtain ⟨j1, j2, j3, j4⟩ := HK.out w' (B10.out.trans (hb.mono (by omega)))
              go_simp
              try exact rfl
            refine rs_old quietRS_ok quiet_any _ (.inl rfl) _ rfl rfl ?_
            apply rs_eq quietRS_ok quiet_any
            · intro ρ w' ho hK
              have ho : Only _ w6 w' := ho
              obtain ⟨h0, h1, -⟩ := hK
              have h0' : ρ (.tmp 50) = _ := h0
              have h1' : ρ (.tmp 51) = _ := h1
              go_simp
              try exact rfl
            apply rs_eq quietRS_ok quiet_any
            · intro ρ w' ho hK
              have ho : Only _ w6 w' := ho
              obtain ⟨h0, -⟩ := hK
              have h0' : ρ (.tmp 52) = _ := h0
              have hb := only_below ho
              have q0 := (hb.cell (p := ⟨w.heap.size, 1, none⟩) z).trans p1
              have q1 := HK0.out w' (B10.out.trans (hb.mono (by omega)))
              obtain ⟨j1, j2, j3, j4⟩ := HK.out w' (B10.out.trans (hb.mono (by omega)))
              go_simp
              try exact rfl
            refine rs_old quietRS_ok quiet_any _ (.inl rfl) _ rfl rfl ?_
            refine rs_old quietRS_ok quiet_any _ (.inl rfl) _ rfl rfl ?_
            apply rs_eq quietRS_ok quiet_any
            · intro ρ w' ho hK
              have ho : Only _ w6 w' := ho
              obtain ⟨h0, h1, -⟩ := hK
              have h0' : ρ (.tmp 54) = _ := h0
              have h1' : ρ (.tmp 55) = _ := h1
              go_simp
              try exact rfl
            apply rs_eq quietRS_ok quiet_any
            · intro ρ w' ho hK
              have ho : Only _ w6 w' := ho
              obtain ⟨h0, -⟩ := hK
              have h0' : ρ (.tmp 56) = _ := h0
              have hb := only_below ho
              have q0 := (hb.cell (p := ⟨w.heap.size, 1, none⟩) z).trans p1
              have q1 := HK0.out w' (B10.out.trans (hb.mono (by omega)))
              obtain ⟨j1, j2, j3, j4⟩ := HK.out w' (B10.out.trans (hb.mono (by omega)))
              go_simp
              try exact rfl
            apply rs_eq quietRS_ok quiet_any
            · intro ρ w' ho hK
              have ho : Only _ w6 w' := ho
              obtain ⟨h0, h1, -⟩ := hK
              have h0' : ρ (.tmp 53) = _ := h0
              have h1' : ρ (.tmp 57) = _ := h1
              go_simp
              try exact rfl
            apply rs_eq quietRS_ok quiet_any
            · intro ρ w' ho hK
              have ho : Only _ w6 w' := ho
              obtain ⟨h0, -⟩ := hK
              have h0' : ρ (.tmp 58) = _ := h0
              have hb := only_below ho
              have q0 := (hb.cell (p := ⟨w.heap.size, 1, none⟩) z).trans p1
              have q1 := HK0.out w' (B10.out.trans (hb.mono (by omega)))
              obtain ⟨j1, j2, j3, j4⟩ := HK.out w' (B10.out.trans (hb.mono (by omega)))
              go_simp
              try exact rfl
            refine rs_same quietRS_ok quiet_any 59 10 (.inr rfl) rfl _ rfl ?_
            intro f w9 k9 hk9 hI9 ht9 hcp9
            have E0 : f 0 = _ := ht9 0 (Nat.le_of_ble_eq_true rfl)
            have E1 : f 1 = _ := ht9 1 (Nat.le_of_ble_eq_true rfl)
            have E2 : f 2 = _ := ht9 2 (Nat.le_of_ble_eq_true rfl)
            conv at E2 => rhs; whnf
            have E3 : f 3 = _ := ht9 3 (Nat.le_of_ble_eq_true rfl)
            have E4 : f 4 = _ := ht9 4 (Nat.le_of_ble_eq_true rfl)
            have E5 : f 5 = _ := ht9 5 (Nat.le_of_ble_eq_true rfl)
            conv at E5 => rhs; whnf
            have E6 : f 6 = _ := ht9 6 (Nat.le_of_ble_eq_true rfl)
            conv at E6 => rhs; whnf
            have E7 : f 7 = _ := ht9 7 (Nat.le_of_ble_eq_true rfl)
            have E8 : f 8 = _ := ht9 8 (Nat.le_of_ble_eq_true rfl)
            have E9 : f 9 = _ := ht9 9 (Nat.le_of_ble_eq_true rfl)
            have E10 : f 10 = _ := ht9 10 (Nat.le_of_ble_eq_true rfl)
            have E11 : f 11 = _ := ht9 11 (Nat.le_of_ble_eq_true rfl)
            have Ho9 : Only _ w6 w9 := hI9.2.1
            simp only [putAll, E0, E1, E2, E3, E4, E5, E6, E7, E8, E9, E10, E11, Nat.zero_add, Nat.reduceAdd, Act.put, List.setIfInBounds_toArray, List.set_cons_succ, List.set_cons_zero]
            clear E0 E1 E2 E3 E4 E5 E6 E7 E8 E9 E10 E11
            clear hI9 ht9 hcp9 hk9
            have hb9 := only_below Ho9
            have B11 := Lib.hid (B10.out.trans (hb9.mono (by omega)))
            have P11 := Lib.hid (P10.out.below hb9)
            have O11 := Lib.hid (own_below O10.out hb9)
            have hz11 : w.heap.size + 2 ≤ w9.heap.size := Nat.le_trans hz10 hb9.size
            clear Ho9 hb9 p0 p1 p2 z P10 O10
            go_wp2_with fail
            go_roundw
            case rel => exact ⟨_, k + 1, y, rfl, by omega, by go_num, rfl, hy, HSt, Hn, Lib.hid (by rw [HOu.out]; exact O11.out), P11, hz11, B11.out⟩
            case measure => simp [intOf] <;> omega
        · obtain rfl : k = ins.length := by omega
          have HR : Hid (res = Mac.outs m 0 ins) := Lib.hid (by rw [hres.out, List.drop_eq_nil_of_le (Nat.le_refl _)]; rfl)
          go_wp2_with fail
          go_ret
          exact ⟨_, rfl, by rw [HR.out, Mac.outs_length]; have := Ho.out; rw [List.take_length] at this; exact own_mono this (by omega), hb⟩
end Go.Proofs.Ytmlmnelbphjfbaa

namespace Go.Proofs.Ytmlmnelbphjfbaa
open Go.RowKit
/-! Prefixes of runs. -/
namespace Mac
theorem run_prefix {m : Mz} {ins : List Int} (h : (runI m ins).length ≠ 0) : (runI m ins).length = ins.length ∧ ∀ n, runI m (ins.take n) = (runI m ins).take n := by
  unfold runI at h ⊢
  cases hr : runOk m ins
  · rw [hr] at h
    simp at h
  · refine ⟨by rw [if_pos rfl, outs_length], fun n => ?_⟩
    have hr2 : runOk m (ins.take n) = true := by
      unfold runOk at hr ⊢
      rw [Bool.and_eq_true, Bool.and_eq_true] at hr ⊢
      obtain ⟨⟨h1, h2⟩, h3⟩ := hr
      rw [decide_eq_true_eq] at h2
      refine ⟨⟨h1, decide_eq_true (by rw [List.length_take]; omega)⟩, ?_⟩
      rw [List.all_eq_true] at h3 ⊢
      exact fun x hx => h3 x (List.mem_of_mem_take hx)
    rw [if_pos hr2, if_pos rfl]
    have := outs_append m (ins.take n) (ins.drop n) 0
    rw [List.take_append_drop] at this
    rw [this]
    have hlen : (outs m 0 (ins.take n)).length = min n ins.length := by rw [outs_length, List.length_take]
    rcases Nat.le_total n ins.length with hl | hl
    · rw [List.take_append_of_le_length (by omega)]
      exact (List.take_of_length_le (l := outs m 0 (ins.take n)) (by omega)).symm
    · rw [List.drop_eq_nil_of_le hl, outs, List.append_nil]
      exact (List.take_of_length_le (l := outs m 0 (ins.take n)) (by omega)).symm
end Mac
theorem ints_take {w : World} {A : Option Addr} {c n : Nat} {xs : List Int} (h : IntsAt w (.slice A xs.length c) xs) (hn : n ≤ xs.length) : IntsAt w (.slice A n c) (xs.take n) := by
  obtain ⟨r1, A', c', r2, r3, r4, r5⟩ := h
  injection r2 with e1 e2 e3
  subst e1 e3
  refine ⟨by rw [ints_length, List.length_take]; omega, A, c, by rw [List.length_take, Nat.min_eq_left hn], by rw [List.length_take]; omega, r4, fun hp => ?_⟩
  rw [List.length_take] at hp
  obtain ⟨b, o, hA, hb, hc⟩ := r5 (by omega)
  refine ⟨b, o, hA, hb, fun j u hu => hc j u ?_⟩
  unfold ints at hu ⊢
  rw [List.map_take, List.getElem?_take] at hu
  split at hu
  · exact hu
  · cases hu
end Go.Proofs.Ytmlmnelbphjfbaa
