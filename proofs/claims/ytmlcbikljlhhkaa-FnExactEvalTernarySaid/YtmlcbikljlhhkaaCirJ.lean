import Derived.Test.YtmlcbikljlhhkaaCirI
namespace Go.Proofs.Ytmlcbikljlhhkaa
open Go.RowKit
set_option maxRecDepth 100000
namespace Cir
/-- The values of a literal, an assignment each. -/
def litAt (d : Ci) (l x : Nat) : Bool := lit (vals d (bits (x / 2 ^ d.ins) d.next.length) (bits x d.ins)) l
def litTab (d : Ci) (l n : Nat) : List Bool := (List.range n).map (litAt d l)
theorem litTab_snoc (d : Ci) (l n : Nat) : litTab d l (n + 1) = litTab d l n ++ [litAt d l n] := by
  unfold litTab
  rw [List.range_succ, List.map_append]
  rfl
theorem litTab_length (d : Ci) (l n : Nat) : (litTab d l n).length = n := by simp [litTab]
theorem litTab_get (d : Ci) (l : Nat) {n k : Nat} (h : k < n) : (litTab d l n)[k]? = some (litAt d l k) := by simp [litTab, h]
theorem litAt_flat {d : Ci} (h : d.next = []) (l x : Nat) : litAt d l x = lit (vals d [] (bits x d.ins)) l := by
  unfold litAt
  rw [h]
  rfl
/-- What TableOf answers. -/
def tabI (c : Cz) (l : Int) : Int := if valid c = true ∧ c.next = [] ∧ isLit l (vars c) = true then (tab (nat c) l.toNat (2 ^ (nat c).ins) : Nat) else -1
end Cir
set_option maxHeartbeats 4000000 in
theorem litTable_any (g : Nat) (d : Ci) (l : Nat) (w : World) (h : PCirc w g (Cir.toCz d)) (hd : Cir.Ok d) (hl : l < 2 * Cir.nvars d) :
    Calls Try.prog 69 #[.pointer (some ⟨g, 0, none⟩), .int .i64 l] w (OwnBools (Cir.litTab d l (2 ^ (d.ins + d.next.length))) w) := by
  have s1 := hd.ins
  have s2 := hd.nexts
  have s3 := hd.gatess
  have hnl : (Cir.toCz d).next.length = d.next.length := List.length_map _
  have hnv : Cir.nvars d ≤ 22 := by unfold Cir.nvars Cir.nfirst; omega
  obtain ⟨M, hM⟩ : ∃ M : Nat, M = 2 ^ (d.ins + d.next.length) := ⟨_, rfl⟩
  have hM128 : M ≤ 128 := by rw [hM]; exact Nat.pow_le_pow_right (show 0 < 2 by decide) (show _ ≤ 7 by omega)
  have HA : Hid (∀ w', Below w.heap.size w w' → Calls Try.prog 89 #[.pointer (some ⟨g, 0, none⟩)] w' fun e w'' => e = .returned (.int .i64 (M : Nat)) ∧ Below w'.heap.size w' w'') := Lib.hid fun w' hb => by
    rw [hM]
    exact assignments_any g _ (d.ins + d.next.length) w' (h.below hb) (by rw [hnl]; show (d.ins : Int) + _ = _; omega) (by omega)
  have HI : Hid (∀ (x : Nat) w', x ≤ 1000000 → Below w.heap.size w w' → Calls Try.prog 90 #[.pointer (some ⟨g, 0, none⟩), .int .i64 x] w' (OwnBools (Cir.bits x d.ins) w')) := Lib.hid fun x w' hx hb => inputBits_any g _ d.ins x w' (h.below hb) rfl (by omega) hx
  have HL : Hid (∀ (x : Nat) w', x ≤ 1000000 → Below w.heap.size w w' → Calls Try.prog 91 #[.pointer (some ⟨g, 0, none⟩), .int .i64 x] w' (OwnBools (Cir.bits (x / 2 ^ d.ins) d.next.length) w')) := Lib.hid fun x w' hx hb => latchBits_any g _ d.ins d.next.length x w' (h.below hb) rfl hnl (by omega) (by omega) hx
  have HP := Lib.hid h
  have HD := Lib.hid hd
  rw [← hM]
  clear hM h hd hnl
  go_enter Try.func69, Try.ntmps69
  go_wp2_with fail
  refine (HA.out _ (Below.refl _ _)).mono ?_
  rintro e w1 ⟨rfl, hb1⟩
  have B1 := Lib.hid hb1
  clear hb1 HA
  go_wp2_with fail
  go_loopw [5, 9] (fun v i wr => ∃ (vv : Value) (k : Nat), vv = v ∧ k ≤ M ∧ i = .int .i64 k ∧ Hid (wr.ownsRow w.heap.size 4 1 v k (bools (Cir.litTab d l k))) ∧ Below w.heap.size w wr) (fun _ i _ => M - (intOf i).toNat)
  case atStart => exact ⟨_, 0, rfl, Nat.zero_le _, rfl, Lib.hid (World.ownsRow_nil _ _ _ _), B1.out⟩
  case round =>
    obtain ⟨vv, k, hvv, hk, rfl, Ho, hb⟩ := hrel
    subst hvv
    by_cases hlt : k < M
    · have hz := hb.size
      have Hb := Lib.hid hb
      have HS : Hid (bools (Cir.litTab d l (k + 1)) = bools (Cir.litTab d l k) ++ [.bool (Cir.litAt d l k)]) := Lib.hid (by rw [Cir.litTab_snoc, bools_append]; rfl)
      have HX : Hid (Cir.lit (Cir.vals d (Cir.bits (k / 2 ^ d.ins) d.next.length) (Cir.bits k d.ins)) l = Cir.litAt d l k) := Lib.hid rfl
      have hk1 : k ≤ 1000000 := by omega
      clear hb
      go_wp2_with fail
      refine (HL.out k _ hk1 Hb.out).mono ?_
      rintro e w2 ⟨v2, rfl, hown2, hb2⟩
      have Ho2 := Lib.hid hown2
      have Hb2 := Lib.hid (Hb.out.trans (hb2.mono hz))
      have HoA := Lib.hid (own_below Ho.out hb2)
      have hz2 := Nat.le_trans hz hb2.size
      clear hown2 hb2
      go_wp2_with fail
      refine (HI.out k _ hk1 Hb2.out).mono ?_
      rintro e w3 ⟨v3, rfl, hown3, hb3⟩
      have Ho3 := Lib.hid hown3
      have Ho23 := Lib.hid (own_below Ho2.out hb3)
      have Hb3 := Lib.hid (Hb2.out.trans (hb3.mono hz2))
      have HoB := Lib.hid (own_below HoA.out hb3)
      have hz3 := Nat.le_trans hz2 hb3.size
      clear hown3 hb3
      go_wp2_with fail
      refine (evaluate_any g d v2 v3 _ _ _ (HP.out.below Hb3.out) HD.out (ownBools_at Ho23.out) (ownBools_at Ho3.out) (Cir.bits_length _ _) (Cir.bits_length _ _)).mono ?_
      rintro e w4 ⟨v4, rfl, hown4, hb4⟩
      have Ho4 := Lib.hid hown4
      have Hb4 := Lib.hid (Hb3.out.trans (hb4.mono hz3))
      have HoC := Lib.hid (own_below HoB.out hb4)
      have hz4 := Nat.le_trans hz3 hb4.size
      clear hown4 hb4
      go_wp2_with fail
      refine (litValue_any v4 _ l _ (ownBools_at Ho4.out) (by rw [Cir.vals_length d (Cir.bits_length _ _) (Cir.bits_length _ _)]; exact hl) (by omega)).mono ?_
      rintro e w' ⟨rfl, rfl⟩
      rw [HX.out]
      generalize Cir.litAt d l k = u at *
      have Hlit := Lib.hid (Row.of_own (World.ownsRow_lit (base := w4.heap.size) (e := 4) (size := 1) w4 #[.bool u] 1 (Nat.le_refl _) (by unfold maxLen; omega) rfl))
      go_wp2_with (at_builtin; refine append_bools rfl (.tmp 12) (.tmp 23) rfl w.heap.size _ k _ rfl (HoC.out.alloc _) _ 1 [.bool u] rfl Hlit.out (by simp [Value.oneCell']) (by omega) (by simp; omega) ?_; intro v7 w7 hown7 hg7 hat7; have Ho7 := Lib.hid hown7; have Hg7 := Lib.hid hg7; clear hown7 hg7 hat7)
      go_roundw
      case rel => exact ⟨_, k + 1, rfl, by omega, by go_num, Lib.hid (by rw [HS.out]; exact Ho7.out), (Hb4.out.alloc hz4 _).grown Hg7.out (Hb4.out.alloc hz4 _).size (own_ge0 HoC.out)⟩
      case measure => simp [intOf] <;> omega
    · obtain rfl : k = M := by omega
      go_wp2_with fail
      go_ret
      exact ⟨_, rfl, by rw [Cir.litTab_length]; exact Ho.out, hb⟩
theorem valid_sizes {c : Cz} (h : Cir.valid c = true) : 0 ≤ c.ins ∧ c.ins ≤ 4 ∧ c.next.length ≤ 3 ∧ c.gates.length ≤ 14 ∧ c.outs.length ≤ 3 := by
  unfold Cir.valid at h
  rw [Bool.and_eq_true, Bool.and_eq_true] at h
  have := h.1.1
  unfold Cir.sizes at this
  simpa using this
set_option maxHeartbeats 4000000 in
theorem implTable_no (v : Value) (c : Cz) (l : Int) (w : World) (h : CircAt w v c) (hno : Cir.valid c = false ∨ (Cir.valid c = true ∧ 0 < c.next.length) ∨ (Cir.valid c = true ∧ c.next.length = 0 ∧ Cir.isLit l (Cir.vars c) = false)) :
    Calls Try.prog 18 #[v, .int .i64 l] w fun e w' => e = .returned (.int .i64 (-1)) ∧ Below w.heap.size w w' := by
  obtain ⟨vn, vg, vo, rfl, r1, r2, r3⟩ := h
  obtain ⟨An, cn, hvn, hcn, hcmn⟩ := r1.shape
  subst hvn
  have hb0 : Below w.heap.size w (w.alloc (.cells #[.int .i64 c.ins, .slice An c.next.length cn, vg, vo] 30)) := (Below.refl _ _).alloc (Nat.le_refl _) _
  obtain ⟨z, p0, p1, p2, p3⟩ := PCells.boxed w c.ins (.slice An c.next.length cn) vg vo 30
  have hPC := PCirc.boxed (w := w) (c := c) 30 r1 r2 r3
  have HC : ∀ n : GW (w.alloc (.cells #[.int .i64 c.ins, .slice An c.next.length cn, vg, vo] 30)), CircAt (gw n) (.agg #[.int .i64 c.ins, .slice An c.next.length cn, vg, vo]) c := fun n =>
    ⟨_, _, _, rfl, Row.below r1 (hb0.trans ((gw_below n).mono hb0.size)), Row.below r2 (hb0.trans ((gw_below n).mono hb0.size)), Row.below r3 (hb0.trans ((gw_below n).mono hb0.size))⟩
  generalize hW : w.alloc (.cells #[.int .i64 c.ins, .slice An c.next.length cn, vg, vo] 30) = W at *
  have g0 := gw_cell p0 z
  have g1 := gw_cell p1 z
  have g2 := gw_cell p2 z
  have g3 := gw_cell p3 z
  have HV : Hid (∀ n : GW W, Calls Try.prog 66 #[.agg #[.int .i64 c.ins, .slice An c.next.length cn, vg, vo]] (gw n) fun e w' => e = .returned (.bool (Cir.valid c)) ∧ Below (gw n).heap.size (gw n) w') := Lib.hid fun n => implValid_any _ c _ (HC n)
  have B0 := Lib.hid hb0
  clear r1 r2 r3 hb0
  rcases hno with hv | ⟨hv, hl⟩ | ⟨hv, hl, hi⟩
  · rw [hv] at HV
    clear hv HC hPC
    go_enter Try.func18, Try.ntmps18
    go_wp2_with fail
    refine (HV.out ⟨W, Below.refl _ _⟩).mono ?_
    rintro e w1 ⟨rfl, hb1⟩
    have g1' := (hb1.cell (p := ⟨w.heap.size, 1, none⟩) z).trans p1
    have Hb1 : Hid (Below W.heap.size W w1) := Lib.hid hb1
    clear g0 g1 g2 g3 hb1 p0 p1 p2 p3
    go_wp2_with fail
    go_ret
    exact ⟨rfl, B0.out.trans (Hb1.out.mono B0.out.size)⟩
  · rw [hv] at HV
    have hd : decide (0 < c.next.length) = true := decide_eq_true hl
    clear hv HC hl hPC
    go_enter Try.func18, Try.ntmps18
    go_wp2_with fail
    refine (HV.out ⟨W, Below.refl _ _⟩).mono ?_
    rintro e w1 ⟨rfl, hb1⟩
    have g1' := (hb1.cell (p := ⟨w.heap.size, 1, none⟩) z).trans p1
    have Hb1 : Hid (Below W.heap.size W w1) := Lib.hid hb1
    clear g0 g1 g2 g3 hb1 p0 p1 p2 p3
    go_wp2_with fail
    go_ret
    exact ⟨rfl, B0.out.trans (Hb1.out.mono B0.out.size)⟩
  · rw [hv] at HV
    obtain ⟨s1, s2, s3, s4, s5⟩ := valid_sizes hv
    have HF : Hid (∀ n : GW W, Calls Try.prog 68 #[.pointer (some ⟨w.heap.size, 0, none⟩)] (gw n) fun e w' => e = .returned (.int .i64 (Cir.vars c)) ∧ Below (gw n).heap.size (gw n) w') := Lib.hid fun n => vars_any _ c _ (hPC.below (gw_below n)) s1 (by omega) (by omega) (by omega)
    have hvb : -1000000 ≤ Cir.vars c ∧ Cir.vars c ≤ 1000000 := by unfold Cir.vars Cir.first; omega
    have HI : Hid (∀ n : GW W, Calls Try.prog 67 #[.int .i64 l, .int .i64 (Cir.vars c)] (gw n) fun e w' => e = .returned (.bool false) ∧ gw n = w') := Lib.hid fun n => by
      have h1 := isLit_any l (Cir.vars c) (gw n) hvb.1 hvb.2
      rwa [hi] at h1
    have hd : decide (0 < c.next.length) = false := decide_eq_false (by omega)
    have hd4 : decide (4 < c.ins) = false := decide_eq_false (by omega)
    clear hv HC hi hl hPC
    generalize Cir.vars c = V at *
    go_enter Try.func18, Try.ntmps18
    go_wp2_with fail
    refine (HV.out ⟨W, Below.refl _ _⟩).mono ?_
    rintro e w1 ⟨rfl, hb1⟩
    have g1' := (hb1.cell (p := ⟨w.heap.size, 1, none⟩) z).trans p1
    have g0' := (hb1.cell (p := ⟨w.heap.size, 0, none⟩) z).trans p0
    have Hb1 : Hid (Below W.heap.size W w1) := Lib.hid hb1
    clear g0 g1 g2 g3 hb1 p0 p1 p2 p3
    go_wp2_with fail
    refine (HF.out ⟨w1, Hb1.out⟩).mono ?_
    rintro e w2 ⟨rfl, hb2⟩
    have Hb2 := Lib.hid (Hb1.out.trans (hb2.mono Hb1.out.size))
    clear hb2 g0' g1'
    go_wp2_with fail
    refine (HI.out ⟨w2, Hb2.out⟩).mono ?_
    rintro e w' ⟨rfl, rfl⟩
    simp only [gw]
    go_wp2_with fail
    go_ret
    exact ⟨rfl, B0.out.trans (Hb2.out.mono B0.out.size)⟩
set_option maxHeartbeats 4000000 in
theorem implTable_ok (v : Value) (d : Ci) (l : Nat) (w : World) (h : CircAt w v (Cir.toCz d)) (hd : Cir.Ok d) (hv : Cir.valid (Cir.toCz d) = true) (hn : d.next = []) (hl : l < 2 * Cir.nvars d) :
    Calls Try.prog 18 #[v, .int .i64 l] w fun e w' => e = .returned (.int .i64 (Cir.tab d l (2 ^ d.ins) : Nat)) ∧ Below w.heap.size w w' := by
  have s1 := hd.ins
  have s3 := hd.gatess
  have hnl : (Cir.toCz d).next.length = 0 := by simp [Cir.toCz, hn]
  have hgl : (Cir.toCz d).gates.length = d.gates.length := List.length_map _
  have hnv : Cir.nvars d ≤ 19 := by unfold Cir.nvars Cir.nfirst; rw [hn]; simp; omega
  have HCa := Lib.hid h
  have hins : (Cir.toCz d).ins = (d.ins : Int) := rfl
  obtain ⟨vn, vg, vo, rfl, r1, r2, r3⟩ := h
  obtain ⟨An, cn, hvn, hcn, hcmn⟩ := r1.shape
  rw [hnl] at hvn
  subst hvn
  have hPC : PCirc (w.alloc (.cells #[.int .i64 d.ins, .slice An 0 cn, vg, vo] 30)) w.heap.size (Cir.toCz d) := PCirc.boxed (w := w) (c := Cir.toCz d) 30 r1 r2 r3
  rw [hins] at HCa ⊢
  have hb0 : Below w.heap.size w (w.alloc (.cells #[.int .i64 d.ins, .slice An 0 cn, vg, vo] 30)) := (Below.refl _ _).alloc (Nat.le_refl _) _
  obtain ⟨z, p0, p1, p2, p3⟩ := PCells.boxed w d.ins (.slice An 0 cn) vg vo 30
  have HCW : Hid (CircAt (w.alloc (.cells #[.int .i64 d.ins, .slice An 0 cn, vg, vo] 30)) (.agg #[.int .i64 d.ins, .slice An 0 cn, vg, vo]) (Cir.toCz d)) := Lib.hid (HCa.out.below hb0)
  generalize hW : w.alloc (.cells #[.int .i64 d.ins, .slice An 0 cn, vg, vo] 30) = W at *
  have g0 := gw_cell p0 z
  have g1 := gw_cell p1 z
  have g2 := gw_cell p2 z
  have g3 := gw_cell p3 z
  have HV : Hid (∀ n : GW W, Calls Try.prog 66 #[.agg #[.int .i64 d.ins, .slice An 0 cn, vg, vo]] (gw n) fun e w' => e = .returned (.bool true) ∧ Below (gw n).heap.size (gw n) w') := Lib.hid fun n => by
    have := implValid_any _ _ _ (HCW.out.below (gw_below n))
    rwa [hv] at this
  have HF : Hid (∀ n : GW W, Calls Try.prog 68 #[.pointer (some ⟨w.heap.size, 0, none⟩)] (gw n) fun e w' => e = .returned (.int .i64 (Cir.nvars d : Nat)) ∧ Below (gw n).heap.size (gw n) w') := Lib.hid fun n => by
    have := vars_any _ _ _ (hPC.below (gw_below n)) (by show (0 : Int) ≤ (d.ins : Int); omega) (by show (d.ins : Int) ≤ 100; omega) (by omega) (by omega)
    rwa [Cir.vars_toCz] at this
  have HI : Hid (∀ n : GW W, Calls Try.prog 67 #[.int .i64 l, .int .i64 (Cir.nvars d : Nat)] (gw n) fun e w' => e = .returned (.bool true) ∧ gw n = w') := Lib.hid fun n => by
    have h1 := isLit_any l (Cir.nvars d : Nat) (gw n) (by omega) (by omega)
    rwa [show Cir.isLit (l : Int) ((Cir.nvars d : Nat) : Int) = true from decide_eq_true (by omega)] at h1
  have hd0 : decide (0 < 0) = false := rfl
  have hd4 : decide (4 < (d.ins : Int)) = false := decide_eq_false (by omega)
  have B0 := Lib.hid hb0
  have HD := Lib.hid hd
  have HP := Lib.hid hPC
  have HN := Lib.hid hn
  have Hl := Lib.hid hl
  obtain ⟨M, hM⟩ : ∃ M : Nat, M = 2 ^ d.ins := ⟨_, rfl⟩
  have hM16 : M ≤ 16 := by rw [hM]; exact Nat.pow_le_pow_right (show 0 < 2 by decide) s1
  have HM : Hid (2 ^ (d.ins + d.next.length) = M) := Lib.hid (by rw [hM, hn]; rfl)
  rw [← hM]
  clear r1 r2 r3 hb0 hd hv hn hnl hgl hM HCa hPC hl HCW
  obtain ⟨V, hV⟩ : ∃ V, Cir.nvars d = V := ⟨_, rfl⟩
  rw [hV] at HF HI hnv
  clear hV
  go_enter Try.func18, Try.ntmps18
  go_wp2_with fail
  refine (HV.out ⟨W, Below.refl _ _⟩).mono ?_
  rintro e w1 ⟨rfl, hb1⟩
  have g1' := (hb1.cell (p := ⟨w.heap.size, 1, none⟩) z).trans p1
  have g0' := (hb1.cell (p := ⟨w.heap.size, 0, none⟩) z).trans p0
  have Hb1 : Hid (Below W.heap.size W w1) := Lib.hid hb1
  clear g0 g1 g2 g3 hb1 p0 p1 p2 p3
  go_wp2_with fail
  refine (HF.out ⟨w1, Hb1.out⟩).mono ?_
  rintro e w2 ⟨rfl, hb2⟩
  have Hb2 := Lib.hid (Hb1.out.trans (hb2.mono Hb1.out.size))
  clear hb2 g0' g1'
  go_wp2_with fail
  refine (HI.out ⟨w2, Hb2.out⟩).mono ?_
  rintro e w' ⟨rfl, rfl⟩
  have e2 : gw (⟨w2, Hb2.out⟩ : GW W) = w2 := rfl
  rw [e2]
  clear e2
  have HPq := Lib.hid (HP.out.below Hb2.out)
  have Bq := Lib.hid (B0.out.trans (Hb2.out.mono B0.out.size))
  clear HV HF HI B0 HP
  go_wp2_with fail
  refine (litTable_any _ d l _ HPq.out HD.out Hl.out).mono ?_
  rintro e w3 ⟨v3, rfl, hown3, hb3⟩
  rw [Cir.litTab_length, HM.out] at hown3
  have hr3 := Row.of_own hown3
  obtain ⟨A3, c3, hv3, hc3, hcm3⟩ := hr3.shape
  subst hv3
  have Hr3 : Hid (Row w3 1 (.slice A3 M c3) M (bools (Cir.litTab d l M))) := Lib.hid hr3
  have B3 := Lib.hid (Bq.out.trans (hb3.mono Bq.out.size))
  clear hown3 hr3 hb3 hd0 hd4 hW Hb1 Hb2
  go_wp2_with fail
  go_loop [5, 31] (fun t x => ∃ k : Nat, k ≤ M ∧ x = .int .i64 k ∧ t = .int .i64 (Cir.tab d l k : Nat)) (fun _ x => M - (intOf x).toNat)
  case atStart => exact ⟨0, Nat.zero_le _, rfl, rfl⟩
  case round =>
    obtain ⟨k, hk, rfl, rfl⟩ := hrel
    by_cases hlt : k < M
    · have ht : Cir.tab d l k < 65536 := Nat.lt_of_lt_of_le (Cir.tab_lt d l k) (by
        have : (65536 : Nat) = 2 ^ 16 := by decide
        rw [this]; exact Nat.pow_le_pow_right (show 0 < 2 by decide) (by omega))
      have Hs : Hid (Cir.tab d l (k + 1) = Cir.tab d l k + (if Cir.litAt d l k then 2 ^ k else 0)) := Lib.hid (by rw [Cir.litAt_flat HN.out]; rfl)
      have hor := i64_or_nat (Cir.tab d l k) (2 ^ k) (by omega) (by
        have : 2 ^ k ≤ 2 ^ 15 := Nat.pow_le_pow_right (show 0 < 2 by decide) (by omega)
        have : (2 : Nat) ^ 15 = 32768 := by decide
        omega)
      rw [Cir.tab_or] at hor
      have hY : 2 ^ k ≤ 32768 := by
        have : (32768 : Nat) = 2 ^ 15 := by decide
        rw [this]; exact Nat.pow_le_pow_right (show 0 < 2 by decide) (by omega)
      have hYe : (2 : Int) ^ k = ((2 ^ k : Nat) : Int) := two_pow k
      generalize hYY : 2 ^ k = Y at *
      obtain ⟨b, o, c', hv, _, _, hbl, hcell⟩ := Hr3.out.open (by omega)
      injection hv with hv1 _ hv3
      subst hv1 hv3
      have hc0 := hcell k _ (show (bools (Cir.litTab d l M))[k]? = some (.bool (Cir.litAt d l k)) by unfold bools; rw [List.getElem?_map, Cir.litTab_get d l hlt]; rfl)
      have hwY : IntKind.i64.wrap (Y : Int) = (Y : Int) := IntWalk.i64_in _ (by omega)
      obtain ⟨T2, hT2⟩ : ∃ T2, Cir.tab d l (k + 1) = T2 := ⟨_, rfl⟩
      rw [hT2] at Hs
      have HT2 := Lib.hid hT2
      clear hcell hYY hT2
      cases hb : Cir.litAt d l k
      · rw [hb] at Hs hc0
        clear hor hb
        go_wp2_with fail
        go_round
        case rel => exact ⟨k + 1, by omega, by go_num, by rw [HT2.out, Hs.out]; rfl⟩
        case measure => simp [intOf] <;> omega
      · rw [hb] at Hs hc0
        clear hb
        go_wp2_with fail
        go_round
        case rel => exact ⟨k + 1, by omega, by go_num, by rw [HT2.out, Hs.out]; go_num⟩
        case measure => simp [intOf] <;> omega
    · obtain rfl : k = M := by omega
      go_wp2_with fail
      go_ret
      exact ⟨rfl, B3.out⟩
theorem next_nil {c : Cz} (h : c.next = []) : (Cir.nat c).next = [] := by unfold Cir.nat; rw [h]; rfl
theorem table_ok {c : Cz} {l : Int} (h : Cir.valid c = true ∧ c.next = [] ∧ Cir.isLit l (Cir.vars c) = true) : ∃ (d : Ci) (m : Nat), c = Cir.toCz d ∧ l = (m : Int) ∧ Cir.Ok d ∧ d.next = [] ∧ m < 2 * Cir.nvars d ∧ Cir.tabI c l = (Cir.tab d m (2 ^ d.ins) : Nat) := by
  obtain ⟨h1, h2⟩ := Cir.nat_ok h.1
  have h3 := h.2.2
  unfold Cir.isLit at h3
  rw [decide_eq_true_eq] at h3
  have h4 : Cir.vars c = (Cir.nvars (Cir.nat c) : Nat) := by
    rw [← Cir.vars_toCz, ← h1]
  exact ⟨Cir.nat c, l.toNat, h1, by omega, h2, next_nil h.2.1, by omega, by unfold Cir.tabI; rw [if_pos h]⟩
theorem table_no {c : Cz} {l : Int} (h : ¬ (Cir.valid c = true ∧ c.next = [] ∧ Cir.isLit l (Cir.vars c) = true)) : (Cir.valid c = false ∨ (Cir.valid c = true ∧ 0 < c.next.length) ∨ (Cir.valid c = true ∧ c.next.length = 0 ∧ Cir.isLit l (Cir.vars c) = false)) ∧ Cir.tabI c l = -1 := by
  refine ⟨?_, by unfold Cir.tabI; rw [if_neg h]⟩
  cases hv : Cir.valid c
  · exact .inl rfl
  · by_cases hn : c.next = []
    · refine .inr (.inr ⟨rfl, by rw [hn]; rfl, ?_⟩)
      cases hl : Cir.isLit l (Cir.vars c)
      · rfl
      · exact absurd ⟨hv, hn, hl⟩ h
    · exact .inr (.inl ⟨rfl, List.length_pos_iff.2 hn⟩)
theorem specTable_any (v : Value) (c : Cz) (l : Int) (w : World) (h : CircAt w v c) :
    Calls Try.prog 16 #[v, .int .i64 l] w fun e w' => e = .returned (.int .i64 (Cir.tabI c l)) ∧ Below w.heap.size w w' := by
  by_cases hc : Cir.valid c = true ∧ c.next = [] ∧ Cir.isLit l (Cir.vars c) = true
  · obtain ⟨d, m, rfl, rfl, hd, hn, hm, he⟩ := table_ok hc
    rw [he]
    exact specTable_ok v d m w h hd hc.1 hn hm
  · obtain ⟨h1, he⟩ := table_no hc
    rw [he]
    exact specTable_no v c l w h h1
theorem implTable_any (v : Value) (c : Cz) (l : Int) (w : World) (h : CircAt w v c) :
    Calls Try.prog 18 #[v, .int .i64 l] w fun e w' => e = .returned (.int .i64 (Cir.tabI c l)) ∧ Below w.heap.size w w' := by
  by_cases hc : Cir.valid c = true ∧ c.next = [] ∧ Cir.isLit l (Cir.vars c) = true
  · obtain ⟨d, m, rfl, rfl, hd, hn, hm, he⟩ := table_ok hc
    rw [he]
    exact implTable_ok v d m w h hd hc.1 hn hm
  · obtain ⟨h1, he⟩ := table_no hc
    rw [he]
    exact implTable_no v c l w h h1
end Go.Proofs.Ytmlcbikljlhhkaa
