import Derived.Test.YtmlcbikljlhhkaaGf
import Derived.Test.YtmlcbikljlhhkaaTernB
import Derived.Test.YtmlcbikljlhhkaaGc
import Derived.Test.YtmlcbikljlhhkaaGd
namespace Go.Proofs.Ytmlcbikljlhhkaa
open Go.RowKit
set_option maxRecDepth 100000
/-! Values of lists of literals; numbers of bits. -/
theorem lits_snoc {v : List Bool} {ls : List Nat} {k l : Nat} (h : ls[k]? = some l) : Cir.lits v (ls.take (k + 1)) = Cir.lits v (ls.take k) ++ [Cir.lit v l] := by
  unfold Cir.lits
  rw [take_snoc h, List.map_append]
  rfl
theorem lits_length (v : List Bool) (ls : List Nat) : (Cir.lits v ls).length = ls.length := List.length_map _
theorem litValues_any (v vl : Value) (xs : List Bool) (ls : List Nat) (w : World) (h : BoolsAt w v xs) (hl : NatsAt w vl ls) (hlt : ∀ l ∈ ls, l < 2 * xs.length) (hn : ls.length ≤ 1000) (hx : xs.length ≤ 1000) :
    Calls Try.prog 138 #[v, vl] w (OwnBools (Cir.lits xs ls) w) := by
  obtain ⟨A, c, rfl, hc, hcm⟩ := hl.shape
  have hmk := run_make_cap (P := Try.prog) 78 4 (.bool false) 1 1 Try.underlying78 info_bool .i64 .i64 ls.length (by omega) (by omega)
  simp only [Value.cells, Nat.mul_one] at hmk
  have Hl := Lib.hid hl
  have H := Lib.hid h
  have HLt := Lib.hid hlt
  clear hl h hlt
  go_enter Try.func138, Try.ntmps138
  go_wp2_with fail
  have hown0 := World.ownsRow_made (base := w.heap.size) (e := 4) (size := 1) w (madeCells #[Value.bool false] ls.length) ls.length (Nat.le_refl _) (by unfold maxLen; omega) (by simp [madeCells])
  have hb0 : Below w.heap.size w (w.alloc (.cells (madeCells #[Value.bool false] ls.length) 4)) := (Below.refl _ _).alloc (Nat.le_refl _) _
  clear hmk
  go_loopw [5, 13] (fun v i wr => ∃ (vv : Value) (k : Nat), vv = v ∧ k ≤ ls.length ∧ i = .int .i64 k ∧ Hid (wr.ownsRow w.heap.size 4 1 v k (bools (Cir.lits xs (ls.take k)))) ∧ Below w.heap.size w wr) (fun _ i _ => ls.length - (intOf i).toNat)
  case atStart => exact ⟨_, 0, rfl, Nat.zero_le _, rfl, Lib.hid hown0, hb0⟩
  case round =>
    obtain ⟨vv, k, hvv, hk, rfl, Ho, hb⟩ := hrel
    subst hvv
    clear hown0 hb0
    by_cases hlt : k < ls.length
    · have hz := hb.size
      have Hb := Lib.hid hb
      obtain ⟨b, o, l, rfl, hbl, hx0, hs0⟩ := nats_cell (nats_row (Hl.out.below hb)) rfl hlt
      have hl2 := HLt.out l (List.mem_of_getElem? hx0.out)
      have HS : Hid (bools (Cir.lits xs (ls.take (k + 1))) = bools (Cir.lits xs (ls.take k)) ++ [.bool (Cir.lit xs l)]) := Lib.hid (by rw [lits_snoc hx0.out, bools_append]; rfl)
      have Hx := Lib.hid (Row.below H.out hb)
      clear hb
      go_wp2_with fail
      refine (litValue_any _ xs l _ Hx.out hl2 (by omega)).mono ?_
      rintro e w' ⟨rfl, rfl⟩
      generalize Cir.lit xs l = u at *
      have Hlit := Lib.hid (Row.of_own (World.ownsRow_lit (base := wr.heap.size) (e := 4) (size := 1) wr #[.bool u] 1 (Nat.le_refl _) (by unfold maxLen; omega) rfl))
      go_wp2_with (at_builtin; refine append_bools rfl (.tmp 17) (.tmp 21) rfl w.heap.size _ k _ rfl (Ho.out.alloc _) _ 1 [.bool u] rfl Hlit.out (by simp [Value.oneCell']) (by omega) (by simp; omega) ?_; intro v7 w7 hown7 hg7 hat7; have Ho7 := Lib.hid hown7; have Hg7 := Lib.hid hg7; clear hown7 hg7 hat7)
      go_roundw
      case rel => exact ⟨_, k + 1, rfl, by omega, by go_num, Lib.hid (by rw [HS.out]; exact Ho7.out), (Hb.out.alloc hz _).grown Hg7.out (Hb.out.alloc hz _).size (own_ge0 Ho.out)⟩
      case measure => simp [intOf] <;> omega
    · obtain rfl : k = ls.length := by omega
      go_wp2_with fail
      go_ret
      exact ⟨_, rfl, by rw [lits_length]; have := Ho.out; rwa [List.take_length] at this, hb⟩
theorem l2Lits_any (v vl : Value) (xs : List Bool) (ls : List Nat) (w : World) (h : BoolsAt w v xs) (hl : NatsAt w vl ls) (hlt : ∀ l ∈ ls, l < 2 * xs.length) (hn : ls.length ≤ 1000) (hx : xs.length ≤ 1000) :
    Calls Try.prog 132 #[v, vl] w (OwnBools (Cir.lits xs ls) w) := by
  obtain ⟨A, c, rfl, hc, hcm⟩ := hl.shape
  have Hl := Lib.hid hl
  have H := Lib.hid h
  have HLt := Lib.hid hlt
  clear hl h hlt
  go_enter Try.func132, Try.ntmps132
  go_wp2_with fail
  go_loopw [5, 6] (fun v i wr => ∃ (vv : Value) (k : Nat), vv = v ∧ k ≤ ls.length ∧ i = .int .i64 k ∧ Hid (wr.ownsRow w.heap.size 4 1 v k (bools (Cir.lits xs (ls.take k)))) ∧ Below w.heap.size w wr) (fun _ i _ => ls.length - (intOf i).toNat)
  case atStart => exact ⟨_, 0, rfl, Nat.zero_le _, rfl, Lib.hid (World.ownsRow_lit (base := w.heap.size) (e := 4) (size := 1) w #[] 0 (Nat.le_refl _) (by unfold maxLen; omega) rfl), (Below.refl _ _).alloc (Nat.le_refl _) _⟩
  case round =>
    obtain ⟨vv, k, hvv, hk, rfl, Ho, hb⟩ := hrel
    subst hvv
    by_cases hlt : k < ls.length
    · have hz := hb.size
      have Hb := Lib.hid hb
      obtain ⟨b, o, l, rfl, hbl, hx0, hs0⟩ := nats_cell (nats_row (Hl.out.below hb)) rfl hlt
      have hl2 := HLt.out l (List.mem_of_getElem? hx0.out)
      have HS : Hid (bools (Cir.lits xs (ls.take (k + 1))) = bools (Cir.lits xs (ls.take k)) ++ [.bool (Cir.lit xs l)]) := Lib.hid (by rw [lits_snoc hx0.out, bools_append]; rfl)
      have Hx := Lib.hid (Row.below H.out hb)
      clear hb
      go_wp2_with fail
      refine (l2Lit_any _ xs l _ Hx.out hl2 (by omega)).mono ?_
      rintro e w' ⟨rfl, rfl⟩
      generalize Cir.lit xs l = u at *
      have Hlit := Lib.hid (Row.of_own (World.ownsRow_lit (base := wr.heap.size) (e := 4) (size := 1) wr #[.bool u] 1 (Nat.le_refl _) (by unfold maxLen; omega) rfl))
      go_wp2_with (at_builtin; refine append_bools rfl (.tmp 14) (.tmp 21) rfl w.heap.size _ k _ rfl (Ho.out.alloc _) _ 1 [.bool u] rfl Hlit.out (by simp [Value.oneCell']) (by omega) (by simp; omega) ?_; intro v7 w7 hown7 hg7 hat7; have Ho7 := Lib.hid hown7; have Hg7 := Lib.hid hg7; clear hown7 hg7 hat7)
      go_roundw
      case rel => exact ⟨_, k + 1, rfl, by omega, by go_num, Lib.hid (by rw [HS.out]; exact Ho7.out), (Hb.out.alloc hz _).grown Hg7.out (Hb.out.alloc hz _).size (own_ge0 Ho.out)⟩
      case measure => simp [intOf] <;> omega
    · obtain rfl : k = ls.length := by omega
      go_wp2_with fail
      go_ret
      exact ⟨_, rfl, by rw [lits_length]; have := Ho.out; rwa [List.take_length] at this, hb⟩
/-! ### numbers -/
theorem num_append : ∀ (a b : List Bool), Cir.num (a ++ b) = Cir.num a + 2 ^ a.length * Cir.num b
  | [], b => by simp [Cir.num]
  | x :: a, b => by
    rw [List.cons_append, Cir.num, Cir.num, num_append a b, List.length_cons, Nat.pow_succ]
    rw [Nat.mul_add, ← Nat.mul_assoc, Nat.mul_comm 2 (2 ^ a.length)]
    omega
theorem num_snoc (a : List Bool) (b : Bool) : Cir.num (a ++ [b]) = Cir.num a + (if b then 2 ^ a.length else 0) := by
  rw [num_append]
  cases b <;> simp [Cir.num]
theorem num_drop {l : List Bool} {k : Nat} {b : Bool} (h : l[k]? = some b) : Cir.num (l.drop k) = (if b then 1 else 0) + 2 * Cir.num (l.drop (k + 1)) := by
  obtain ⟨hk, rfl⟩ := List.getElem?_eq_some_iff.1 h
  rw [List.drop_eq_getElem_cons hk, Cir.num]
theorem num_or {a : List Bool} : Cir.num a ||| 2 ^ a.length = Cir.num a + 2 ^ a.length := by
  have h := Cir.num_lt a
  rw [Nat.or_comm]
  have := Nat.two_pow_add_eq_or_of_lt h 1
  rw [Nat.mul_one] at this
  omega
theorem number_any (v : Value) (xs : List Bool) (w : World) (h : BoolsAt w v xs) (hx : xs.length ≤ 16) :
    Calls Try.prog 137 #[v] w fun e w' => e = .returned (.int .i64 (Cir.num xs : Nat)) ∧ w = w' := by
  obtain ⟨A, c, hv, hc, hcm⟩ := Row.shape h
  subst hv
  have H := Lib.hid h
  clear h
  go_enter Try.func137, Try.ntmps137
  go_wp2_with fail
  go_loop [3, 8] (fun x i => ∃ (k : Nat), k ≤ xs.length ∧ i = .int .i64 k ∧ x = .int .i64 (Cir.num (xs.take k) : Nat)) (fun _ i => xs.length - (intOf i).toNat)
  case atStart => exact ⟨0, Nat.zero_le _, rfl, rfl⟩
  case round =>
    obtain ⟨k, hk, rfl, rfl⟩ := hrel
    by_cases hlt : k < xs.length
    · obtain ⟨b, o, u, rfl, hbl, hx0, hs0⟩ := bools_open H.out (Below.refl _ _) rfl hlt
      have htl : (xs.take k).length = k := by rw [List.length_take]; omega
      have HS : Hid (Cir.num (xs.take (k + 1)) = Cir.num (xs.take k) + (if u then 2 ^ k else 0)) := Lib.hid (by rw [take_snoc hx0.out, num_snoc, htl])
      have hlt2 : Cir.num (xs.take k) < 65536 := by
        have h1 := Cir.num_lt (xs.take k)
        rw [htl] at h1
        have h2 : 2 ^ k ≤ 2 ^ 16 := Nat.pow_le_pow_right (show 0 < 2 by decide) (by omega)
        omega
      have hor : Cir.num (xs.take k) ||| 2 ^ k = Cir.num (xs.take k) + 2 ^ k := by have := num_or (a := xs.take k); rwa [htl] at this
      have h2 : 2 ^ k ≤ 65536 := by
        have h2 : 2 ^ k ≤ 2 ^ 16 := Nat.pow_le_pow_right (show 0 < 2 by decide) (by omega)
        omega
      have hbor := i64_or_nat (Cir.num (xs.take k)) (2 ^ k) (by omega) (by omega)
      rw [hor] at hbor
      clear hor htl
      obtain ⟨N2, hN2⟩ : ∃ N2, Cir.num (xs.take (k + 1)) = N2 := ⟨_, rfl⟩
      rw [hN2] at HS
      have HN2 := Lib.hid hN2
      clear hN2
      generalize Cir.num (xs.take k) = N at *
      have e2 : (2 : Int) ^ k = ((2 ^ k : Nat) : Int) := two_pow k
      generalize 2 ^ k = M at *
      have hwM := IntWalk.i64_in (M : Int) (by omega)
      cases u
      · go_wp2_with fail
        go_round
        case rel => exact ⟨k + 1, by omega, by go_num, by rw [HN2.out, HS.out]; rfl⟩
        case measure => simp [intOf] <;> omega
      · go_wp2_with fail
        go_round
        case rel => exact ⟨k + 1, by omega, by go_num, by rw [HN2.out, HS.out]; rfl⟩
        case measure => simp [intOf] <;> omega
    · obtain rfl : k = xs.length := by omega
      go_wp2_with fail
      go_ret
      exact ⟨rfl, rfl⟩
theorem l16Number_any (v : Value) (xs : List Bool) (w : World) (h : BoolsAt w v xs) (hx : xs.length ≤ 16) :
    Calls Try.prog 108 #[v] w fun e w' => e = .returned (.int .i64 (Cir.num xs : Nat)) ∧ w = w' := by
  obtain ⟨A, c, hv, hc, hcm⟩ := Row.shape h
  subst hv
  have H := Lib.hid h
  have H0 : Hid (xs.drop xs.length = []) := Lib.hid (List.drop_eq_nil_of_le (Nat.le_refl _))
  have HD : Hid (xs.drop 0 = xs) := Lib.hid rfl
  clear h
  go_enter Try.func108, Try.ntmps108
  go_wp2_with fail
  go_loop [3, 4] (fun x i => ∃ (k : Nat), k ≤ xs.length ∧ i = .int .i64 ((k : Int) - 1) ∧ x = .int .i64 (Cir.num (xs.drop k) : Nat)) (fun _ i => (intOf i + 1).toNat)
  case atStart => exact ⟨xs.length, Nat.le_refl _, rfl, by rw [H0.out]; rfl⟩
  case round =>
    obtain ⟨k, hk, rfl, rfl⟩ := hrel
    by_cases hlt : 0 < k
    · obtain ⟨j, rfl⟩ : ∃ j, k = j + 1 := ⟨k - 1, by omega⟩
      have ej : ((j + 1 : Nat) : Int) - 1 = (j : Int) := by omega
      rw [ej]
      obtain ⟨b, o, u, rfl, hbl, hx0, hs0⟩ := bools_open H.out (Below.refl _ _) rfl (show j < xs.length by omega)
      have HS : Hid (Cir.num (xs.drop j) = (if u then 1 else 0) + 2 * Cir.num (xs.drop (j + 1))) := Lib.hid (num_drop hx0.out)
      have hlt2 : Cir.num (xs.drop (j + 1)) < 65536 := by
        have h1 := Cir.num_lt (xs.drop (j + 1))
        have h2 : 2 ^ (xs.drop (j + 1)).length ≤ 2 ^ 16 := Nat.pow_le_pow_right (show 0 < 2 by decide) (by rw [List.length_drop]; omega)
        omega
      generalize Cir.num (xs.drop (j + 1)) = N at *
      clear ej
      cases u
      · go_wp2_with fail
        go_round
        case rel => exact ⟨j, by omega, by go_num, by rw [HS.out]; simp only [Bool.false_eq_true, if_false, Nat.zero_add]; rfl⟩
        case measure => simp [intOf] <;> omega
      · go_wp2_with fail
        go_round
        case rel => exact ⟨j, by omega, by go_num, by first | (rw [HS.out]; done) | (rw [HS.out]; go_num)⟩
        case measure => simp [intOf] <;> omega
    · obtain rfl : k = 0 := by omega
      go_wp2_with fail
      go_ret
      exact ⟨rfl, rfl⟩
end Go.Proofs.Ytmlcbikljlhhkaa

namespace Go.Proofs.Ytmlcbikljlhhkaa
open Go.RowKit
set_option maxRecDepth 100000
/-! One clock cycle, by the program. -/
theorem toCz_next (d : Ci) : (Cir.toCz d).next.length = d.next.length := List.length_map _
theorem toCz_outs (d : Ci) : (Cir.toCz d).outs.length = d.outs.length := List.length_map _
theorem toCz_gates (d : Ci) : (Cir.toCz d).gates.length = d.gates.length := List.length_map _
set_option maxHeartbeats 4000000 in
theorem cycle_any (g : Nat) (d : Ci) (s x : Nat) (w : World) (h : PCirc w g (Cir.toCz d)) (hd : Cir.Ok d) (hs : s ≤ 1000) (hx : x ≤ 1000) :
    Calls Try.prog 103 #[.pointer (some ⟨g, 0, none⟩), .int .i64 s, .int .i64 x] w fun e w' => e = .returned (.tuple #[.int .i64 (Cir.nextOf d s x : Nat), .int .i64 (Cir.num (Cir.outsOf d s x) : Nat)]) ∧ Below w.heap.size w w' := by
  have l1 := hd.ins
  have l2 := hd.nexts
  have l3 := hd.outss
  have HN := Lib.hid hd.next
  have HO := Lib.hid hd.out
  have HP := Lib.hid h
  obtain ⟨vn, vg, vo, hg, c0, c1, c2, c3, r1, r2, r3⟩ := h
  obtain ⟨An, cn, rfl, hcn, hcmn⟩ := NatsAt.shape (xs := d.next) r1
  obtain ⟨Ao, co, rfl, hco, hcmo⟩ := NatsAt.shape (xs := d.outs) r3
  have R1 : Hid (NatsAt w (.slice An d.next.length cn) d.next) := Lib.hid r1
  have R3 : Hid (NatsAt w (.slice Ao d.outs.length co) d.outs) := Lib.hid r3
  have C0 : Hid (w.cell? ⟨g, 0, none⟩ = some (.int .i64 d.ins)) := Lib.hid c0
  have C1 := Lib.hid c1
  have C3 := Lib.hid c3
  have HL : Hid ((Cir.vals d (Cir.bits s d.next.length) (Cir.bits x d.ins)).length = Cir.nvars d) := Lib.hid (Cir.vals_length d (Cir.bits_length _ _) (Cir.bits_length _ _))
  have hnv : Cir.nvars d ≤ 22 := by have := hd.gatess; unfold Cir.nvars Cir.nfirst; omega
  have Hd := Lib.hid hd
  clear r1 r2 r3 c0 c1 c2 c3 hd
  go_enter Try.func103, Try.ntmps103
  go_wp2_with fail
  refine wp_region_rs (quietRS Try.prog _ w _) quietRS_ok (by kernel_rfl) (by kernel_rfl) (by kernel_rfl) (Nat.le_of_ble_eq_true rfl) trivial trivial ?_
  refine rs_old quietRS_ok quiet_any _ (.inl rfl) _ rfl rfl ?_
  refine rs_old quietRS_ok quiet_any _ (.inl rfl) _ rfl rfl ?_
  refine rs_old quietRS_ok quiet_any _ (.inl rfl) _ rfl rfl ?_
  apply rs_eq quietRS_ok quiet_any
  · intro ρ w' ho hK
    have ho : Only _ w w' := ho
    obtain ⟨h0, -⟩ := hK
    have h0' : ρ (.tmp 11) = _ := h0
    go_simp
    try exact rfl
  apply rs_eq quietRS_ok quiet_any
  · intro ρ w' ho hK
    have ho : Only _ w w' := ho
    obtain ⟨h0, -⟩ := hK
    have h0' : ρ (.tmp 12) = _ := h0
    go_simp
    try exact rfl
  apply rs_eq quietRS_ok quiet_any
  · intro ρ w' ho hK
    have ho : Only _ w w' := ho
    obtain ⟨h0, -⟩ := hK
    have h0' : ρ (.tmp 13) = _ := h0
    have hb := only_below ho
    have q0 := (hb.cell (p := ⟨g, 0, none⟩) hg).trans C0.out
    have q1 := (hb.cell (p := ⟨g, 1, none⟩) hg).trans C1.out
    go_simp
    try exact rfl
  apply rs_eq quietRS_ok quiet_any
  · intro ρ w' ho hK
    have ho : Only _ w w' := ho
    obtain ⟨h0, -⟩ := hK
    have h0' : ρ (.tmp 14) = _ := h0
    go_simp
    try exact rfl
  refine rs_call quietRS_ok quiet_any (TBools (Cir.bits s d.next.length)) (stb_bools _) 133 _ _ rfl (fun ρ w' ho hK => by
    have ho : Only _ w w' := ho
    obtain ⟨h0, h1, h2, -⟩ := hK
    have h0' : ρ (.func 133) = .func (.func 133) #[] #[] := h0
    have h1' : ρ (.tmp 10) = _ := h1
    have h2' : ρ (.tmp 15) = _ := h2
    refine ⟨#[ρ (.tmp 10), ρ (.tmp 15)], ?_, ?_⟩
    · go_simp
    · rw [h1', h2']
      refine (bitsOf_any s d.next.length w' (by omega) (by omega)).mono ?_
      rintro e w2 ⟨v2, rfl, hO, hb⟩
      exact ⟨v2, rfl, Row.of_own hO, hb⟩) ?_
  refine rs_old quietRS_ok quiet_any _ (.inl rfl) _ rfl rfl ?_
  refine rs_old quietRS_ok quiet_any _ (.inl rfl) _ rfl rfl ?_
  apply rs_eq quietRS_ok quiet_any
  · intro ρ w' ho hK
    have ho : Only _ w w' := ho
    obtain ⟨h0, -⟩ := hK
    have h0' : ρ (.tmp 18) = _ := h0
    go_simp
    try exact rfl
  apply rs_eq quietRS_ok quiet_any
  · intro ρ w' ho hK
    have ho : Only _ w w' := ho
    obtain ⟨h0, -⟩ := hK
    have h0' : ρ (.tmp 19) = _ := h0
    go_simp
    try exact rfl
  apply rs_eq quietRS_ok quiet_any
  · intro ρ w' ho hK
    have ho : Only _ w w' := ho
    obtain ⟨h0, -⟩ := hK
    have h0' : ρ (.tmp 20) = _ := h0
    have hb := only_below ho
    have q0 := (hb.cell (p := ⟨g, 0, none⟩) hg).trans C0.out
    have q1 := (hb.cell (p := ⟨g, 1, none⟩) hg).trans C1.out
    go_simp
    try exact rfl
  refine rs_call quietRS_ok quiet_any (TBools (Cir.bits x d.ins)) (stb_bools _) 133 _ _ rfl (fun ρ w' ho hK => by
    have ho : Only _ w w' := ho
    obtain ⟨h0, h1, h2, -⟩ := hK
    have h0' : ρ (.func 133) = .func (.func 133) #[] #[] := h0
    have h1' : ρ (.tmp 17) = _ := h1
    have h2' : ρ (.tmp 21) = _ := h2
    refine ⟨#[ρ (.tmp 17), ρ (.tmp 21)], ?_, ?_⟩
    · go_simp
    · rw [h1', h2']
      refine (bitsOf_any x d.ins w' (by omega) (by omega)).mono ?_
      rintro e w2 ⟨v2, rfl, hO, hb⟩
      exact ⟨v2, rfl, Row.of_own hO, hb⟩) ?_
  refine rs_call quietRS_ok quiet_any (TBools (Cir.vals d (Cir.bits s d.next.length) (Cir.bits x d.ins))) (stb_bools _) 130 _ _ rfl (fun ρ w' ho hK => by
    have ho : Only _ w w' := ho
    obtain ⟨h0, h1, h2, h3, h4, h5, -⟩ := hK
    have h0' : ρ (.func 130) = .func (.func 130) #[] #[] := h0
    have h1' : ρ (.tmp 9) = _ := h1
    have h2' : (TBools (Cir.bits s d.next.length)) w' (ρ (.tmp 16)) := h2
    have h3' : (TBools (Cir.bits x d.ins)) w' (ρ (.tmp 22)) := h3
    have h4' : ρ (.const (Value.int IntKind.i64 (-1))) = (Value.int IntKind.i64 (-1)) := h4
    have h5' : ρ (.const (Value.bool false)) = (Value.bool false) := h5
    refine ⟨#[ρ (.tmp 9), ρ (.tmp 16), ρ (.tmp 22), ρ (.const (Value.int IntKind.i64 (-1))), ρ (.const (Value.bool false))], ?_, ?_⟩
    · go_simp
    · rw [h1', h4', h5']
      refine (evaluate_any g d _ _ _ _ w' (HP.out.below (only_below ho)) Hd.out h2' h3' (Cir.bits_length _ _) (Cir.bits_length _ _)).mono ?_
      rintro e w2 ⟨v2, rfl, hO, hb⟩
      exact ⟨v2, rfl, Row.of_own hO, hb⟩) ?_
  refine rs_same quietRS_ok quiet_any 23 14 (.inr rfl) rfl _ rfl ?_
  intro f w9 k9 hk9 hI9 ht9 hcp9
  have E0 : f 0 = _ := ht9 0 (Nat.le_of_ble_eq_true rfl)
  have E1 : f 1 = _ := ht9 1 (Nat.le_of_ble_eq_true rfl)
  have E2 : f 2 = _ := ht9 2 (Nat.le_of_ble_eq_true rfl)
  have E3 : f 3 = _ := ht9 3 (Nat.le_of_ble_eq_true rfl)
  have E4 : f 4 = _ := ht9 4 (Nat.le_of_ble_eq_true rfl)
  have E5 : f 5 = _ := ht9 5 (Nat.le_of_ble_eq_true rfl)
  have E6 : f 6 = _ := ht9 6 (Nat.le_of_ble_eq_true rfl)
  have E7 : (TBools (Cir.bits s d.next.length)) w9 (f 7) := ht9 7 (Nat.le_of_ble_eq_true rfl)
  have E8 : f 8 = _ := ht9 8 (Nat.le_of_ble_eq_true rfl)
  have E9 : f 9 = _ := ht9 9 (Nat.le_of_ble_eq_true rfl)
  have E10 : f 10 = _ := ht9 10 (Nat.le_of_ble_eq_true rfl)
  have E11 : f 11 = _ := ht9 11 (Nat.le_of_ble_eq_true rfl)
  have E12 : f 12 = _ := ht9 12 (Nat.le_of_ble_eq_true rfl)
  have E13 : (TBools (Cir.bits x d.ins)) w9 (f 13) := ht9 13 (Nat.le_of_ble_eq_true rfl)
  have E14 : (TBools (Cir.vals d (Cir.bits s d.next.length) (Cir.bits x d.ins))) w9 (f 14) := ht9 14 (Nat.le_of_ble_eq_true rfl)
  have E15 : (TBools (Cir.vals d (Cir.bits s d.next.length) (Cir.bits x d.ins))) w9 (f 15) := ht9 15 (Nat.le_of_ble_eq_true rfl)
  have Ho9 : Only _ w w9 := hI9.2.1
  have C15 : f 15 = f 14 := (hcp9 15 _ 23 14 rfl rfl rfl rfl).2
  simp only [putAll, E0, E1, E2, E3, E4, E5, E6, E8, E9, E10, E11, E12, C15, Nat.zero_add, Nat.reduceAdd, Act.put, List.setIfInBounds_toArray, List.set_cons_succ, List.set_cons_zero]
  clear E0 E1 E2 E3 E4 E5 E6 E8 E9 E10 E11 E12
  clear hI9 ht9 hcp9 hk9
  generalize f 7 = r7 at *
  generalize f 13 = r13 at *
  generalize f 14 = r14 at *
  have hb9 := only_below Ho9
  have HV9 := Lib.hid E14
  have C1 := Lib.hid ((hb9.cell (p := ⟨g, 1, none⟩) hg).trans C1.out)
  have C3 := Lib.hid ((hb9.cell (p := ⟨g, 3, none⟩) hg).trans C3.out)
  have R1 := Lib.hid (R1.out.below hb9)
  have R3 := Lib.hid (R3.out.below hb9)
  have B9 := Lib.hid hb9
  have hg9 : g < w9.heap.size := Nat.lt_of_lt_of_le hg hb9.size
  clear hb9 E7 E13 E14 Ho9 HP Hd C0
  go_wp2_with fail
  obtain ⟨w1, hw1⟩ : ∃ w1, w1 = w9 := ⟨_, rfl⟩
  subst hw1
  obtain ⟨u, hu⟩ : ∃ u, u = r14 := ⟨_, rfl⟩
  subst hu
  have HN2 : Hid (Cir.nextOf d s x = Cir.num (Cir.lits (Cir.vals d (Cir.bits s d.next.length) (Cir.bits x d.ins)) d.next)) := Lib.hid rfl
  have HO2 : Hid (Cir.num (Cir.outsOf d s x) = Cir.num (Cir.lits (Cir.vals d (Cir.bits s d.next.length) (Cir.bits x d.ins)) d.outs)) := Lib.hid rfl
  generalize Cir.vals d (Cir.bits s d.next.length) (Cir.bits x d.ins) = V at *
  refine wp_region_rs (quietRS Try.prog _ w1 _) quietRS_ok (by kernel_rfl) (by kernel_rfl) (by kernel_rfl) (Nat.le_of_ble_eq_true rfl) trivial trivial ?_
  refine rs_old quietRS_ok quiet_any _ (.inl rfl) _ rfl rfl ?_
  refine rs_old quietRS_ok quiet_any _ (.inl rfl) _ rfl rfl ?_
  apply rs_eq quietRS_ok quiet_any
  · intro ρ w' ho hK
    have ho : Only _ w1 w' := ho
    obtain ⟨h0, -⟩ := hK
    have h0' : ρ (.tmp 25) = _ := h0
    go_simp
    try exact rfl
  apply rs_eq quietRS_ok quiet_any
  · intro ρ w' ho hK
    have ho : Only _ w1 w' := ho
    obtain ⟨h0, -⟩ := hK
    have h0' : ρ (.tmp 26) = _ := h0
    go_simp
    try exact rfl
  apply rs_eq quietRS_ok quiet_any
  · intro ρ w' ho hK
    have ho : Only _ w1 w' := ho
    obtain ⟨h0, -⟩ := hK
    have h0' : ρ (.tmp 27) = _ := h0
    have hb := only_below ho
    have q0 := (hb.cell (p := ⟨g, 1, none⟩) hg9).trans C1.out
    have q1 := (hb.cell (p := ⟨g, 3, none⟩) hg9).trans C3.out
    go_simp
    try exact rfl
  refine rs_call quietRS_ok quiet_any (TBools (Cir.lits V d.next)) (stb_bools _) 138 _ _ rfl (fun ρ w' ho hK => by
    have ho : Only _ w1 w' := ho
    obtain ⟨h0, h1, h2, -⟩ := hK
    have h0' : ρ (.func 138) = .func (.func 138) #[] #[] := h0
    have h1' : ρ (.tmp 24) = _ := h1
    have h2' : ρ (.tmp 28) = _ := h2
    refine ⟨#[ρ (.tmp 24), ρ (.tmp 28)], ?_, ?_⟩
    · go_simp
    · rw [h1', h2']
      refine (litValues_any _ _ V d.next w' (Row.below HV9.out (only_below ho)) (R1.out.below (only_below ho)) (by rw [HL.out]; exact HN.out) (by omega) (by rw [HL.out]; omega)).mono ?_
      rintro e w2 ⟨v2, rfl, hO, hb⟩
      exact ⟨v2, rfl, Row.of_own hO, hb⟩) ?_
  refine rs_call quietRS_ok quiet_any (TEq (.int .i64 (Cir.num (Cir.lits V d.next) : Nat))) (stb_eq _ _) 137 _ _ rfl (fun ρ w' ho hK => by
    have ho : Only _ w1 w' := ho
    obtain ⟨h0, h1, -⟩ := hK
    have h0' : ρ (.func 137) = .func (.func 137) #[] #[] := h0
    have h1' : (TBools (Cir.lits V d.next)) w' (ρ (.tmp 29)) := h1
    refine ⟨#[ρ (.tmp 29)], ?_, ?_⟩
    · go_simp
    · skip
      refine (number_any _ _ w' h1' (by rw [lits_length]; omega)).mono ?_
      rintro e w2 ⟨rfl, rfl⟩
      exact ⟨_, rfl, rfl, Below.refl _ _⟩) ?_
  refine rs_old quietRS_ok quiet_any _ (.inl rfl) _ rfl rfl ?_
  refine rs_old quietRS_ok quiet_any _ (.inl rfl) _ rfl rfl ?_
  apply rs_eq quietRS_ok quiet_any
  · intro ρ w' ho hK
    have ho : Only _ w1 w' := ho
    obtain ⟨h0, -⟩ := hK
    have h0' : ρ (.tmp 32) = _ := h0
    go_simp
    try exact rfl
  apply rs_eq quietRS_ok quiet_any
  · intro ρ w' ho hK
    have ho : Only _ w1 w' := ho
    obtain ⟨h0, -⟩ := hK
    have h0' : ρ (.tmp 33) = _ := h0
    go_simp
    try exact rfl
  apply rs_eq quietRS_ok quiet_any
  · intro ρ w' ho hK
    have ho : Only _ w1 w' := ho
    obtain ⟨h0, -⟩ := hK
    have h0' : ρ (.tmp 34) = _ := h0
    have hb := only_below ho
    have q0 := (hb.cell (p := ⟨g, 1, none⟩) hg9).trans C1.out
    have q1 := (hb.cell (p := ⟨g, 3, none⟩) hg9).trans C3.out
    go_simp
    try exact rfl
  refine rs_call quietRS_ok quiet_any (TBools (Cir.lits V d.outs)) (stb_bools _) 138 _ _ rfl (fun ρ w' ho hK => by
    have ho : Only _ w1 w' := ho
    obtain ⟨h0, h1, h2, -⟩ := hK
    have h0' : ρ (.func 138) = .func (.func 138) #[] #[] := h0
    have h1' : ρ (.tmp 31) = _ := h1
    have h2' : ρ (.tmp 35) = _ := h2
    refine ⟨#[ρ (.tmp 31), ρ (.tmp 35)], ?_, ?_⟩
    · go_simp
    · rw [h1', h2']
      refine (litValues_any _ _ V d.outs w' (Row.below HV9.out (only_below ho)) (R3.out.below (only_below ho)) (by rw [HL.out]; exact HO.out) (by omega) (by rw [HL.out]; omega)).mono ?_
      rintro e w2 ⟨v2, rfl, hO, hb⟩
      exact ⟨v2, rfl, Row.of_own hO, hb⟩) ?_
  refine rs_call quietRS_ok quiet_any (TEq (.int .i64 (Cir.num (Cir.lits V d.outs) : Nat))) (stb_eq _ _) 137 _ _ rfl (fun ρ w' ho hK => by
    have ho : Only _ w1 w' := ho
    obtain ⟨h0, h1, -⟩ := hK
    have h0' : ρ (.func 137) = .func (.func 137) #[] #[] := h0
    have h1' : (TBools (Cir.lits V d.outs)) w' (ρ (.tmp 36)) := h1
    refine ⟨#[ρ (.tmp 36)], ?_, ?_⟩
    · go_simp
    · skip
      refine (number_any _ _ w' h1' (by rw [lits_length]; omega)).mono ?_
      rintro e w2 ⟨rfl, rfl⟩
      exact ⟨_, rfl, rfl, Below.refl _ _⟩) ?_
  refine rs_same quietRS_ok quiet_any 30 6 (.inr rfl) rfl _ rfl ?_
  refine rs_same quietRS_ok quiet_any 37 13 (.inr rfl) rfl _ rfl ?_
  intro f w9 k9 hk9 hI9 ht9 hcp9
  have E0 : f 0 = _ := ht9 0 (Nat.le_of_ble_eq_true rfl)
  have E1 : f 1 = _ := ht9 1 (Nat.le_of_ble_eq_true rfl)
  have E2 : f 2 = _ := ht9 2 (Nat.le_of_ble_eq_true rfl)
  have E3 : f 3 = _ := ht9 3 (Nat.le_of_ble_eq_true rfl)
  have E4 : f 4 = _ := ht9 4 (Nat.le_of_ble_eq_true rfl)
  have E5 : (TBools (Cir.lits V d.next)) w9 (f 5) := ht9 5 (Nat.le_of_ble_eq_true rfl)
  have E6 : f 6 = _ := ht9 6 (Nat.le_of_ble_eq_true rfl)
  have E7 : f 7 = _ := ht9 7 (Nat.le_of_ble_eq_true rfl)
  have E8 : f 8 = _ := ht9 8 (Nat.le_of_ble_eq_true rfl)
  have E9 : f 9 = _ := ht9 9 (Nat.le_of_ble_eq_true rfl)
  have E10 : f 10 = _ := ht9 10 (Nat.le_of_ble_eq_true rfl)
  have E11 : f 11 = _ := ht9 11 (Nat.le_of_ble_eq_true rfl)
  have E12 : (TBools (Cir.lits V d.outs)) w9 (f 12) := ht9 12 (Nat.le_of_ble_eq_true rfl)
  have E13 : f 13 = _ := ht9 13 (Nat.le_of_ble_eq_true rfl)
  have E14 : f 14 = _ := ht9 14 (Nat.le_of_ble_eq_true rfl)
  have E15 : f 15 = _ := ht9 15 (Nat.le_of_ble_eq_true rfl)
  have Ho9 : Only _ w1 w9 := hI9.2.1
  simp only [putAll, E0, E1, E2, E3, E4, E6, E7, E8, E9, E10, E11, E13, E14, E15, Nat.zero_add, Nat.reduceAdd, Act.put, List.setIfInBounds_toArray, List.set_cons_succ, List.set_cons_zero]
  clear E0 E1 E2 E3 E4 E6 E7 E8 E9 E10 E11 E13 E14 E15
  clear hI9 ht9 hcp9 hk9
  generalize f 5 = r5 at *
  generalize f 12 = r12 at *
  have B := Lib.hid (B9.out.trans ((only_below Ho9).mono B9.out.size))
  clear Ho9 E5 E12 HV9 B9
  go_wp2_with fail
  exact bodyPost_ret (v := .tuple #[.int .i64 (Cir.num (Cir.lits V d.next) : Nat), .int .i64 (Cir.num (Cir.lits V d.outs) : Nat)]) (by simp [results, Try.results103, go_sem]) rfl ⟨by rw [HN2.out, HO2.out], B.out⟩
end Go.Proofs.Ytmlcbikljlhhkaa

namespace Go.Proofs.Ytmlcbikljlhhkaa
open Go.RowKit
set_option maxRecDepth 100000
/-! One clock cycle, by the reference. -/
/-- What l2Step makes. -/
def OwnStep (so st : List Bool) (w : World) (e : Ending) (w' : World) : Prop := ∃ a b, e = .returned (.agg #[a, b]) ∧ w'.ownsRow w.heap.size 4 1 a so.length (bools so) ∧ w'.ownsRow w.heap.size 4 1 b st.length (bools st) ∧ Below w.heap.size w w'
/-- The result's cells. -/
def R1Step (g0 : Nat) (so st : List Bool) (w : World) : Prop := ∃ a b, g0 + 1 < w.heap.size ∧ w.cell? ⟨g0 + 1, 0, none⟩ = some a ∧ w.cell? ⟨g0 + 1, 1, none⟩ = some b ∧ w.ownsRow (g0 + 2) 4 1 a so.length (bools so) ∧ w.ownsRow (g0 + 2) 4 1 b st.length (bools st)
theorem R1Step.below {g0 : Nat} {so st : List Bool} {w w' : World} (h : R1Step g0 so st w) (hb : Below w.heap.size w w') : R1Step g0 so st w' := by
  obtain ⟨a, b, hg, c0, c1, o0, o1⟩ := h
  exact ⟨a, b, Nat.lt_of_lt_of_le hg hb.size, (hb.cell (p := ⟨g0 + 1, 0, none⟩) hg).trans c0, (hb.cell (p := ⟨g0 + 1, 1, none⟩) hg).trans c1, own_below o0 hb, own_below o1 hb⟩
set_option maxHeartbeats 4000000 in
theorem l2Step_any (v vs vi : Value) (d : Ci) (st inp : List Bool) (w : World) (h : CircAt w v (Cir.toCz d)) (hd : Cir.Ok d) (hs : BoolsAt w vs st) (hi : BoolsAt w vi inp) (h1 : inp.length = d.ins) (h2 : st.length = d.next.length) :
    Calls Try.prog 87 #[v, vs, vi] w (OwnStep (Cir.lits (Cir.vals d st inp) d.outs) (Cir.lits (Cir.vals d st inp) d.next) w) := by
  have l2 := hd.nexts
  have l3 := hd.outss
  have HN := Lib.hid hd.next
  have HO := Lib.hid hd.out
  have HC := Lib.hid h
  obtain ⟨vn, vg, vo, rfl, r1, r2, r3⟩ := h
  obtain ⟨An, cn, rfl, hcn, hcmn⟩ := NatsAt.shape (xs := d.next) r1
  obtain ⟨Ao, co, rfl, hco, hcmo⟩ := NatsAt.shape (xs := d.outs) r3
  have hins : (Cir.toCz d).ins = (d.ins : Int) := rfl
  rw [hins] at HC ⊢
  obtain ⟨ag, hag⟩ : ∃ ag, ag = Obj.cells #[.int .i64 d.ins, .slice An d.next.length cn, vg, .slice Ao d.outs.length co] 30 := ⟨_, rfl⟩
  have hbz := bel_new w ag
  obtain ⟨z, p0, p1, p2, p3⟩ := PCells.boxed w d.ins (.slice An d.next.length cn) vg (.slice Ao d.outs.length co) 30
  rw [← hag] at z p0 p1 p2 p3
  have HL : Hid ((Cir.vals d st inp).length = Cir.nvars d) := Lib.hid (Cir.vals_length d h1 h2)
  have hnv : Cir.nvars d ≤ 22 := by have := hd.gatess; have := hd.ins; unfold Cir.nvars Cir.nfirst; omega
  have hb1 := bel_new (w.alloc ag) (.cells #[.slice none 0 0, .slice none 0 0] 101)
  have B0 := Lib.hid (hbz.trans (hb1.mono hbz.size))
  have P0 := Lib.hid (PCells.below ⟨z, p0, p1, p2, p3⟩ hb1)
  have R1 : Hid (NatsAt w (.slice An d.next.length cn) d.next) := Lib.hid r1
  have R3 : Hid (NatsAt w (.slice Ao d.outs.length co) d.outs) := Lib.hid r3
  have HW : Hid (((w.alloc ag).alloc (.cells #[.slice none 0 0, .slice none 0 0] 101)).heap[w.heap.size + 1]? = some (.cells #[.slice none 0 0, .slice none 0 0] 101 (0, 0))) := Lib.hid (by
    have := heap_alloc_new (w.alloc ag) (.cells #[.slice none 0 0, .slice none 0 0] 101)
    rwa [World.size_alloc] at this)
  have HV := Lib.hid (l2Values_any _ _ _ d st inp _ (HC.out.below B0.out) hd (Row.below hs B0.out) (Row.below hi B0.out) h1 h2)
  have hsz : ((w.alloc ag).alloc (.cells #[.slice none 0 0, .slice none 0 0] 101)).heap.size = w.heap.size + 2 := by simp
  clear r1 r2 r3 z p0 p1 p2 p3 hbz hb1 hs hi h1 h2 HC hd hins
  go_enter Try.func87, Try.ntmps87
  obtain ⟨z, p0, p1, p2, p3⟩ := P0.out
  go_wp2_with fail
  rw [← hag]
  clear hag
  generalize (w.alloc ag).alloc (.cells #[.slice none 0 0, .slice none 0 0] 101) = W at *
  generalize Cir.vals d st inp = V at *
  refine HV.out.mono ?_
  rintro e w1 ⟨v1, rfl, hO1, hb1⟩
  have B1 := Lib.hid (B0.out.trans (hb1.mono B0.out.size))
  have HW1 := Lib.hid ((hb1.block _ (by omega)).trans HW.out)
  have HV1 := Lib.hid (own_mono hO1 (show w.heap.size + 2 ≤ W.heap.size by omega))
  have P1 := Lib.hid (P0.out.below hb1)
  have z1 := hb1.size
  clear hb1 hO1 P0 HW HV p0 p1 p2 p3 z B0
  obtain ⟨z, p0, p1, p2, p3⟩ := P1.out
  go_wp2_with fail
  obtain ⟨G, hG⟩ : ∃ G, G = w.heap.size + 1 := ⟨_, rfl⟩
  have hO := fun ops a => stepRS_ok (Pg := Try.prog) (ops := ops) (w := w1) (a := a) (E := fun g => g = w.heap.size + 1) (R0 := fun w' => w'.heap[w.heap.size + 1]? = some (.cells #[.slice none 0 0, .slice none 0 0] 101 (0, 0)))
    (R1 := R1Step w.heap.size (Cir.lits V d.outs) (Cir.lits V d.next)) (d := 9) (fun g hg => by have h : g = w.heap.size + 1 := hg; omega) (fun w1 w2 h hb => (hb.block _ (heap_lt h)).trans h) (fun _ _ => R1Step.below)
  have HBw : ∀ w', Only (fun g => g = w.heap.size + 1) w1 w' → Below w.heap.size w w' := fun w' ho => Only.below B1.out ho B1.out.size (fun g hg => by have h : g = w.heap.size + 1 := hg; omega)
  have HVw : ∀ w', Only (fun g => g = w.heap.size + 1) w1 w' → BoolsAt w' v1 V := fun w' ho => ownBools_at (own_only HV1.out ho (fun g hg he => by have h1 := (HV1.out.lt g hg).1; have h : g = w.heap.size + 1 := he; omega))
  refine wp_region_rs (stepRS Try.prog _ w1 _ (fun g => g = w.heap.size + 1) (fun w' => w'.heap[w.heap.size + 1]? = some (.cells #[.slice none 0 0, .slice none 0 0] 101 (0, 0))) (R1Step w.heap.size (Cir.lits V d.outs) (Cir.lits V d.next)) 9) (hO _ _) (by kernel_rfl) (by kernel_rfl) (by kernel_rfl) (Nat.le_of_ble_eq_true rfl) trivial HW1.out ?_
  refine rs_old (hO _ _) (.inl (Nat.ne_of_beq_eq_false rfl)) _ (.inl rfl) _ rfl rfl ?_
  apply rs_eq (hO _ _) (.inl (Nat.ne_of_beq_eq_false rfl))
  · intro ρ w' ho hK
    have ho : Only _ w1 w' := ho
    obtain ⟨h0, -⟩ := hK
    have h0' : ρ (.tmp 3) = _ := h0
    go_simp
    try exact rfl
  apply rs_eq (hO _ _) (.inl (Nat.ne_of_beq_eq_false rfl))
  · intro ρ w' ho hK
    have ho : Only _ w1 w' := ho
    obtain ⟨h0, -⟩ := hK
    have h0' : ρ (.tmp 13) = _ := h0
    have q1 := cell_on ho (by omega) z p1
    have q3 := cell_on ho (by omega) z p3
    go_simp
    try exact rfl
  refine rs_call (hO _ _) (.inl (Nat.ne_of_beq_eq_false rfl)) (TOwn (w.heap.size + 2) 4 1 (Cir.lits V d.outs).length (bools (Cir.lits V d.outs))) (stb_own (fun g hg => by have h : g = w.heap.size + 1 := hg; omega) _ _ _ _) 132 _ _ rfl (fun ρ w' ho hK => by
    have ho : Only _ w1 w' := ho
    obtain ⟨h0, h1, h2, -⟩ := hK
    have h0' : ρ (.func 132) = .func (.func 132) #[] #[] := h0
    have h1' : ρ (.tmp 12) = _ := h1
    have h2' : ρ (.tmp 14) = _ := h2
    refine ⟨#[ρ (.tmp 12), ρ (.tmp 14)], ?_, ?_⟩
    · go_simp
    · rw [h1', h2']
      refine (l2Lits_any _ _ V d.outs w' (HVw _ ho) (R3.out.below (HBw _ ho)) (by rw [HL.out]; exact HO.out) (by omega) (by rw [HL.out]; omega)).mono ?_
      rintro e w2 ⟨v2, rfl, hO2, hb2⟩
      exact ⟨v2, rfl, own_mono hO2 (by have := ho.size; omega), hb2⟩) ?_
  refine rs_old (hO _ _) (.inl (Nat.ne_of_beq_eq_false rfl)) _ (.inl rfl) _ rfl rfl ?_
  apply rs_eq (hO _ _) (.inl (Nat.ne_of_beq_eq_false rfl))
  · intro ρ w' ho hK
    have ho : Only _ w1 w' := ho
    obtain ⟨h0, -⟩ := hK
    have h0' : ρ (.tmp 3) = _ := h0
    go_simp
    try exact rfl
  apply rs_eq (hO _ _) (.inl (Nat.ne_of_beq_eq_false rfl))
  · intro ρ w' ho hK
    have ho : Only _ w1 w' := ho
    obtain ⟨h0, -⟩ := hK
    have h0' : ρ (.tmp 17) = _ := h0
    have q1 := cell_on ho (by omega) z p1
    have q3 := cell_on ho (by omega) z p3
    go_simp
    try exact rfl
  refine rs_call (hO _ _) (.inl (Nat.ne_of_beq_eq_false rfl)) (TOwn (w.heap.size + 2) 4 1 (Cir.lits V d.next).length (bools (Cir.lits V d.next))) (stb_own (fun g hg => by have h : g = w.heap.size + 1 := hg; omega) _ _ _ _) 132 _ _ rfl (fun ρ w' ho hK => by
    have ho : Only _ w1 w' := ho
    obtain ⟨h0, h1, h2, -⟩ := hK
    have h0' : ρ (.func 132) = .func (.func 132) #[] #[] := h0
    have h1' : ρ (.tmp 16) = _ := h1
    have h2' : ρ (.tmp 18) = _ := h2
    refine ⟨#[ρ (.tmp 16), ρ (.tmp 18)], ?_, ?_⟩
    · go_simp
    · rw [h1', h2']
      refine (l2Lits_any _ _ V d.next w' (HVw _ ho) (R1.out.below (HBw _ ho)) (by rw [HL.out]; exact HN.out) (by omega) (by rw [HL.out]; omega)).mono ?_
      rintro e w2 ⟨v2, rfl, hO2, hb2⟩
      exact ⟨v2, rfl, own_mono hO2 (by have := ho.size; omega), hb2⟩) ?_
  refine rs_look (hO _ _) (.inl (Nat.ne_of_beq_eq_false rfl)) (TOwn2 (w.heap.size + 2) 4 (Cir.lits V d.outs).length (bools (Cir.lits V d.outs)) 4 (Cir.lits V d.next).length (bools (Cir.lits V d.next))) (stb_own2 (fun g hg => by have h : g = w.heap.size + 1 := hg; omega) _ _ _ _ _ _) (fun ρ w' ho hK => by
    have ho : Only _ w1 w' := ho
    obtain ⟨h1, h2, -⟩ := hK
    have h1' : w'.ownsRow (w.heap.size + 2) 4 1 (ρ (.tmp 15)) (Cir.lits V d.outs).length (bools (Cir.lits V d.outs)) := h1
    have h2' : w'.ownsRow (w.heap.size + 2) 4 1 (ρ (.tmp 19)) (Cir.lits V d.next).length (bools (Cir.lits V d.next)) := h2
    obtain ⟨A1, c1, e1⟩ := slice_of_own h1'
    obtain ⟨A2, c2, e2⟩ := slice_of_own h2'
    refine ⟨.agg #[ρ (.tmp 15), ρ (.tmp 19)], ?_, ⟨_, _, rfl, h1', h2'⟩⟩
    go_simp) ?_
  refine rs_do rfl rfl rfl (fun ρ w' ho h0 hK => by
    have ho : Only _ w1 w' := ho
    obtain ⟨h1, h2, -⟩ := hK
    have h1' : ρ (.tmp 6) = .pointer (some ⟨w.heap.size + 1, 0, none⟩) := h1
    obtain ⟨a, b, e2, oa, ob⟩ : (TOwn2 (w.heap.size + 2) 4 (Cir.lits V d.outs).length (bools (Cir.lits V d.outs)) 4 (Cir.lits V d.next).length (bools (Cir.lits V d.next))) w' (ρ (.tmp 20)) := h2
    obtain ⟨A1, c1, rfl⟩ := slice_of_own oa
    obtain ⟨A2, c2, rfl⟩ := slice_of_own ob
    have hl := heap_lt h0
    have k0 := blk_cell h0 0
    have k1 := blk_cell h0 1
    have f0 := blk_free h0 0
    have f1 := blk_free h0 1
    simp at k0 k1
    have s1 := heap_setCell_same w' (w.heap.size + 1) 0 _ _ (.slice A1 (Cir.lits V d.outs).length c1) h0
    have s2 := heap_setCell_same _ (w.heap.size + 1) 1 _ _ (.slice A2 (Cir.lits V d.next).length c2) s1
    refine ⟨(w'.setCell ⟨w.heap.size + 1, 0, none⟩ (.slice A1 (Cir.lits V d.outs).length c1)).setCell ⟨w.heap.size + 1, 1, none⟩ (.slice A2 (Cir.lits V d.next).length c2), ?_, ⟨_, _, heap_lt s2, blk_cell s2 0, blk_cell s2 1, ?_, ?_⟩, ?_⟩
    · clear s1 s2
      go_simp
    · exact own_set (own_set oa (by omega)) (by omega)
    · exact own_set (own_set ob (by omega)) (by omega)
    · exact (Only.grown (set_grown w' (w.heap.size + 1) 0 _) (fun q hq => (Option.some.inj hq).symm)).trans (Only.grown (set_grown _ (w.heap.size + 1) 1 _) (fun q hq => (Option.some.inj hq).symm))) ?_
  intro f w9 k9 hk9 hI9 ht9 hcp9
  have E0 : f 0 = _ := ht9 0 (Nat.le_of_ble_eq_true rfl)
  have E1 : f 1 = _ := ht9 1 (Nat.le_of_ble_eq_true rfl)
  have E2 : f 2 = _ := ht9 2 (Nat.le_of_ble_eq_true rfl)
  have E3 : (TOwn (w.heap.size + 2) 4 1 (Cir.lits V d.outs).length (bools (Cir.lits V d.outs))) w9 (f 3) := ht9 3 (Nat.le_of_ble_eq_true rfl)
  have E4 : f 4 = _ := ht9 4 (Nat.le_of_ble_eq_true rfl)
  have E5 : f 5 = _ := ht9 5 (Nat.le_of_ble_eq_true rfl)
  have E6 : f 6 = _ := ht9 6 (Nat.le_of_ble_eq_true rfl)
  have E7 : (TOwn (w.heap.size + 2) 4 1 (Cir.lits V d.next).length (bools (Cir.lits V d.next))) w9 (f 7) := ht9 7 (Nat.le_of_ble_eq_true rfl)
  have E8 : (TOwn2 (w.heap.size + 2) 4 (Cir.lits V d.outs).length (bools (Cir.lits V d.outs)) 4 (Cir.lits V d.next).length (bools (Cir.lits V d.next))) w9 (f 8) := ht9 8 (Nat.le_of_ble_eq_true rfl)
  have E9 : (TAny) w9 (f 9) := ht9 9 (Nat.le_of_ble_eq_true rfl)
  have Ho9 : Only _ w1 w9 := hI9.2.1
  have HJ9 := hI9.2.2
  simp only [putAll, E0, E1, E2, E4, E5, E6, Nat.zero_add, Nat.reduceAdd, Act.put, List.setIfInBounds_toArray, List.set_cons_succ, List.set_cons_zero]
  clear E0 E1 E2 E4 E5 E6
  clear hI9 ht9 hcp9 hk9
  generalize f 3 = r3 at *
  generalize f 7 = r7 at *
  generalize f 8 = r8 at *
  generalize f 9 = r9 at *
  have hR : R1Step w.heap.size (Cir.lits V d.outs) (Cir.lits V d.next) w9 := HJ9
  have B := Lib.hid (HBw _ Ho9)
  obtain ⟨a, b, hg, c0, c1, oa, ob⟩ := hR
  have Oa := Lib.hid oa
  have Ob := Lib.hid ob
  clear E3 E7 E8 E9 HJ9 Ho9 oa ob HBw HVw hO p0 p1 p2 p3
  go_wp2_with fail
  exact bodyPost_ret (v := .agg #[a, b]) (by simp [results, Try.results87, go_sem, c0, c1]) rfl ⟨_, _, rfl, own_mono Oa.out (by omega), own_mono Ob.out (by omega), B.out⟩
end Go.Proofs.Ytmlcbikljlhhkaa

namespace Go.Proofs.Ytmlcbikljlhhkaa
open Go.RowKit
set_option maxRecDepth 100000
/-! The next state and the outputs, by the reference; small searches in lists. -/
theorem step_field0 (A B : Option Addr) (n m c q : Nat) (w : World) : (Instr.field 101 (.agg #[.slice A n c, .slice B m q]) 0).run Try.prog w = .ok (.slice A n c) w := by kernel_rfl
theorem step_field1 (A B : Option Addr) (n m c q : Nat) (w : World) : (Instr.field 101 (.agg #[.slice A n c, .slice B m q]) 1).run Try.prog w = .ok (.slice B m q) w := by kernel_rfl
/-- l2Step, drawn: a struct of two rows. -/
def TStep (so st : List Bool) : Ty := fun w v => ∃ a b, v = .agg #[a, b] ∧ BoolsAt w a so ∧ BoolsAt w b st
theorem stb_step (so st : List Bool) : Stb (fun _ => False) (TStep so st) := by
  rintro v w w' ⟨a, b, rfl, h1, h2⟩ ho
  exact ⟨a, b, rfl, stb_bools _ _ _ _ h1 ho, stb_bools _ _ _ _ h2 ho⟩
set_option maxHeartbeats 4000000 in
theorem l16Next_any (v : Value) (d : Ci) (s x : Nat) (w : World) (h : CircAt w v (Cir.toCz d)) (hd : Cir.Ok d) (hs : s ≤ 1000) (hx : x ≤ 1000) :
    Calls Try.prog 99 #[v, .int .i64 s, .int .i64 x] w fun e w' => e = .returned (.int .i64 (Cir.nextOf d s x : Nat)) ∧ Below w.heap.size w w' := by
  have l1 := hd.ins
  have l2 := hd.nexts
  have HC := Lib.hid h
  obtain ⟨vn, vg, vo, rfl, r1, r2, r3⟩ := h
  obtain ⟨An, cn, rfl, hcn, hcmn⟩ := NatsAt.shape (xs := d.next) r1
  have hins : (Cir.toCz d).ins = (d.ins : Int) := rfl
  rw [hins] at HC ⊢
  have B0 := Lib.hid (bel_new w (.cells #[.int .i64 d.ins, .slice An d.next.length cn, vg, vo] 30))
  obtain ⟨z, p0, p1, p2, p3⟩ := PCells.boxed w d.ins (.slice An d.next.length cn) vg vo 30
  have HC := Lib.hid (HC.out.below B0.out)
  have Hd := Lib.hid hd
  have HNx : Hid (Cir.nextOf d s x = Cir.num (Cir.lits (Cir.vals d (Cir.bits s d.next.length) (Cir.bits x d.ins)) d.next)) := Lib.hid rfl
  clear r1 r2 r3 hd hins
  go_enter Try.func99, Try.ntmps99
  go_wp2_with fail
  generalize w.alloc (.cells #[.int .i64 d.ins, .slice An d.next.length cn, vg, vo] 30) = W at *
  refine wp_region_rs (quietRS Try.prog _ W _) quietRS_ok (by kernel_rfl) (by kernel_rfl) (by kernel_rfl) (Nat.le_of_ble_eq_true rfl) trivial trivial ?_
  apply rs_eq quietRS_ok quiet_any
  · intro ρ w' ho hK
    have ho : Only _ W w' := ho
    obtain ⟨h0, -⟩ := hK
    have h0' : ρ (.tmp 3) = _ := h0
    have hb := only_below ho
    have q0 := (hb.cell (p := ⟨w.heap.size, 0, none⟩) z).trans p0
    have q1 := (hb.cell (p := ⟨w.heap.size, 1, none⟩) z).trans p1
    have q2 := (hb.cell (p := ⟨w.heap.size, 2, none⟩) z).trans p2
    have q3 := (hb.cell (p := ⟨w.heap.size, 3, none⟩) z).trans p3
    go_simp
    try exact rfl
  refine rs_old quietRS_ok quiet_any _ (.inl rfl) _ rfl rfl ?_
  apply rs_eq quietRS_ok quiet_any
  · intro ρ w' ho hK
    have ho : Only _ W w' := ho
    obtain ⟨h0, -⟩ := hK
    have h0' : ρ (.tmp 3) = _ := h0
    go_simp
    try exact rfl
  apply rs_eq quietRS_ok quiet_any
  · intro ρ w' ho hK
    have ho : Only _ W w' := ho
    obtain ⟨h0, -⟩ := hK
    have h0' : ρ (.tmp 9) = _ := h0
    have hb := only_below ho
    have q0 := (hb.cell (p := ⟨w.heap.size, 0, none⟩) z).trans p0
    have q1 := (hb.cell (p := ⟨w.heap.size, 1, none⟩) z).trans p1
    have q2 := (hb.cell (p := ⟨w.heap.size, 2, none⟩) z).trans p2
    have q3 := (hb.cell (p := ⟨w.heap.size, 3, none⟩) z).trans p3
    go_simp
    try exact rfl
  apply rs_eq quietRS_ok quiet_any
  · intro ρ w' ho hK
    have ho : Only _ W w' := ho
    obtain ⟨h0, -⟩ := hK
    have h0' : ρ (.tmp 10) = _ := h0
    go_simp
    try exact rfl
  refine rs_call quietRS_ok quiet_any (TBools (Cir.bits s d.next.length)) (stb_bools _) 64 _ _ rfl (fun ρ w' ho hK => by
    have ho : Only _ W w' := ho
    obtain ⟨h0, h1, h2, -⟩ := hK
    have h0' : ρ (.func 64) = .func (.func 64) #[] #[] := h0
    have h1' : ρ (.tmp 8) = _ := h1
    have h2' : ρ (.tmp 11) = _ := h2
    refine ⟨#[ρ (.tmp 8), ρ (.tmp 11)], ?_, ?_⟩
    · go_simp
    · rw [h1', h2']
      refine (l4Bits_any s d.next.length w' (by omega) (by omega)).mono ?_
      rintro e w2 ⟨v2, rfl, hO, hb⟩
      exact ⟨v2, rfl, Row.of_own hO, hb⟩) ?_
  refine rs_old quietRS_ok quiet_any _ (.inl rfl) _ rfl rfl ?_
  apply rs_eq quietRS_ok quiet_any
  · intro ρ w' ho hK
    have ho : Only _ W w' := ho
    obtain ⟨h0, -⟩ := hK
    have h0' : ρ (.tmp 3) = _ := h0
    go_simp
    try exact rfl
  apply rs_eq quietRS_ok quiet_any
  · intro ρ w' ho hK
    have ho : Only _ W w' := ho
    obtain ⟨h0, -⟩ := hK
    have h0' : ρ (.tmp 14) = _ := h0
    have hb := only_below ho
    have q0 := (hb.cell (p := ⟨w.heap.size, 0, none⟩) z).trans p0
    have q1 := (hb.cell (p := ⟨w.heap.size, 1, none⟩) z).trans p1
    have q2 := (hb.cell (p := ⟨w.heap.size, 2, none⟩) z).trans p2
    have q3 := (hb.cell (p := ⟨w.heap.size, 3, none⟩) z).trans p3
    go_simp
    try exact rfl
  refine rs_call quietRS_ok quiet_any (TBools (Cir.bits x d.ins)) (stb_bools _) 64 _ _ rfl (fun ρ w' ho hK => by
    have ho : Only _ W w' := ho
    obtain ⟨h0, h1, h2, -⟩ := hK
    have h0' : ρ (.func 64) = .func (.func 64) #[] #[] := h0
    have h1' : ρ (.tmp 13) = _ := h1
    have h2' : ρ (.tmp 15) = _ := h2
    refine ⟨#[ρ (.tmp 13), ρ (.tmp 15)], ?_, ?_⟩
    · go_simp
    · rw [h1', h2']
      refine (l4Bits_any x d.ins w' (by omega) (by omega)).mono ?_
      rintro e w2 ⟨v2, rfl, hO, hb⟩
      exact ⟨v2, rfl, Row.of_own hO, hb⟩) ?_
  refine rs_call quietRS_ok quiet_any (TStep (Cir.outsOf d s x) (Cir.lits (Cir.vals d (Cir.bits s d.next.length) (Cir.bits x d.ins)) d.next)) (stb_step _ _) 87 _ _ rfl (fun ρ w' ho hK => by
    have ho : Only _ W w' := ho
    obtain ⟨h0, h1, h2, h3, -⟩ := hK
    have h0' : ρ (.func 87) = .func (.func 87) #[] #[] := h0
    have h1' : ρ (.tmp 7) = _ := h1
    have h2' : (TBools (Cir.bits s d.next.length)) w' (ρ (.tmp 12)) := h2
    have h3' : (TBools (Cir.bits x d.ins)) w' (ρ (.tmp 16)) := h3
    refine ⟨#[ρ (.tmp 7), ρ (.tmp 12), ρ (.tmp 16)], ?_, ?_⟩
    · go_simp
    · rw [h1']
      refine (l2Step_any _ _ _ d _ _ w' (HC.out.below (only_below ho)) Hd.out h2' h3' (Cir.bits_length _ _) (Cir.bits_length _ _)).mono ?_
      rintro e w2 ⟨a, b, rfl, oa, ob, hb⟩
      exact ⟨_, rfl, ⟨a, b, rfl, Row.of_own oa, Row.of_own ob⟩, hb⟩) ?_
  refine rs_look quietRS_ok quiet_any (TBools (Cir.lits (Cir.vals d (Cir.bits s d.next.length) (Cir.bits x d.ins)) d.next)) (stb_bools _) (fun ρ w' ho hK => by
    obtain ⟨h0, -⟩ := hK
    obtain ⟨a, b, e0, ha, hb⟩ : (TStep (Cir.outsOf d s x) (Cir.lits (Cir.vals d (Cir.bits s d.next.length) (Cir.bits x d.ins)) d.next)) w' (ρ (.tmp 17)) := h0
    obtain ⟨Aa, ca, rfl, -⟩ := Row.shape ha
    obtain ⟨Ab, cb, rfl, -⟩ := Row.shape hb
    have hf := fun n m => step_field1 Aa Ab n m ca cb w'
    refine ⟨_, ?_, hb⟩
    go_simp) ?_
  refine rs_call quietRS_ok quiet_any (TEq (.int .i64 (Cir.nextOf d s x : Nat))) (stb_eq _ _) 108 _ _ rfl (fun ρ w' ho hK => by
    have ho : Only _ W w' := ho
    obtain ⟨h0, h1, -⟩ := hK
    have h0' : ρ (.func 108) = .func (.func 108) #[] #[] := h0
    have h1' : (TBools (Cir.lits (Cir.vals d (Cir.bits s d.next.length) (Cir.bits x d.ins)) d.next)) w' (ρ (.tmp 18)) := h1
    refine ⟨#[ρ (.tmp 18)], ?_, ?_⟩
    · go_simp
    · skip
      refine (l16Number_any _ _ w' h1' (by rw [lits_length]; omega)).mono ?_
      rintro e w2 ⟨rfl, rfl⟩
      exact ⟨_, rfl, by rw [HNx.out]; rfl, Below.refl _ _⟩) ?_
  refine rs_same quietRS_ok quiet_any 19 12 (.inr rfl) rfl _ rfl ?_
  intro f w9 k9 hk9 hI9 ht9 hcp9
  have E0 : f 0 = _ := ht9 0 (Nat.le_of_ble_eq_true rfl)
  have E1 : f 1 = _ := ht9 1 (Nat.le_of_ble_eq_true rfl)
  have E2 : f 2 = _ := ht9 2 (Nat.le_of_ble_eq_true rfl)
  have E3 : f 3 = _ := ht9 3 (Nat.le_of_ble_eq_true rfl)
  have E4 : f 4 = _ := ht9 4 (Nat.le_of_ble_eq_true rfl)
  have E5 : (TBools (Cir.bits s d.next.length)) w9 (f 5) := ht9 5 (Nat.le_of_ble_eq_true rfl)
  have E6 : f 6 = _ := ht9 6 (Nat.le_of_ble_eq_true rfl)
  have E7 : f 7 = _ := ht9 7 (Nat.le_of_ble_eq_true rfl)
  have E8 : f 8 = _ := ht9 8 (Nat.le_of_ble_eq_true rfl)
  have E9 : (TBools (Cir.bits x d.ins)) w9 (f 9) := ht9 9 (Nat.le_of_ble_eq_true rfl)
  have E10 : (TStep (Cir.outsOf d s x) (Cir.lits (Cir.vals d (Cir.bits s d.next.length) (Cir.bits x d.ins)) d.next)) w9 (f 10) := ht9 10 (Nat.le_of_ble_eq_true rfl)
  have E11 : (TBools (Cir.lits (Cir.vals d (Cir.bits s d.next.length) (Cir.bits x d.ins)) d.next)) w9 (f 11) := ht9 11 (Nat.le_of_ble_eq_true rfl)
  have E12 : f 12 = _ := ht9 12 (Nat.le_of_ble_eq_true rfl)
  have E13 : f 13 = _ := ht9 13 (Nat.le_of_ble_eq_true rfl)
  have Ho9 : Only _ W w9 := hI9.2.1
  simp only [putAll, E0, E1, E2, E3, E4, E6, E7, E8, E12, E13, Nat.zero_add, Nat.reduceAdd, Act.put, List.setIfInBounds_toArray, List.set_cons_succ, List.set_cons_zero]
  clear E0 E1 E2 E3 E4 E6 E7 E8 E12 E13
  clear hI9 ht9 hcp9 hk9
  generalize f 5 = r5 at *
  generalize f 9 = r9 at *
  generalize f 10 = r10 at *
  generalize f 11 = r11 at *
  have B := Lib.hid (B0.out.trans ((only_below Ho9).mono B0.out.size))
  clear Ho9 E5 E9 E10 E11 p0 p1 p2 p3
  go_wp2_with fail
  go_ret
  exact ⟨rfl, B.out⟩
set_option maxHeartbeats 4000000 in
theorem l16Outs_any (v : Value) (d : Ci) (s x : Nat) (w : World) (h : CircAt w v (Cir.toCz d)) (hd : Cir.Ok d) (hs : s ≤ 1000) (hx : x ≤ 1000) :
    Calls Try.prog 97 #[v, .int .i64 s, .int .i64 x] w fun e w' => (∃ u, e = .returned u ∧ BoolsAt w' u (Cir.outsOf d s x)) ∧ Below w.heap.size w w' := by
  have l1 := hd.ins
  have l2 := hd.nexts
  have HC := Lib.hid h
  obtain ⟨vn, vg, vo, rfl, r1, r2, r3⟩ := h
  obtain ⟨An, cn, rfl, hcn, hcmn⟩ := NatsAt.shape (xs := d.next) r1
  have hins : (Cir.toCz d).ins = (d.ins : Int) := rfl
  rw [hins] at HC ⊢
  have B0 := Lib.hid (bel_new w (.cells #[.int .i64 d.ins, .slice An d.next.length cn, vg, vo] 30))
  obtain ⟨z, p0, p1, p2, p3⟩ := PCells.boxed w d.ins (.slice An d.next.length cn) vg vo 30
  have HC := Lib.hid (HC.out.below B0.out)
  have Hd := Lib.hid hd
  clear r1 r2 r3 hd hins
  go_enter Try.func97, Try.ntmps97
  go_wp2_with fail
  generalize w.alloc (.cells #[.int .i64 d.ins, .slice An d.next.length cn, vg, vo] 30) = W at *
  refine wp_region_rs (quietRS Try.prog _ W _) quietRS_ok (by kernel_rfl) (by kernel_rfl) (by kernel_rfl) (Nat.le_of_ble_eq_true rfl) trivial trivial ?_
  apply rs_eq quietRS_ok quiet_any
  · intro ρ w' ho hK
    have ho : Only _ W w' := ho
    obtain ⟨h0, -⟩ := hK
    have h0' : ρ (.tmp 3) = _ := h0
    have hb := only_below ho
    have q0 := (hb.cell (p := ⟨w.heap.size, 0, none⟩) z).trans p0
    have q1 := (hb.cell (p := ⟨w.heap.size, 1, none⟩) z).trans p1
    have q2 := (hb.cell (p := ⟨w.heap.size, 2, none⟩) z).trans p2
    have q3 := (hb.cell (p := ⟨w.heap.size, 3, none⟩) z).trans p3
    go_simp
    try exact rfl
  refine rs_old quietRS_ok quiet_any _ (.inl rfl) _ rfl rfl ?_
  apply rs_eq quietRS_ok quiet_any
  · intro ρ w' ho hK
    have ho : Only _ W w' := ho
    obtain ⟨h0, -⟩ := hK
    have h0' : ρ (.tmp 3) = _ := h0
    go_simp
    try exact rfl
  apply rs_eq quietRS_ok quiet_any
  · intro ρ w' ho hK
    have ho : Only _ W w' := ho
    obtain ⟨h0, -⟩ := hK
    have h0' : ρ (.tmp 9) = _ := h0
    have hb := only_below ho
    have q0 := (hb.cell (p := ⟨w.heap.size, 0, none⟩) z).trans p0
    have q1 := (hb.cell (p := ⟨w.heap.size, 1, none⟩) z).trans p1
    have q2 := (hb.cell (p := ⟨w.heap.size, 2, none⟩) z).trans p2
    have q3 := (hb.cell (p := ⟨w.heap.size, 3, none⟩) z).trans p3
    go_simp
    try exact rfl
  apply rs_eq quietRS_ok quiet_any
  · intro ρ w' ho hK
    have ho : Only _ W w' := ho
    obtain ⟨h0, -⟩ := hK
    have h0' : ρ (.tmp 10) = _ := h0
    go_simp
    try exact rfl
  refine rs_call quietRS_ok quiet_any (TBools (Cir.bits s d.next.length)) (stb_bools _) 64 _ _ rfl (fun ρ w' ho hK => by
    have ho : Only _ W w' := ho
    obtain ⟨h0, h1, h2, -⟩ := hK
    have h0' : ρ (.func 64) = .func (.func 64) #[] #[] := h0
    have h1' : ρ (.tmp 8) = _ := h1
    have h2' : ρ (.tmp 11) = _ := h2
    refine ⟨#[ρ (.tmp 8), ρ (.tmp 11)], ?_, ?_⟩
    · go_simp
    · rw [h1', h2']
      refine (l4Bits_any s d.next.length w' (by omega) (by omega)).mono ?_
      rintro e w2 ⟨v2, rfl, hO, hb⟩
      exact ⟨v2, rfl, Row.of_own hO, hb⟩) ?_
  refine rs_old quietRS_ok quiet_any _ (.inl rfl) _ rfl rfl ?_
  apply rs_eq quietRS_ok quiet_any
  · intro ρ w' ho hK
    have ho : Only _ W w' := ho
    obtain ⟨h0, -⟩ := hK
    have h0' : ρ (.tmp 3) = _ := h0
    go_simp
    try exact rfl
  apply rs_eq quietRS_ok quiet_any
  · intro ρ w' ho hK
    have ho : Only _ W w' := ho
    obtain ⟨h0, -⟩ := hK
    have h0' : ρ (.tmp 14) = _ := h0
    have hb := only_below ho
    have q0 := (hb.cell (p := ⟨w.heap.size, 0, none⟩) z).trans p0
    have q1 := (hb.cell (p := ⟨w.heap.size, 1, none⟩) z).trans p1
    have q2 := (hb.cell (p := ⟨w.heap.size, 2, none⟩) z).trans p2
    have q3 := (hb.cell (p := ⟨w.heap.size, 3, none⟩) z).trans p3
    go_simp
    try exact rfl
  refine rs_call quietRS_ok quiet_any (TBools (Cir.bits x d.ins)) (stb_bools _) 64 _ _ rfl (fun ρ w' ho hK => by
    have ho : Only _ W w' := ho
    obtain ⟨h0, h1, h2, -⟩ := hK
    have h0' : ρ (.func 64) = .func (.func 64) #[] #[] := h0
    have h1' : ρ (.tmp 13) = _ := h1
    have h2' : ρ (.tmp 15) = _ := h2
    refine ⟨#[ρ (.tmp 13), ρ (.tmp 15)], ?_, ?_⟩
    · go_simp
    · rw [h1', h2']
      refine (l4Bits_any x d.ins w' (by omega) (by omega)).mono ?_
      rintro e w2 ⟨v2, rfl, hO, hb⟩
      exact ⟨v2, rfl, Row.of_own hO, hb⟩) ?_
  refine rs_call quietRS_ok quiet_any (TStep (Cir.outsOf d s x) (Cir.lits (Cir.vals d (Cir.bits s d.next.length) (Cir.bits x d.ins)) d.next)) (stb_step _ _) 87 _ _ rfl (fun ρ w' ho hK => by
    have ho : Only _ W w' := ho
    obtain ⟨h0, h1, h2, h3, -⟩ := hK
    have h0' : ρ (.func 87) = .func (.func 87) #[] #[] := h0
    have h1' : ρ (.tmp 7) = _ := h1
    have h2' : (TBools (Cir.bits s d.next.length)) w' (ρ (.tmp 12)) := h2
    have h3' : (TBools (Cir.bits x d.ins)) w' (ρ (.tmp 16)) := h3
    refine ⟨#[ρ (.tmp 7), ρ (.tmp 12), ρ (.tmp 16)], ?_, ?_⟩
    · go_simp
    · rw [h1']
      refine (l2Step_any _ _ _ d _ _ w' (HC.out.below (only_below ho)) Hd.out h2' h3' (Cir.bits_length _ _) (Cir.bits_length _ _)).mono ?_
      rintro e w2 ⟨a, b, rfl, oa, ob, hb⟩
      exact ⟨_, rfl, ⟨a, b, rfl, Row.of_own oa, Row.of_own ob⟩, hb⟩) ?_
  refine rs_look quietRS_ok quiet_any (TBools (Cir.outsOf d s x)) (stb_bools _) (fun ρ w' ho hK => by
    obtain ⟨h0, -⟩ := hK
    obtain ⟨a, b, e0, ha, hb⟩ : (TStep (Cir.outsOf d s x) (Cir.lits (Cir.vals d (Cir.bits s d.next.length) (Cir.bits x d.ins)) d.next)) w' (ρ (.tmp 17)) := h0
    obtain ⟨Aa, ca, rfl, -⟩ := Row.shape ha
    obtain ⟨Ab, cb, rfl, -⟩ := Row.shape hb
    have hf := fun n m => step_field0 Aa Ab n m ca cb w'
    refine ⟨_, ?_, ha⟩
    go_simp) ?_
  refine rs_same quietRS_ok quiet_any 18 11 (.inr rfl) rfl _ rfl ?_
  intro f w9 k9 hk9 hI9 ht9 hcp9
  have E0 : f 0 = _ := ht9 0 (Nat.le_of_ble_eq_true rfl)
  have E1 : f 1 = _ := ht9 1 (Nat.le_of_ble_eq_true rfl)
  have E2 : f 2 = _ := ht9 2 (Nat.le_of_ble_eq_true rfl)
  have E3 : f 3 = _ := ht9 3 (Nat.le_of_ble_eq_true rfl)
  have E4 : f 4 = _ := ht9 4 (Nat.le_of_ble_eq_true rfl)
  have E5 : (TBools (Cir.bits s d.next.length)) w9 (f 5) := ht9 5 (Nat.le_of_ble_eq_true rfl)
  have E6 : f 6 = _ := ht9 6 (Nat.le_of_ble_eq_true rfl)
  have E7 : f 7 = _ := ht9 7 (Nat.le_of_ble_eq_true rfl)
  have E8 : f 8 = _ := ht9 8 (Nat.le_of_ble_eq_true rfl)
  have E9 : (TBools (Cir.bits x d.ins)) w9 (f 9) := ht9 9 (Nat.le_of_ble_eq_true rfl)
  have E10 : (TStep (Cir.outsOf d s x) (Cir.lits (Cir.vals d (Cir.bits s d.next.length) (Cir.bits x d.ins)) d.next)) w9 (f 10) := ht9 10 (Nat.le_of_ble_eq_true rfl)
  have E11 : (TBools (Cir.outsOf d s x)) w9 (f 11) := ht9 11 (Nat.le_of_ble_eq_true rfl)
  have E12 : (TBools (Cir.outsOf d s x)) w9 (f 12) := ht9 12 (Nat.le_of_ble_eq_true rfl)
  have Ho9 : Only _ W w9 := hI9.2.1
  have C12 : f 12 = f 11 := (hcp9 12 _ 18 11 rfl rfl rfl rfl).2
  simp only [putAll, E0, E1, E2, E3, E4, E6, E7, E8, C12, Nat.zero_add, Nat.reduceAdd, Act.put, List.setIfInBounds_toArray, List.set_cons_succ, List.set_cons_zero]
  clear E0 E1 E2 E3 E4 E6 E7 E8
  clear hI9 ht9 hcp9 hk9
  generalize f 5 = r5 at *
  generalize f 9 = r9 at *
  generalize f 10 = r10 at *
  generalize f 11 = r11 at *
  have B := Lib.hid (B0.out.trans ((only_below Ho9).mono B0.out.size))
  have HU := Lib.hid E11
  clear Ho9 E5 E9 E10 E11 p0 p1 p2 p3
  go_wp2_with fail
  go_ret
  exact ⟨⟨_, rfl, HU.out⟩, B.out⟩
theorem l16Has_any (v : Value) (xs : List Nat) (n : Nat) (w : World) (h : NatsAt w v xs) (hn : n ≤ 1000000) :
    Calls Try.prog 100 #[v, .int .i64 n] w fun e w' => e = .returned (.bool (Cir.memB xs n)) ∧ w = w' := by
  obtain ⟨A, c, rfl, hc, hcm⟩ := h.shape
  unfold maxLen at hcm
  have H := Lib.hid h
  have h0 : Hid (Cir.memB xs n = (xs.drop 0).contains n) := Lib.hid rfl
  generalize Cir.memB xs n = res at h0 ⊢
  clear h
  go_enter Try.func100, Try.ntmps100
  go_wp2_with fail
  go_loop [5] (fun i => ∃ k : Nat, k ≤ xs.length ∧ i = .int .i64 k ∧ Hid (res = (xs.drop k).contains n)) (fun i => xs.length - (intOf i).toNat)
  case atStart => exact ⟨0, Nat.zero_le _, rfl, h0⟩
  case round =>
    obtain ⟨k, hk, rfl, hres⟩ := hrel
    clear h0
    by_cases hlt : k < xs.length
    · obtain ⟨b, o, x, rfl, hbl, hx, hs1⟩ := nats_cell (nats_row H.out) rfl hlt
      have Hstep : Hid ((xs.drop k).contains n = (n == x || (xs.drop (k + 1)).contains n)) := Lib.hid (by
        obtain ⟨hk', e⟩ := List.getElem?_eq_some_iff.1 hx.out
        rw [List.drop_eq_getElem_cons hk', e, List.contains_cons])
      by_cases hxn : x = n
      · obtain rfl : res = true := by rw [hres.out, Hstep.out, hxn]; simp
        have hq : ((x : Int) == (n : Int)) = true := by simp [hxn]
        clear hxn
        go_wp2_with fail
        go_ret
        exact ⟨rfl, rfl⟩
      · have Hn : Hid (res = (xs.drop (k + 1)).contains n) := Lib.hid (by rw [hres.out, Hstep.out, show (n == x) = false from by simpa using fun e => hxn e.symm]; rfl)
        have hq : ((x : Int) == (n : Int)) = false := by simp; omega
        clear hxn
        go_wp2_with fail
        go_round
        case rel => exact ⟨k + 1, by omega, by go_num, Hn⟩
        case measure => simp [intOf] <;> omega
    · obtain rfl : res = false := by rw [hres.out, List.drop_eq_nil_of_le (by omega : xs.length ≤ k)]; rfl
      go_wp2_with fail
      go_ret
      exact ⟨rfl, rfl⟩
end Go.Proofs.Ytmlcbikljlhhkaa
