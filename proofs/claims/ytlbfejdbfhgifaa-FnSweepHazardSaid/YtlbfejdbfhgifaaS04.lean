import Derived.Test.YtlbfejdbfhgifaaS03
import Derived.Test.YtlbfejdbfhgifaaS02
import Derived.Test.YtlbfejdbfhgifaaS01
import Derived.Test.YtlbfejdbfhgifaaProg
import Derived.Maps.Views
import Derived.Maps.OwnOps
import Derived.Maps.RangeWalk
set_option linter.unusedVariables false
set_option linter.unusedSimpArgs false
namespace Go.Proofs.Ytlbfejdbfhgifaa
open Go.RowKit
set_option maxRecDepth 100000
/-! Values of lists of literals; numbers of bits. -/
theorem lits_snoc {v : List Bool} {ls : List Nat} {k l : Nat} (h : ls[k]? = some l) : Cir.lits v (ls.take (k + 1)) = Cir.lits v (ls.take k) ++ [Cir.lit v l] := by
  unfold Cir.lits
  rw [take_snoc h, List.map_append]
  rfl
theorem lits_length (v : List Bool) (ls : List Nat) : (Cir.lits v ls).length = ls.length := List.length_map _
theorem litValues_any (v vl : Value) (xs : List Bool) (ls : List Nat) (w : World) (h : BoolsAt w v xs) (hl : NatsAt w vl ls) (hlt : ∀ l ∈ ls, l < 2 * xs.length) (hn : ls.length ≤ 1000) (hx : xs.length ≤ 1000) :
    Calls Try.prog 127 #[v, vl] w (OwnBools (Cir.lits xs ls) w) := by
  obtain ⟨A, c, rfl, hc, hcm⟩ := hl.shape
  have hmk := run_make_cap (P := Try.prog) 62 4 (.bool false) 1 1 Try.underlying62 info_bool .i64 .i64 ls.length (by omega) (by omega)
  simp only [Value.cells, Nat.mul_one] at hmk
  have Hl := Lib.hid hl
  have H := Lib.hid h
  have HLt := Lib.hid hlt
  clear hl h hlt
  go_enter Try.func127, Try.ntmps127
  go_wp2_with fail
  have hown0 := World.ownsRow_made (base := w.heap.size) (e := 4) (size := 1) w (madeCells #[Value.bool false] ls.length) ls.length (Nat.le_refl _) (by unfold maxLen; omega) (by simp [madeCells])
  have hb0 : Below w.heap.size w (w.alloc (.cells (madeCells #[Value.bool false] ls.length) 4)) := (Below.refl _ _).alloc (Nat.le_refl _) _
  clear hmk
  go_loopw [5, 13] (fun v i wr => ∃ (vv : Value) (k : Nat), vv = v ∧ k ≤ ls.length ∧ i = .int .i64 k ∧ Hid (wr.ownsRow w.heap.size 4 1 v k (bools (Cir.lits xs (ls.take k)))) ∧ Below w.heap.size w wr) (fun _ i _ => ls.length - (intOf i).toNat)
  case atStart => exact ⟨_, 0, rfl, Nat.zero_le _, rfl, Lib.hid hown0, hb0⟩
  case round =>
    obtain ⟨vv, k, hvv, hk, rfl, Ho, hb⟩ := hrel
    subst hvv
    clear hown0 hb0
    by_cases hlt : k < ls.length
    · have hz := hb.size
      have Hb := Lib.hid hb
      obtain ⟨b, o, l, rfl, hbl, hx0, hs0⟩ := nats_cell (nats_row (Hl.out.below hb)) rfl hlt
      have hl2 := HLt.out l (List.mem_of_getElem? hx0.out)
      have HS : Hid (bools (Cir.lits xs (ls.take (k + 1))) = bools (Cir.lits xs (ls.take k)) ++ [.bool (Cir.lit xs l)]) := Lib.hid (by rw [lits_snoc hx0.out, bools_append]; rfl)
      have Hx := Lib.hid (Row.below H.out hb)
      clear hb
      go_wp2_with fail
      refine (litValue_any _ xs l _ Hx.out hl2 (by omega)).mono ?_
      rintro e w' ⟨rfl, rfl⟩
      generalize Cir.lit xs l = u at *
      have Hlit := Lib.hid (Row.of_own (World.ownsRow_lit (base := wr.heap.size) (e := 4) (size := 1) wr #[.bool u] 1 (Nat.le_refl _) (by unfold maxLen; omega) rfl))
      go_wp2_with (at_builtin; refine append_bools rfl (.tmp 17) (.tmp 21) rfl w.heap.size _ k _ rfl (Ho.out.alloc _) _ 1 [.bool u] rfl Hlit.out (by simp [Value.oneCell']) (by omega) (by simp; omega) ?_; intro v7 w7 hown7 hg7 hat7; have Ho7 := Lib.hid hown7; have Hg7 := Lib.hid hg7; clear hown7 hg7 hat7)
      go_roundw
      case rel => exact ⟨_, k + 1, rfl, by omega, by go_num, Lib.hid (by rw [HS.out]; exact Ho7.out), (Hb.out.alloc hz _).grown Hg7.out (Hb.out.alloc hz _).size (own_ge0 Ho.out)⟩
      case measure => simp [intOf] <;> omega
    · obtain rfl : k = ls.length := by omega
      go_wp2_with fail
      go_ret
      exact ⟨_, rfl, by rw [lits_length]; have := Ho.out; rwa [List.take_length] at this, hb⟩
theorem l2Lits_any (v vl : Value) (xs : List Bool) (ls : List Nat) (w : World) (h : BoolsAt w v xs) (hl : NatsAt w vl ls) (hlt : ∀ l ∈ ls, l < 2 * xs.length) (hn : ls.length ≤ 1000) (hx : xs.length ≤ 1000) :
    Calls Try.prog 98 #[v, vl] w (OwnBools (Cir.lits xs ls) w) := by
  obtain ⟨A, c, rfl, hc, hcm⟩ := hl.shape
  have Hl := Lib.hid hl
  have H := Lib.hid h
  have HLt := Lib.hid hlt
  clear hl h hlt
  go_enter Try.func98, Try.ntmps98
  go_wp2_with fail
  go_loopw [5, 6] (fun v i wr => ∃ (vv : Value) (k : Nat), vv = v ∧ k ≤ ls.length ∧ i = .int .i64 k ∧ Hid (wr.ownsRow w.heap.size 4 1 v k (bools (Cir.lits xs (ls.take k)))) ∧ Below w.heap.size w wr) (fun _ i _ => ls.length - (intOf i).toNat)
  case atStart => exact ⟨_, 0, rfl, Nat.zero_le _, rfl, Lib.hid (World.ownsRow_lit (base := w.heap.size) (e := 4) (size := 1) w #[] 0 (Nat.le_refl _) (by unfold maxLen; omega) rfl), (Below.refl _ _).alloc (Nat.le_refl _) _⟩
  case round =>
    obtain ⟨vv, k, hvv, hk, rfl, Ho, hb⟩ := hrel
    subst hvv
    by_cases hlt : k < ls.length
    · have hz := hb.size
      have Hb := Lib.hid hb
      obtain ⟨b, o, l, rfl, hbl, hx0, hs0⟩ := nats_cell (nats_row (Hl.out.below hb)) rfl hlt
      have hl2 := HLt.out l (List.mem_of_getElem? hx0.out)
      have HS : Hid (bools (Cir.lits xs (ls.take (k + 1))) = bools (Cir.lits xs (ls.take k)) ++ [.bool (Cir.lit xs l)]) := Lib.hid (by rw [lits_snoc hx0.out, bools_append]; rfl)
      have Hx := Lib.hid (Row.below H.out hb)
      clear hb
      go_wp2_with fail
      refine (l2Lit_any _ xs l _ Hx.out hl2 (by omega)).mono ?_
      rintro e w' ⟨rfl, rfl⟩
      generalize Cir.lit xs l = u at *
      have Hlit := Lib.hid (Row.of_own (World.ownsRow_lit (base := wr.heap.size) (e := 4) (size := 1) wr #[.bool u] 1 (Nat.le_refl _) (by unfold maxLen; omega) rfl))
      go_wp2_with (at_builtin; refine append_bools rfl (.tmp 14) (.tmp 21) rfl w.heap.size _ k _ rfl (Ho.out.alloc _) _ 1 [.bool u] rfl Hlit.out (by simp [Value.oneCell']) (by omega) (by simp; omega) ?_; intro v7 w7 hown7 hg7 hat7; have Ho7 := Lib.hid hown7; have Hg7 := Lib.hid hg7; clear hown7 hg7 hat7)
      go_roundw
      case rel => exact ⟨_, k + 1, rfl, by omega, by go_num, Lib.hid (by rw [HS.out]; exact Ho7.out), (Hb.out.alloc hz _).grown Hg7.out (Hb.out.alloc hz _).size (own_ge0 Ho.out)⟩
      case measure => simp [intOf] <;> omega
    · obtain rfl : k = ls.length := by omega
      go_wp2_with fail
      go_ret
      exact ⟨_, rfl, by rw [lits_length]; have := Ho.out; rwa [List.take_length] at this, hb⟩
/-! ### numbers -/
theorem num_append : ∀ (a b : List Bool), Cir.num (a ++ b) = Cir.num a + 2 ^ a.length * Cir.num b
  | [], b => by simp [Cir.num]
  | x :: a, b => by
    rw [List.cons_append, Cir.num, Cir.num, num_append a b, List.length_cons, Nat.pow_succ]
    rw [Nat.mul_add, ← Nat.mul_assoc, Nat.mul_comm 2 (2 ^ a.length)]
    omega
theorem num_snoc (a : List Bool) (b : Bool) : Cir.num (a ++ [b]) = Cir.num a + (if b then 2 ^ a.length else 0) := by
  rw [num_append]
  cases b <;> simp [Cir.num]
theorem num_drop {l : List Bool} {k : Nat} {b : Bool} (h : l[k]? = some b) : Cir.num (l.drop k) = (if b then 1 else 0) + 2 * Cir.num (l.drop (k + 1)) := by
  obtain ⟨hk, rfl⟩ := List.getElem?_eq_some_iff.1 h
  rw [List.drop_eq_getElem_cons hk, Cir.num]
theorem num_or {a : List Bool} : Cir.num a ||| 2 ^ a.length = Cir.num a + 2 ^ a.length := by
  have h := Cir.num_lt a
  rw [Nat.or_comm]
  have := Nat.two_pow_add_eq_or_of_lt h 1
  rw [Nat.mul_one] at this
  omega
theorem number_any (v : Value) (xs : List Bool) (w : World) (h : BoolsAt w v xs) (hx : xs.length ≤ 16) :
    Calls Try.prog 129 #[v] w fun e w' => e = .returned (.int .i64 (Cir.num xs : Nat)) ∧ w = w' := by
  obtain ⟨A, c, hv, hc, hcm⟩ := Row.shape h
  subst hv
  have H := Lib.hid h
  clear h
  go_enter Try.func129, Try.ntmps129
  go_wp2_with fail
  go_loop [3, 8] (fun x i => ∃ (k : Nat), k ≤ xs.length ∧ i = .int .i64 k ∧ x = .int .i64 (Cir.num (xs.take k) : Nat)) (fun _ i => xs.length - (intOf i).toNat)
  case atStart => exact ⟨0, Nat.zero_le _, rfl, rfl⟩
  case round =>
    obtain ⟨k, hk, rfl, rfl⟩ := hrel
    by_cases hlt : k < xs.length
    · obtain ⟨b, o, u, rfl, hbl, hx0, hs0⟩ := bools_open H.out (Below.refl _ _) rfl hlt
      have htl : (xs.take k).length = k := by rw [List.length_take]; omega
      have HS : Hid (Cir.num (xs.take (k + 1)) = Cir.num (xs.take k) + (if u then 2 ^ k else 0)) := Lib.hid (by rw [take_snoc hx0.out, num_snoc, htl])
      have hlt2 : Cir.num (xs.take k) < 65536 := by
        have h1 := Cir.num_lt (xs.take k)
        rw [htl] at h1
        have h2 : 2 ^ k ≤ 2 ^ 16 := Nat.pow_le_pow_right (show 0 < 2 by decide) (by omega)
        omega
      have hor : Cir.num (xs.take k) ||| 2 ^ k = Cir.num (xs.take k) + 2 ^ k := by have := num_or (a := xs.take k); rwa [htl] at this
      have h2 : 2 ^ k ≤ 65536 := by
        have h2 : 2 ^ k ≤ 2 ^ 16 := Nat.pow_le_pow_right (show 0 < 2 by decide) (by omega)
        omega
      have hbor := i64_or_nat (Cir.num (xs.take k)) (2 ^ k) (by omega) (by omega)
      rw [hor] at hbor
      clear hor htl
      obtain ⟨N2, hN2⟩ : ∃ N2, Cir.num (xs.take (k + 1)) = N2 := ⟨_, rfl⟩
      rw [hN2] at HS
      have HN2 := Lib.hid hN2
      clear hN2
      generalize Cir.num (xs.take k) = N at *
      have e2 : (2 : Int) ^ k = ((2 ^ k : Nat) : Int) := two_pow k
      generalize 2 ^ k = M at *
      have hwM := IntWalk.i64_in (M : Int) (by omega)
      cases u
      · go_wp2_with fail
        go_round
        case rel => exact ⟨k + 1, by omega, by go_num, by rw [HN2.out, HS.out]; rfl⟩
        case measure => simp [intOf] <;> omega
      · go_wp2_with fail
        go_round
        case rel => exact ⟨k + 1, by omega, by go_num, by rw [HN2.out, HS.out]; rfl⟩
        case measure => simp [intOf] <;> omega
    · obtain rfl : k = xs.length := by omega
      go_wp2_with fail
      go_ret
      exact ⟨rfl, rfl⟩
end Go.Proofs.Ytlbfejdbfhgifaa

namespace Go.Proofs.Ytlbfejdbfhgifaa
open Go.RowKit
section
variable {S : RS} {Fin : List Ty → Prop} {o : Oper} {l : List Oper} {i : Nat} {τs : List Ty}
/-- A step that leaves the world alone and whose value the simplifier finds. -/
theorem rs_eq (hO : S.Ok) (hid : i ≠ S.d ∨ ∀ ov w, S.J ov w) {c : Value}
    (h : ∀ ρ w, Only S.E S.w0 w → Known S.ops (tys τs) S.a0 ρ w i o.op.operands.toList → (execOp ρ o).run S.P w = .ok (.value c) w)
    (rest : RSeq S Fin l (i + 1) (TEq c :: τs)) : RSeq S Fin (o :: l) i τs :=
  rs_look hO hid (TEq c) (stb_eq _ _) (fun ρ w ho hK => ⟨c, h ρ w ho hK, rfl⟩) rest
end
end Go.Proofs.Ytlbfejdbfhgifaa

namespace Go.Proofs.Ytlbfejdbfhgifaa
open Go.RowKit
set_option maxRecDepth 100000
/-! One clock cycle, by the program. -/
theorem toCz_next (d : Ci) : (Cir.toCz d).next.length = d.next.length := List.length_map _
theorem toCz_outs (d : Ci) : (Cir.toCz d).outs.length = d.outs.length := List.length_map _
theorem toCz_gates (d : Ci) : (Cir.toCz d).gates.length = d.gates.length := List.length_map _
set_option maxHeartbeats 4000000 in
theorem cycle_any (g : Nat) (d : Ci) (s x : Nat) (w : World) (h : PCirc w g (Cir.toCz d)) (hd : Cir.Ok d) (hs : s ≤ 1000) (hx : x ≤ 1000) :
    Calls Try.prog 120 #[.pointer (some ⟨g, 0, none⟩), .int .i64 s, .int .i64 x] w fun e w' => e = .returned (.tuple #[.int .i64 (Cir.nextOf d s x : Nat), .int .i64 (Cir.num (Cir.outsOf d s x) : Nat)]) ∧ Below w.heap.size w w' := by
  have l1 := hd.ins
  have l2 := hd.nexts
  have l3 := hd.outss
  have HN := Lib.hid hd.next
  have HO := Lib.hid hd.out
  have HP := Lib.hid h
  obtain ⟨vn, vg, vo, hg, c0, c1, c2, c3, r1, r2, r3⟩ := h
  obtain ⟨An, cn, rfl, hcn, hcmn⟩ := NatsAt.shape (xs := d.next) r1
  obtain ⟨Ao, co, rfl, hco, hcmo⟩ := NatsAt.shape (xs := d.outs) r3
  have R1 : Hid (NatsAt w (.slice An d.next.length cn) d.next) := Lib.hid r1
  have R3 : Hid (NatsAt w (.slice Ao d.outs.length co) d.outs) := Lib.hid r3
  have C0 : Hid (w.cell? ⟨g, 0, none⟩ = some (.int .i64 d.ins)) := Lib.hid c0
  have C1 := Lib.hid c1
  have C3 := Lib.hid c3
  have HL : Hid ((Cir.vals d (Cir.bits s d.next.length) (Cir.bits x d.ins)).length = Cir.nvars d) := Lib.hid (Cir.vals_length d (Cir.bits_length _ _) (Cir.bits_length _ _))
  have hnv : Cir.nvars d ≤ 22 := by have := hd.gatess; unfold Cir.nvars Cir.nfirst; omega
  have Hd := Lib.hid hd
  clear r1 r2 r3 c0 c1 c2 c3 hd
  go_enter Try.func120, Try.ntmps120
  go_wp2_with fail
  refine wp_region_rs (quietRS Try.prog _ w _) quietRS_ok (by kernel_rfl) (by kernel_rfl) (by kernel_rfl) (Nat.le_of_ble_eq_true rfl) trivial trivial ?_
  refine rs_old quietRS_ok quiet_any _ (.inl rfl) _ rfl rfl ?_
  refine rs_old quietRS_ok quiet_any _ (.inl rfl) _ rfl rfl ?_
  refine rs_old quietRS_ok quiet_any _ (.inl rfl) _ rfl rfl ?_
  apply rs_eq quietRS_ok quiet_any
  · intro ρ w' ho hK
    have ho : Only _ w w' := ho
    obtain ⟨h0, -⟩ := hK
    have h0' : ρ (.tmp 11) = _ := h0
    go_simp
    try exact rfl
  apply rs_eq quietRS_ok quiet_any
  · intro ρ w' ho hK
    have ho : Only _ w w' := ho
    obtain ⟨h0, -⟩ := hK
    have h0' : ρ (.tmp 12) = _ := h0
    go_simp
    try exact rfl
  apply rs_eq quietRS_ok quiet_any
  · intro ρ w' ho hK
    have ho : Only _ w w' := ho
    obtain ⟨h0, -⟩ := hK
    have h0' : ρ (.tmp 13) = _ := h0
    have hb := only_below ho
    have q0 := (hb.cell (p := ⟨g, 0, none⟩) hg).trans C0.out
    have q1 := (hb.cell (p := ⟨g, 1, none⟩) hg).trans C1.out
    go_simp
    try exact rfl
  apply rs_eq quietRS_ok quiet_any
  · intro ρ w' ho hK
    have ho : Only _ w w' := ho
    obtain ⟨h0, -⟩ := hK
    have h0' : ρ (.tmp 14) = _ := h0
    go_simp
    try exact rfl
  refine rs_call quietRS_ok quiet_any (TBools (Cir.bits s d.next.length)) (stb_bools _) 103 _ _ rfl (fun ρ w' ho hK => by
    have ho : Only _ w w' := ho
    obtain ⟨h0, h1, h2, -⟩ := hK
    have h0' : ρ (.func 103) = .func (.func 103) #[] #[] := h0
    have h1' : ρ (.tmp 10) = _ := h1
    have h2' : ρ (.tmp 15) = _ := h2
    refine ⟨#[ρ (.tmp 10), ρ (.tmp 15)], ?_, ?_⟩
    · go_simp
    · rw [h1', h2']
      refine (bitsOf_any s d.next.length w' (by omega) (by omega)).mono ?_
      rintro e w2 ⟨v2, rfl, hO, hb⟩
      exact ⟨v2, rfl, Row.of_own hO, hb⟩) ?_
  refine rs_old quietRS_ok quiet_any _ (.inl rfl) _ rfl rfl ?_
  refine rs_old quietRS_ok quiet_any _ (.inl rfl) _ rfl rfl ?_
  apply rs_eq quietRS_ok quiet_any
  · intro ρ w' ho hK
    have ho : Only _ w w' := ho
    obtain ⟨h0, -⟩ := hK
    have h0' : ρ (.tmp 18) = _ := h0
    go_simp
    try exact rfl
  apply rs_eq quietRS_ok quiet_any
  · intro ρ w' ho hK
    have ho : Only _ w w' := ho
    obtain ⟨h0, -⟩ := hK
    have h0' : ρ (.tmp 19) = _ := h0
    go_simp
    try exact rfl
  apply rs_eq quietRS_ok quiet_any
  · intro ρ w' ho hK
    have ho : Only _ w w' := ho
    obtain ⟨h0, -⟩ := hK
    have h0' : ρ (.tmp 20) = _ := h0
    have hb := only_below ho
    have q0 := (hb.cell (p := ⟨g, 0, none⟩) hg).trans C0.out
    have q1 := (hb.cell (p := ⟨g, 1, none⟩) hg).trans C1.out
    go_simp
    try exact rfl
  refine rs_call quietRS_ok quiet_any (TBools (Cir.bits x d.ins)) (stb_bools _) 103 _ _ rfl (fun ρ w' ho hK => by
    have ho : Only _ w w' := ho
    obtain ⟨h0, h1, h2, -⟩ := hK
    have h0' : ρ (.func 103) = .func (.func 103) #[] #[] := h0
    have h1' : ρ (.tmp 17) = _ := h1
    have h2' : ρ (.tmp 21) = _ := h2
    refine ⟨#[ρ (.tmp 17), ρ (.tmp 21)], ?_, ?_⟩
    · go_simp
    · rw [h1', h2']
      refine (bitsOf_any x d.ins w' (by omega) (by omega)).mono ?_
      rintro e w2 ⟨v2, rfl, hO, hb⟩
      exact ⟨v2, rfl, Row.of_own hO, hb⟩) ?_
  refine rs_call quietRS_ok quiet_any (TBools (Cir.vals d (Cir.bits s d.next.length) (Cir.bits x d.ins))) (stb_bools _) 115 _ _ rfl (fun ρ w' ho hK => by
    have ho : Only _ w w' := ho
    obtain ⟨h0, h1, h2, h3, h4, h5, -⟩ := hK
    have h0' : ρ (.func 115) = .func (.func 115) #[] #[] := h0
    have h1' : ρ (.tmp 9) = _ := h1
    have h2' : (TBools (Cir.bits s d.next.length)) w' (ρ (.tmp 16)) := h2
    have h3' : (TBools (Cir.bits x d.ins)) w' (ρ (.tmp 22)) := h3
    have h4' : ρ (.const (Value.int IntKind.i64 (-1))) = (Value.int IntKind.i64 (-1)) := h4
    have h5' : ρ (.const (Value.bool false)) = (Value.bool false) := h5
    refine ⟨#[ρ (.tmp 9), ρ (.tmp 16), ρ (.tmp 22), ρ (.const (Value.int IntKind.i64 (-1))), ρ (.const (Value.bool false))], ?_, ?_⟩
    · go_simp
    · rw [h1', h4', h5']
      refine (evaluate_any g d _ _ _ _ w' (HP.out.below (only_below ho)) Hd.out h2' h3' (Cir.bits_length _ _) (Cir.bits_length _ _)).mono ?_
      rintro e w2 ⟨v2, rfl, hO, hb⟩
      exact ⟨v2, rfl, Row.of_own hO, hb⟩) ?_
  refine rs_same quietRS_ok quiet_any 23 14 (.inr rfl) rfl _ rfl ?_
  intro f w9 k9 hk9 hI9 ht9 hcp9
  have E0 : f 0 = _ := ht9 0 (Nat.le_of_ble_eq_true rfl)
  conv at E0 => rhs; whnf
  have E1 : f 1 = _ := ht9 1 (Nat.le_of_ble_eq_true rfl)
  conv at E1 => rhs; whnf
  have E2 : f 2 = _ := ht9 2 (Nat.le_of_ble_eq_true rfl)
  conv at E2 => rhs; whnf
  have E3 : f 3 = _ := ht9 3 (Nat.le_of_ble_eq_true rfl)
  have E4 : f 4 = _ := ht9 4 (Nat.le_of_ble_eq_true rfl)
  have E5 : f 5 = _ := ht9 5 (Nat.le_of_ble_eq_true rfl)
  have E6 : f 6 = _ := ht9 6 (Nat.le_of_ble_eq_true rfl)
  have E7 : (TBools (Cir.bits s d.next.length)) w9 (f 7) := ht9 7 (Nat.le_of_ble_eq_true rfl)
  have E8 : f 8 = _ := ht9 8 (Nat.le_of_ble_eq_true rfl)
  conv at E8 => rhs; whnf
  have E9 : f 9 = _ := ht9 9 (Nat.le_of_ble_eq_true rfl)
  conv at E9 => rhs; whnf
  have E10 : f 10 = _ := ht9 10 (Nat.le_of_ble_eq_true rfl)
  have E11 : f 11 = _ := ht9 11 (Nat.le_of_ble_eq_true rfl)
  have E12 : f 12 = _ := ht9 12 (Nat.le_of_ble_eq_true rfl)
  have E13 : (TBools (Cir.bits x d.ins)) w9 (f 13) := ht9 13 (Nat.le_of_ble_eq_true rfl)
  have E14 : (TBools (Cir.vals d (Cir.bits s d.next.length) (Cir.bits x d.ins))) w9 (f 14) := ht9 14 (Nat.le_of_ble_eq_true rfl)
  have E15 : (TBools (Cir.vals d (Cir.bits s d.next.length) (Cir.bits x d.ins))) w9 (f 15) := ht9 15 (Nat.le_of_ble_eq_true rfl)
  have Ho9 : Only _ w w9 := hI9.2.1
  have C15 : f 15 = f 14 := (hcp9 15 _ 23 14 rfl rfl rfl rfl).2
  simp only [putAll, E0, E1, E2, E3, E4, E5, E6, E8, E9, E10, E11, E12, C15, Nat.zero_add, Nat.reduceAdd, Act.put, List.setIfInBounds_toArray, List.set_cons_succ, List.set_cons_zero]
  clear E0 E1 E2 E3 E4 E5 E6 E8 E9 E10 E11 E12
  clear hI9 ht9 hcp9 hk9
  generalize f 7 = r7 at *
  generalize f 13 = r13 at *
  generalize f 14 = r14 at *
  have hb9 := only_below Ho9
  have HV9 := Lib.hid E14
  have C1 := Lib.hid ((hb9.cell (p := ⟨g, 1, none⟩) hg).trans C1.out)
  have C3 := Lib.hid ((hb9.cell (p := ⟨g, 3, none⟩) hg).trans C3.out)
  have R1 := Lib.hid (R1.out.below hb9)
  have R3 := Lib.hid (R3.out.below hb9)
  have B9 := Lib.hid hb9
  have hg9 : g < w9.heap.size := Nat.lt_of_lt_of_le hg hb9.size
  clear hb9 E7 E13 E14 Ho9 HP Hd C0
  go_wp2_with fail
  obtain ⟨w1, hw1⟩ : ∃ w1, w1 = w9 := ⟨_, rfl⟩
  subst hw1
  obtain ⟨u, hu⟩ : ∃ u, u = r14 := ⟨_, rfl⟩
  subst hu
  have HN2 : Hid (Cir.nextOf d s x = Cir.num (Cir.lits (Cir.vals d (Cir.bits s d.next.length) (Cir.bits x d.ins)) d.next)) := Lib.hid rfl
  have HO2 : Hid (Cir.num (Cir.outsOf d s x) = Cir.num (Cir.lits (Cir.vals d (Cir.bits s d.next.length) (Cir.bits x d.ins)) d.outs)) := Lib.hid rfl
  generalize Cir.vals d (Cir.bits s d.next.length) (Cir.bits x d.ins) = V at *
  refine wp_region_rs (quietRS Try.prog _ w1 _) quietRS_ok (by kernel_rfl) (by kernel_rfl) (by kernel_rfl) (Nat.le_of_ble_eq_true rfl) trivial trivial ?_
  refine rs_old quietRS_ok quiet_any _ (.inl rfl) _ rfl rfl ?_
  refine rs_old quietRS_ok quiet_any _ (.inl rfl) _ rfl rfl ?_
  apply rs_eq quietRS_ok quiet_any
  · intro ρ w' ho hK
    have ho : Only _ w1 w' := ho
    obtain ⟨h0, -⟩ := hK
    have h0' : ρ (.tmp 25) = _ := h0
    go_simp
    try exact rfl
  apply rs_eq quietRS_ok quiet_any
  · intro ρ w' ho hK
    have ho : Only _ w1 w' := ho
    obtain ⟨h0, -⟩ := hK
    have h0' : ρ (.tmp 26) = _ := h0
    go_simp
    try exact rfl
  apply rs_eq quietRS_ok quiet_any
  · intro ρ w' ho hK
    have ho : Only _ w1 w' := ho
    obtain ⟨h0, -⟩ := hK
    have h0' : ρ (.tmp 27) = _ := h0
    have hb := only_below ho
    have q0 := (hb.cell (p := ⟨g, 1, none⟩) hg9).trans C1.out
    have q1 := (hb.cell (p := ⟨g, 3, none⟩) hg9).trans C3.out
    go_simp
    try exact rfl
  refine rs_call quietRS_ok quiet_any (TBools (Cir.lits V d.next)) (stb_bools _) 127 _ _ rfl (fun ρ w' ho hK => by
    have ho : Only _ w1 w' := ho
    obtain ⟨h0, h1, h2, -⟩ := hK
    have h0' : ρ (.func 127) = .func (.func 127) #[] #[] := h0
    have h1' : ρ (.tmp 24) = _ := h1
    have h2' : ρ (.tmp 28) = _ := h2
    refine ⟨#[ρ (.tmp 24), ρ (.tmp 28)], ?_, ?_⟩
    · go_simp
    · rw [h1', h2']
      refine (litValues_any _ _ V d.next w' (Row.below HV9.out (only_below ho)) (R1.out.below (only_below ho)) (by rw [HL.out]; exact HN.out) (by omega) (by rw [HL.out]; omega)).mono ?_
      rintro e w2 ⟨v2, rfl, hO, hb⟩
      exact ⟨v2, rfl, Row.of_own hO, hb⟩) ?_
  refine rs_call quietRS_ok quiet_any (TEq (.int .i64 (Cir.num (Cir.lits V d.next) : Nat))) (stb_eq _ _) 129 _ _ rfl (fun ρ w' ho hK => by
    have ho : Only _ w1 w' := ho
    obtain ⟨h0, h1, -⟩ := hK
    have h0' : ρ (.func 129) = .func (.func 129) #[] #[] := h0
    have h1' : (TBools (Cir.lits V d.next)) w' (ρ (.tmp 29)) := h1
    refine ⟨#[ρ (.tmp 29)], ?_, ?_⟩
    · go_simp
    · skip
      refine (number_any _ _ w' h1' (by rw [lits_length]; omega)).mono ?_
      rintro e w2 ⟨rfl, rfl⟩
      exact ⟨_, rfl, rfl, Below.refl _ _⟩) ?_
  refine rs_old quietRS_ok quiet_any _ (.inl rfl) _ rfl rfl ?_
  refine rs_old quietRS_ok quiet_any _ (.inl rfl) _ rfl rfl ?_
  apply rs_eq quietRS_ok quiet_any
  · intro ρ w' ho hK
    have ho : Only _ w1 w' := ho
    obtain ⟨h0, -⟩ := hK
    have h0' : ρ (.tmp 32) = _ := h0
    go_simp
    try exact rfl
  apply rs_eq quietRS_ok quiet_any
  · intro ρ w' ho hK
    have ho : Only _ w1 w' := ho
    obtain ⟨h0, -⟩ := hK
    have h0' : ρ (.tmp 33) = _ := h0
    go_simp
    try exact rfl
  apply rs_eq quietRS_ok quiet_any
  · intro ρ w' ho hK
    have ho : Only _ w1 w' := ho
    obtain ⟨h0, -⟩ := hK
    have h0' : ρ (.tmp 34) = _ := h0
    have hb := only_below ho
    have q0 := (hb.cell (p := ⟨g, 1, none⟩) hg9).trans C1.out
    have q1 := (hb.cell (p := ⟨g, 3, none⟩) hg9).trans C3.out
    go_simp
    try exact rfl
  refine rs_call quietRS_ok quiet_any (TBools (Cir.lits V d.outs)) (stb_bools _) 127 _ _ rfl (fun ρ w' ho hK => by
    have ho : Only _ w1 w' := ho
    obtain ⟨h0, h1, h2, -⟩ := hK
    have h0' : ρ (.func 127) = .func (.func 127) #[] #[] := h0
    have h1' : ρ (.tmp 31) = _ := h1
    have h2' : ρ (.tmp 35) = _ := h2
    refine ⟨#[ρ (.tmp 31), ρ (.tmp 35)], ?_, ?_⟩
    · go_simp
    · rw [h1', h2']
      refine (litValues_any _ _ V d.outs w' (Row.below HV9.out (only_below ho)) (R3.out.below (only_below ho)) (by rw [HL.out]; exact HO.out) (by omega) (by rw [HL.out]; omega)).mono ?_
      rintro e w2 ⟨v2, rfl, hO, hb⟩
      exact ⟨v2, rfl, Row.of_own hO, hb⟩) ?_
  refine rs_call quietRS_ok quiet_any (TEq (.int .i64 (Cir.num (Cir.lits V d.outs) : Nat))) (stb_eq _ _) 129 _ _ rfl (fun ρ w' ho hK => by
    have ho : Only _ w1 w' := ho
    obtain ⟨h0, h1, -⟩ := hK
    have h0' : ρ (.func 129) = .func (.func 129) #[] #[] := h0
    have h1' : (TBools (Cir.lits V d.outs)) w' (ρ (.tmp 36)) := h1
    refine ⟨#[ρ (.tmp 36)], ?_, ?_⟩
    · go_simp
    · skip
      refine (number_any _ _ w' h1' (by rw [lits_length]; omega)).mono ?_
      rintro e w2 ⟨rfl, rfl⟩
      exact ⟨_, rfl, rfl, Below.refl _ _⟩) ?_
  refine rs_same quietRS_ok quiet_any 30 6 (.inr rfl) rfl _ rfl ?_
  refine rs_same quietRS_ok quiet_any 37 13 (.inr rfl) rfl _ rfl ?_
  intro f w9 k9 hk9 hI9 ht9 hcp9
  have E0 : f 0 = _ := ht9 0 (Nat.le_of_ble_eq_true rfl)
  conv at E0 => rhs; whnf
  have E1 : f 1 = _ := ht9 1 (Nat.le_of_ble_eq_true rfl)
  conv at E1 => rhs; whnf
  have E2 : f 2 = _ := ht9 2 (Nat.le_of_ble_eq_true rfl)
  have E3 : f 3 = _ := ht9 3 (Nat.le_of_ble_eq_true rfl)
  have E4 : f 4 = _ := ht9 4 (Nat.le_of_ble_eq_true rfl)
  have E5 : (TBools (Cir.lits V d.next)) w9 (f 5) := ht9 5 (Nat.le_of_ble_eq_true rfl)
  have E6 : f 6 = _ := ht9 6 (Nat.le_of_ble_eq_true rfl)
  have E7 : f 7 = _ := ht9 7 (Nat.le_of_ble_eq_true rfl)
  conv at E7 => rhs; whnf
  have E8 : f 8 = _ := ht9 8 (Nat.le_of_ble_eq_true rfl)
  conv at E8 => rhs; whnf
  have E9 : f 9 = _ := ht9 9 (Nat.le_of_ble_eq_true rfl)
  have E10 : f 10 = _ := ht9 10 (Nat.le_of_ble_eq_true rfl)
  have E11 : f 11 = _ := ht9 11 (Nat.le_of_ble_eq_true rfl)
  have E12 : (TBools (Cir.lits V d.outs)) w9 (f 12) := ht9 12 (Nat.le_of_ble_eq_true rfl)
  have E13 : f 13 = _ := ht9 13 (Nat.le_of_ble_eq_true rfl)
  have E14 : f 14 = _ := ht9 14 (Nat.le_of_ble_eq_true rfl)
  have E15 : f 15 = _ := ht9 15 (Nat.le_of_ble_eq_true rfl)
  have Ho9 : Only _ w1 w9 := hI9.2.1
  simp only [putAll, E0, E1, E2, E3, E4, E6, E7, E8, E9, E10, E11, E13, E14, E15, Nat.zero_add, Nat.reduceAdd, Act.put, List.setIfInBounds_toArray, List.set_cons_succ, List.set_cons_zero]
  clear E0 E1 E2 E3 E4 E6 E7 E8 E9 E10 E11 E13 E14 E15
  clear hI9 ht9 hcp9 hk9
  generalize f 5 = r5 at *
  generalize f 12 = r12 at *
  have B := Lib.hid (B9.out.trans ((only_below Ho9).mono B9.out.size))
  clear Ho9 E5 E12 HV9 B9
  go_wp2_with fail
  exact bodyPost_ret (v := .tuple #[.int .i64 (Cir.num (Cir.lits V d.next) : Nat), .int .i64 (Cir.num (Cir.lits V d.outs) : Nat)]) (by simp [results, Try.results120, go_sem]) rfl ⟨by rw [HN2.out, HO2.out], B.out⟩
end Go.Proofs.Ytlbfejdbfhgifaa

namespace Go.Proofs.Ytlbfejdbfhgifaa
open Go.RowKit
/-! Drawn regions with one step that writes. -/
def JStep (R0 R1 : World → Prop) : Option Value → World → Prop
  | none, w => R0 w
  | some _, w => R1 w
@[reducible] def stepRS (Pg : Program) (ops : Array Oper) (w : World) (a : Act) (E : Nat → Prop) (R0 R1 : World → Prop) (d : Nat) : RS :=
  { P := Pg, ops := ops, E := E, F := fun _ => False, rd := none, w0 := w, J := JStep R0 R1, d := d, a0 := a }
theorem stepRS_ok {Pg : Program} {ops : Array Oper} {w : World} {a : Act} {E : Nat → Prop} {R0 R1 : World → Prop} {d : Nat} (hE : ∀ g, E g → g < w.heap.size) (h0 : ∀ w1 w2, R0 w1 → Below w1.heap.size w1 w2 → R0 w2) (h1 : ∀ w1 w2, R1 w1 → Below w1.heap.size w1 w2 → R1 w2) : (stepRS Pg ops w a E R0 R1 d).Ok :=
  ⟨fun _ h => h.elim, fun ov w1 w2 hj ho => by
    cases ov with
    | none => exact h0 _ _ hj (only_below ho)
    | some v => exact h1 _ _ hj (only_below ho),
    fun _ _ e => (by cases e), hE⟩
/-- A row of the call's own. -/
def TOwn (B : Nat) (e : TypeId) (size n : Nat) (cs : List Value) : Ty := fun w v => w.ownsRow B e size v n cs
theorem stb_own {E : Nat → Prop} {B : Nat} (hE : ∀ g, E g → g < B) (e : TypeId) (size n : Nat) (cs : List Value) : Stb E (TOwn B e size n cs) := fun v w w' h ho =>
  own_only h ho fun g hg he => by have h1 := (h.lt g hg).1; have h2 := hE g he; omega
/-- Two of them, in a struct. -/
def TOwn2 (B : Nat) (e : TypeId) (n : Nat) (cs : List Value) (e' : TypeId) (n' : Nat) (cs' : List Value) : Ty := fun w v => ∃ a b, v = .agg #[a, b] ∧ w.ownsRow B e 1 a n cs ∧ w.ownsRow B e' 1 b n' cs'
theorem stb_own2 {E : Nat → Prop} {B : Nat} (hE : ∀ g, E g → g < B) (e : TypeId) (n : Nat) (cs : List Value) (e' : TypeId) (n' : Nat) (cs' : List Value) : Stb E (TOwn2 B e n cs e' n' cs') := by
  rintro v w w' ⟨a, b, rfl, h1, h2⟩ ho
  exact ⟨a, b, rfl, stb_own hE _ _ _ _ _ _ _ h1 ho, stb_own hE _ _ _ _ _ _ _ h2 ho⟩
section
variable {S : RS} {Fin : List Ty → Prop} {o : Oper} {l : List Oper} {i : Nat} {τs : List Ty}
/-- The step that writes. -/
theorem rs_do (hd : i = S.d) {R0 R1 : World → Prop} (hJ : S.J = JStep R0 R1) (hrd : S.rd = none)
    (h : ∀ ρ w, Only S.E S.w0 w → R0 w → Known S.ops (tys τs) S.a0 ρ w i o.op.operands.toList → ∃ w', (execOp ρ o).run S.P w = .ok .skip w' ∧ R1 w' ∧ Only S.E w w')
    (rest : RSeq S Fin l (i + 1) (TAny :: τs)) : RSeq S Fin (o :: l) i τs := by
  intro _
  refine ⟨TAny, stb_any _, fun k ov ρ w hk hI hov hK => ?_, rest⟩
  obtain rfl := hov (by rw [hd]; exact ancB_self _ _ _)
  have h0 : R0 w := by have := hI.2.2; rw [hJ] at this; exact this
  obtain ⟨w', hrun, h1, hon⟩ := h ρ w hI.2.1 h0 hK
  unfold Good
  rw [hrun]
  refine ⟨trivial, ⟨?_, hI.2.1.trans hon, ?_⟩, hon⟩
  · rw [hrd]; trivial
  · rw [if_pos hd, hJ]
    exact h1
end
end Go.Proofs.Ytlbfejdbfhgifaa

namespace Go.Proofs.Ytlbfejdbfhgifaa
open Go.RowKit
set_option maxRecDepth 100000
/-! One clock cycle, by the reference. -/
/-- What l2Step makes. -/
def OwnStep (so st : List Bool) (w : World) (e : Ending) (w' : World) : Prop := ∃ a b, e = .returned (.agg #[a, b]) ∧ w'.ownsRow w.heap.size 4 1 a so.length (bools so) ∧ w'.ownsRow w.heap.size 4 1 b st.length (bools st) ∧ Below w.heap.size w w'
/-- The result's cells. -/
def R1Step (g0 : Nat) (so st : List Bool) (w : World) : Prop := ∃ a b, g0 + 1 < w.heap.size ∧ w.cell? ⟨g0 + 1, 0, none⟩ = some a ∧ w.cell? ⟨g0 + 1, 1, none⟩ = some b ∧ w.ownsRow (g0 + 2) 4 1 a so.length (bools so) ∧ w.ownsRow (g0 + 2) 4 1 b st.length (bools st)
theorem R1Step.below {g0 : Nat} {so st : List Bool} {w w' : World} (h : R1Step g0 so st w) (hb : Below w.heap.size w w') : R1Step g0 so st w' := by
  obtain ⟨a, b, hg, c0, c1, o0, o1⟩ := h
  exact ⟨a, b, Nat.lt_of_lt_of_le hg hb.size, (hb.cell (p := ⟨g0 + 1, 0, none⟩) hg).trans c0, (hb.cell (p := ⟨g0 + 1, 1, none⟩) hg).trans c1, own_below o0 hb, own_below o1 hb⟩
set_option maxHeartbeats 4000000 in
theorem l2Step_any (v vs vi : Value) (d : Ci) (st inp : List Bool) (w : World) (h : CircAt w v (Cir.toCz d)) (hd : Cir.Ok d) (hs : BoolsAt w vs st) (hi : BoolsAt w vi inp) (h1 : inp.length = d.ins) (h2 : st.length = d.next.length) :
    Calls Try.prog 40 #[v, vs, vi] w (OwnStep (Cir.lits (Cir.vals d st inp) d.outs) (Cir.lits (Cir.vals d st inp) d.next) w) := by
  have l2 := hd.nexts
  have l3 := hd.outss
  have HN := Lib.hid hd.next
  have HO := Lib.hid hd.out
  have HC := Lib.hid h
  obtain ⟨vn, vg, vo, rfl, r1, r2, r3⟩ := h
  obtain ⟨An, cn, rfl, hcn, hcmn⟩ := NatsAt.shape (xs := d.next) r1
  obtain ⟨Ao, co, rfl, hco, hcmo⟩ := NatsAt.shape (xs := d.outs) r3
  have hins : (Cir.toCz d).ins = (d.ins : Int) := rfl
  rw [hins] at HC ⊢
  obtain ⟨ag, hag⟩ : ∃ ag, ag = Obj.cells #[.int .i64 d.ins, .slice An d.next.length cn, vg, .slice Ao d.outs.length co] 31 := ⟨_, rfl⟩
  have hbz := bel_new w ag
  obtain ⟨z, p0, p1, p2, p3⟩ := PCells.boxed w d.ins (.slice An d.next.length cn) vg (.slice Ao d.outs.length co) 31
  rw [← hag] at z p0 p1 p2 p3
  have HL : Hid ((Cir.vals d st inp).length = Cir.nvars d) := Lib.hid (Cir.vals_length d h1 h2)
  have hnv : Cir.nvars d ≤ 22 := by have := hd.gatess; have := hd.ins; unfold Cir.nvars Cir.nfirst; omega
  have hb1 := bel_new (w.alloc ag) (.cells #[.slice none 0 0, .slice none 0 0] 64)
  have B0 := Lib.hid (hbz.trans (hb1.mono hbz.size))
  have P0 := Lib.hid (PCells.below ⟨z, p0, p1, p2, p3⟩ hb1)
  have R1 : Hid (NatsAt w (.slice An d.next.length cn) d.next) := Lib.hid r1
  have R3 : Hid (NatsAt w (.slice Ao d.outs.length co) d.outs) := Lib.hid r3
  have HW : Hid (((w.alloc ag).alloc (.cells #[.slice none 0 0, .slice none 0 0] 64)).heap[w.heap.size + 1]? = some (.cells #[.slice none 0 0, .slice none 0 0] 64 (0, 0))) := Lib.hid (by
    have := heap_alloc_new (w.alloc ag) (.cells #[.slice none 0 0, .slice none 0 0] 64)
    rwa [World.size_alloc] at this)
  have HV := Lib.hid (l2Values_any _ _ _ d st inp _ (HC.out.below B0.out) hd (Row.below hs B0.out) (Row.below hi B0.out) h1 h2)
  have hsz : ((w.alloc ag).alloc (.cells #[.slice none 0 0, .slice none 0 0] 64)).heap.size = w.heap.size + 2 := by simp
  clear r1 r2 r3 z p0 p1 p2 p3 hbz hb1 hs hi h1 h2 HC hd hins
  go_enter Try.func40, Try.ntmps40
  obtain ⟨z, p0, p1, p2, p3⟩ := P0.out
  go_wp2_with fail
  rw [← hag]
  clear hag
  generalize (w.alloc ag).alloc (.cells #[.slice none 0 0, .slice none 0 0] 64) = W at *
  generalize Cir.vals d st inp = V at *
  refine HV.out.mono ?_
  rintro e w1 ⟨v1, rfl, hO1, hb1⟩
  have B1 := Lib.hid (B0.out.trans (hb1.mono B0.out.size))
  have HW1 := Lib.hid ((hb1.block _ (by omega)).trans HW.out)
  have HV1 := Lib.hid (own_mono hO1 (show w.heap.size + 2 ≤ W.heap.size by omega))
  have P1 := Lib.hid (P0.out.below hb1)
  have z1 := hb1.size
  clear hb1 hO1 P0 HW HV p0 p1 p2 p3 z B0
  obtain ⟨z, p0, p1, p2, p3⟩ := P1.out
  go_wp2_with fail
  obtain ⟨G, hG⟩ : ∃ G, G = w.heap.size + 1 := ⟨_, rfl⟩
  have hO := fun ops a => stepRS_ok (Pg := Try.prog) (ops := ops) (w := w1) (a := a) (E := fun g => g = w.heap.size + 1) (R0 := fun w' => w'.heap[w.heap.size + 1]? = some (.cells #[.slice none 0 0, .slice none 0 0] 64 (0, 0)))
    (R1 := R1Step w.heap.size (Cir.lits V d.outs) (Cir.lits V d.next)) (d := 9) (fun g hg => by have h : g = w.heap.size + 1 := hg; omega) (fun w1 w2 h hb => (hb.block _ (heap_lt h)).trans h) (fun _ _ => R1Step.below)
  have HBw : ∀ w', Only (fun g => g = w.heap.size + 1) w1 w' → Below w.heap.size w w' := fun w' ho => Only.below B1.out ho B1.out.size (fun g hg => by have h : g = w.heap.size + 1 := hg; omega)
  have HVw : ∀ w', Only (fun g => g = w.heap.size + 1) w1 w' → BoolsAt w' v1 V := fun w' ho => ownBools_at (own_only HV1.out ho (fun g hg he => by have h1 := (HV1.out.lt g hg).1; have h : g = w.heap.size + 1 := he; omega))
  refine wp_region_rs (stepRS Try.prog _ w1 _ (fun g => g = w.heap.size + 1) (fun w' => w'.heap[w.heap.size + 1]? = some (.cells #[.slice none 0 0, .slice none 0 0] 64 (0, 0))) (R1Step w.heap.size (Cir.lits V d.outs) (Cir.lits V d.next)) 9) (hO _ _) (by kernel_rfl) (by kernel_rfl) (by kernel_rfl) (Nat.le_of_ble_eq_true rfl) trivial HW1.out ?_
  refine rs_old (hO _ _) (.inl (Nat.ne_of_beq_eq_false rfl)) _ (.inl rfl) _ rfl rfl ?_
  apply rs_eq (hO _ _) (.inl (Nat.ne_of_beq_eq_false rfl))
  · intro ρ w' ho hK
    have ho : Only _ w1 w' := ho
    obtain ⟨h0, -⟩ := hK
    have h0' : ρ (.tmp 3) = _ := h0
    go_simp
    try exact rfl
  apply rs_eq (hO _ _) (.inl (Nat.ne_of_beq_eq_false rfl))
  · intro ρ w' ho hK
    have ho : Only _ w1 w' := ho
    obtain ⟨h0, -⟩ := hK
    have h0' : ρ (.tmp 13) = _ := h0
    have q1 := cell_on ho (by omega) z p1
    have q3 := cell_on ho (by omega) z p3
    go_simp
    try exact rfl
  refine rs_call (hO _ _) (.inl (Nat.ne_of_beq_eq_false rfl)) (TOwn (w.heap.size + 2) 4 1 (Cir.lits V d.outs).length (bools (Cir.lits V d.outs))) (stb_own (fun g hg => by have h : g = w.heap.size + 1 := hg; omega) _ _ _ _) 98 _ _ rfl (fun ρ w' ho hK => by
    have ho : Only _ w1 w' := ho
    obtain ⟨h0, h1, h2, -⟩ := hK
    have h0' : ρ (.func 98) = .func (.func 98) #[] #[] := h0
    have h1' : ρ (.tmp 12) = _ := h1
    have h2' : ρ (.tmp 14) = _ := h2
    refine ⟨#[ρ (.tmp 12), ρ (.tmp 14)], ?_, ?_⟩
    · go_simp
    · rw [h1', h2']
      refine (l2Lits_any _ _ V d.outs w' (HVw _ ho) (R3.out.below (HBw _ ho)) (by rw [HL.out]; exact HO.out) (by omega) (by rw [HL.out]; omega)).mono ?_
      rintro e w2 ⟨v2, rfl, hO2, hb2⟩
      exact ⟨v2, rfl, own_mono hO2 (by have := ho.size; omega), hb2⟩) ?_
  refine rs_old (hO _ _) (.inl (Nat.ne_of_beq_eq_false rfl)) _ (.inl rfl) _ rfl rfl ?_
  apply rs_eq (hO _ _) (.inl (Nat.ne_of_beq_eq_false rfl))
  · intro ρ w' ho hK
    have ho : Only _ w1 w' := ho
    obtain ⟨h0, -⟩ := hK
    have h0' : ρ (.tmp 3) = _ := h0
    go_simp
    try exact rfl
  apply rs_eq (hO _ _) (.inl (Nat.ne_of_beq_eq_false rfl))
  · intro ρ w' ho hK
    have ho : Only _ w1 w' := ho
    obtain ⟨h0, -⟩ := hK
    have h0' : ρ (.tmp 17) = _ := h0
    have q1 := cell_on ho (by omega) z p1
    have q3 := cell_on ho (by omega) z p3
    go_simp
    try exact rfl
  refine rs_call (hO _ _) (.inl (Nat.ne_of_beq_eq_false rfl)) (TOwn (w.heap.size + 2) 4 1 (Cir.lits V d.next).length (bools (Cir.lits V d.next))) (stb_own (fun g hg => by have h : g = w.heap.size + 1 := hg; omega) _ _ _ _) 98 _ _ rfl (fun ρ w' ho hK => by
    have ho : Only _ w1 w' := ho
    obtain ⟨h0, h1, h2, -⟩ := hK
    have h0' : ρ (.func 98) = .func (.func 98) #[] #[] := h0
    have h1' : ρ (.tmp 16) = _ := h1
    have h2' : ρ (.tmp 18) = _ := h2
    refine ⟨#[ρ (.tmp 16), ρ (.tmp 18)], ?_, ?_⟩
    · go_simp
    · rw [h1', h2']
      refine (l2Lits_any _ _ V d.next w' (HVw _ ho) (R1.out.below (HBw _ ho)) (by rw [HL.out]; exact HN.out) (by omega) (by rw [HL.out]; omega)).mono ?_
      rintro e w2 ⟨v2, rfl, hO2, hb2⟩
      exact ⟨v2, rfl, own_mono hO2 (by have := ho.size; omega), hb2⟩) ?_
  refine rs_look (hO _ _) (.inl (Nat.ne_of_beq_eq_false rfl)) (TOwn2 (w.heap.size + 2) 4 (Cir.lits V d.outs).length (bools (Cir.lits V d.outs)) 4 (Cir.lits V d.next).length (bools (Cir.lits V d.next))) (stb_own2 (fun g hg => by have h : g = w.heap.size + 1 := hg; omega) _ _ _ _ _ _) (fun ρ w' ho hK => by
    have ho : Only _ w1 w' := ho
    obtain ⟨h1, h2, -⟩ := hK
    have h1' : w'.ownsRow (w.heap.size + 2) 4 1 (ρ (.tmp 15)) (Cir.lits V d.outs).length (bools (Cir.lits V d.outs)) := h1
    have h2' : w'.ownsRow (w.heap.size + 2) 4 1 (ρ (.tmp 19)) (Cir.lits V d.next).length (bools (Cir.lits V d.next)) := h2
    obtain ⟨A1, c1, e1⟩ := slice_of_own h1'
    obtain ⟨A2, c2, e2⟩ := slice_of_own h2'
    refine ⟨.agg #[ρ (.tmp 15), ρ (.tmp 19)], ?_, ⟨_, _, rfl, h1', h2'⟩⟩
    go_simp) ?_
  refine rs_do rfl rfl rfl (fun ρ w' ho h0 hK => by
    have ho : Only _ w1 w' := ho
    obtain ⟨h1, h2, -⟩ := hK
    have h1' : ρ (.tmp 6) = .pointer (some ⟨w.heap.size + 1, 0, none⟩) := h1
    obtain ⟨a, b, e2, oa, ob⟩ : (TOwn2 (w.heap.size + 2) 4 (Cir.lits V d.outs).length (bools (Cir.lits V d.outs)) 4 (Cir.lits V d.next).length (bools (Cir.lits V d.next))) w' (ρ (.tmp 20)) := h2
    obtain ⟨A1, c1, rfl⟩ := slice_of_own oa
    obtain ⟨A2, c2, rfl⟩ := slice_of_own ob
    have hl := heap_lt h0
    have k0 := blk_cell h0 0
    have k1 := blk_cell h0 1
    have f0 := blk_free h0 0
    have f1 := blk_free h0 1
    simp at k0 k1
    have s1 := heap_setCell_same w' (w.heap.size + 1) 0 _ _ (.slice A1 (Cir.lits V d.outs).length c1) h0
    have s2 := heap_setCell_same _ (w.heap.size + 1) 1 _ _ (.slice A2 (Cir.lits V d.next).length c2) s1
    refine ⟨(w'.setCell ⟨w.heap.size + 1, 0, none⟩ (.slice A1 (Cir.lits V d.outs).length c1)).setCell ⟨w.heap.size + 1, 1, none⟩ (.slice A2 (Cir.lits V d.next).length c2), ?_, ⟨_, _, heap_lt s2, blk_cell s2 0, blk_cell s2 1, ?_, ?_⟩, ?_⟩
    · clear s1 s2
      go_simp
    · exact own_set (own_set oa (by omega)) (by omega)
    · exact own_set (own_set ob (by omega)) (by omega)
    · exact (Only.grown (set_grown w' (w.heap.size + 1) 0 _) (fun q hq => (Option.some.inj hq).symm)).trans (Only.grown (set_grown _ (w.heap.size + 1) 1 _) (fun q hq => (Option.some.inj hq).symm))) ?_
  intro f w9 k9 hk9 hI9 ht9 hcp9
  have E0 : f 0 = _ := ht9 0 (Nat.le_of_ble_eq_true rfl)
  conv at E0 => rhs; whnf
  have E1 : f 1 = _ := ht9 1 (Nat.le_of_ble_eq_true rfl)
  have E2 : f 2 = _ := ht9 2 (Nat.le_of_ble_eq_true rfl)
  have E3 : (TOwn (w.heap.size + 2) 4 1 (Cir.lits V d.outs).length (bools (Cir.lits V d.outs))) w9 (f 3) := ht9 3 (Nat.le_of_ble_eq_true rfl)
  have E4 : f 4 = _ := ht9 4 (Nat.le_of_ble_eq_true rfl)
  conv at E4 => rhs; whnf
  have E5 : f 5 = _ := ht9 5 (Nat.le_of_ble_eq_true rfl)
  have E6 : f 6 = _ := ht9 6 (Nat.le_of_ble_eq_true rfl)
  have E7 : (TOwn (w.heap.size + 2) 4 1 (Cir.lits V d.next).length (bools (Cir.lits V d.next))) w9 (f 7) := ht9 7 (Nat.le_of_ble_eq_true rfl)
  have E8 : (TOwn2 (w.heap.size + 2) 4 (Cir.lits V d.outs).length (bools (Cir.lits V d.outs)) 4 (Cir.lits V d.next).length (bools (Cir.lits V d.next))) w9 (f 8) := ht9 8 (Nat.le_of_ble_eq_true rfl)
  have E9 : (TAny) w9 (f 9) := ht9 9 (Nat.le_of_ble_eq_true rfl)
  have Ho9 : Only _ w1 w9 := hI9.2.1
  have HJ9 := hI9.2.2
  simp only [putAll, E0, E1, E2, E4, E5, E6, Nat.zero_add, Nat.reduceAdd, Act.put, List.setIfInBounds_toArray, List.set_cons_succ, List.set_cons_zero]
  clear E0 E1 E2 E4 E5 E6
  clear hI9 ht9 hcp9 hk9
  generalize f 3 = r3 at *
  generalize f 7 = r7 at *
  generalize f 8 = r8 at *
  generalize f 9 = r9 at *
  have hR : R1Step w.heap.size (Cir.lits V d.outs) (Cir.lits V d.next) w9 := HJ9
  have B := Lib.hid (HBw _ Ho9)
  obtain ⟨a, b, hg, c0, c1, oa, ob⟩ := hR
  have Oa := Lib.hid oa
  have Ob := Lib.hid ob
  clear E3 E7 E8 E9 HJ9 Ho9 oa ob HBw HVw hO p0 p1 p2 p3
  go_wp2_with fail
  exact bodyPost_ret (v := .agg #[a, b]) (by simp [results, Try.results40, go_sem, c0, c1]) rfl ⟨_, _, rfl, own_mono Oa.out (by omega), own_mono Ob.out (by omega), B.out⟩
end Go.Proofs.Ytlbfejdbfhgifaa

namespace Go.Proofs.Ytlbfejdbfhgifaa
/-! Reachable states, plainly. -/
namespace Cir
/-- Membership, as a Bool that the simplifier leaves alone. -/
def memB (l : List Nat) (n : Nat) : Bool := l.contains n
theorem memB_iff {l : List Nat} {n : Nat} : memB l n = true ↔ n ∈ l := by unfold memB; simp
def push (l : List Nat) (n : Nat) : List Nat := if l.contains n then l else l ++ [n]
/-- The next states for the first j inputs are added. -/
def pushes (c : Ci) (s j : Nat) (l : List Nat) : List Nat := ((List.range j).map (nextOf c s)).foldl push l
def bfs (c : Ci) : Nat → Nat → List Nat → List Nat
  | 0, _, l => l
  | f + 1, k, l => match l[k]? with
    | none => l
    | some s => bfs c f (k + 1) (pushes c s (2 ^ c.ins) l)
def reach (c : Ci) : List Nat := bfs c 9 0 [0]
/-- Different states of the circuit. -/
structure Sts (c : Ci) (l : List Nat) : Prop where
  nodup : l.Nodup
  lt : ∀ x ∈ l, x < 2 ^ c.next.length
theorem nodup_lt : ∀ (N : Nat) (l : List Nat), l.Nodup → (∀ x ∈ l, x < N) → l.length ≤ N
  | 0, l, _, h => by
    cases l with
    | nil => simp
    | cons a l => exact absurd (h a (by simp)) (by omega)
  | N + 1, l, hn, h => by
    by_cases hm : N ∈ l
    · have h1 := nodup_lt N (l.erase N) (hn.erase N) (fun x hx => by
        have h2 := (List.Nodup.mem_erase_iff hn).1 hx
        have h3 := h x h2.2
        have h4 := h2.1
        omega)
      rw [List.length_erase_of_mem hm] at h1
      omega
    · have := nodup_lt N l hn (fun x hx => by
        have h3 := h x hx
        have h4 : x ≠ N := fun e => hm (e ▸ hx)
        omega)
      omega
theorem Sts.len {c : Ci} {l : List Nat} (h : Sts c l) (hc : Ok c) : l.length ≤ 8 := by
  have h1 := nodup_lt _ l h.nodup h.lt
  have h2 : 2 ^ c.next.length ≤ 2 ^ 3 := Nat.pow_le_pow_right (show 0 < 2 by decide) hc.nexts
  omega
theorem Sts.zero (c : Ci) : Sts c [0] := ⟨by simp, fun x hx => by simp at hx; subst hx; exact Nat.pow_pos (by decide)⟩
theorem Sts.push {c : Ci} {l : List Nat} (h : Sts c l) {n : Nat} (hn : n < 2 ^ c.next.length) : Sts c (Cir.push l n) := by
  unfold Cir.push
  cases hc : l.contains n
  · refine ⟨?_, fun x hx => ?_⟩
    · simp only [Bool.false_eq_true, if_false]
      rw [List.nodup_append]
      refine ⟨h.nodup, by simp, fun a ha b hb => ?_⟩
      simp at hb
      subst hb
      rintro rfl
      have : l.contains a = true := by simpa using ha
      rw [hc] at this
      cases this
    · simp at hx
      rcases hx with hx | rfl
      · exact h.lt x hx
      · exact hn
  · simpa using h
theorem push_no {l : List Nat} {n : Nat} (h : memB l n = false) : push l n = l ++ [n] := by unfold memB at h; unfold push; rw [h]; rfl
theorem push_yes {l : List Nat} {n : Nat} (h : memB l n = true) : push l n = l := by unfold memB at h; unfold push; rw [h]; rfl
theorem memB_snoc (l : List Nat) (n x : Nat) : memB (l ++ [n]) x = (memB l x || x == n) := by unfold memB; rw [Bool.eq_iff_iff]; simp
theorem memB_zero (x : Nat) : memB [0] x = (x == 0) := by unfold memB; rw [Bool.eq_iff_iff]; simp
theorem pushes_zero (c : Ci) (s : Nat) (l : List Nat) : pushes c s 0 l = l := rfl
theorem pushes_succ (c : Ci) (s j : Nat) (l : List Nat) : pushes c s (j + 1) l = push (pushes c s j l) (nextOf c s j) := by
  unfold pushes
  rw [List.range_succ, List.map_append, List.foldl_append]
  rfl
theorem Sts.pushes {c : Ci} {l : List Nat} (h : Sts c l) (s : Nat) : ∀ j, Sts c (Cir.pushes c s j l)
  | 0 => h
  | j + 1 => by
    rw [pushes_succ]
    exact (Sts.pushes h s j).push (nextOf_lt _ _ _)
theorem pushes_prefix (c : Ci) (s : Nat) (l : List Nat) : ∀ j, ∃ m, Cir.pushes c s j l = l ++ m
  | 0 => ⟨[], by simp [pushes_zero]⟩
  | j + 1 => by
    obtain ⟨m, hm⟩ := pushes_prefix c s l j
    rw [pushes_succ, hm]
    unfold push
    split
    · exact ⟨m, rfl⟩
    · exact ⟨m ++ [nextOf c s j], by rw [List.append_assoc]⟩
theorem pushes_get {c : Ci} {s : Nat} {l : List Nat} {j k x : Nat} (h : l[k]? = some x) : (Cir.pushes c s j l)[k]? = some x := by
  obtain ⟨m, hm⟩ := pushes_prefix c s l j
  obtain ⟨hk, _⟩ := List.getElem?_eq_some_iff.1 h
  rw [hm, List.getElem?_append_left hk, h]
theorem bfs_step {c : Ci} {f k : Nat} {l : List Nat} {s : Nat} (h : l[k]? = some s) : bfs c (f + 1) k l = bfs c f (k + 1) (pushes c s (2 ^ c.ins) l) := by
  rw [bfs, h]
theorem bfs_end {c : Ci} {f : Nat} {l : List Nat} : bfs c f l.length l = l := by
  cases f with
  | zero => rfl
  | succ f => rw [bfs, List.getElem?_eq_none (Nat.le_refl _)]
theorem Sts.bfs {c : Ci} : ∀ (f k : Nat) {l : List Nat}, Sts c l → Sts c (Cir.bfs c f k l)
  | 0, _, _, h => h
  | f + 1, k, l, h => by
    rw [Cir.bfs]
    split
    · exact h
    · exact Sts.bfs f (k + 1) (h.pushes _ _)
theorem reach_sts (c : Ci) : Sts c (reach c) := Sts.bfs _ _ (Sts.zero c)
end Cir
end Go.Proofs.Ytlbfejdbfhgifaa

namespace Go.Proofs.Ytlbfejdbfhgifaa
open Go.RowKit
set_option maxRecDepth 100000
/-! The next state and the outputs, by the reference; small searches in lists. -/
theorem step_field0 (A B : Option Addr) (n m c q : Nat) (w : World) : (Instr.field 64 (.agg #[.slice A n c, .slice B m q]) 0).run Try.prog w = .ok (.slice A n c) w := by kernel_rfl
theorem step_field1 (A B : Option Addr) (n m c q : Nat) (w : World) : (Instr.field 64 (.agg #[.slice A n c, .slice B m q]) 1).run Try.prog w = .ok (.slice B m q) w := by kernel_rfl
/-- l2Step, drawn: a struct of two rows. -/
def TStep (so st : List Bool) : Ty := fun w v => ∃ a b, v = .agg #[a, b] ∧ BoolsAt w a so ∧ BoolsAt w b st
theorem stb_step (so st : List Bool) : Stb (fun _ => False) (TStep so st) := by
  rintro v w w' ⟨a, b, rfl, h1, h2⟩ ho
  exact ⟨a, b, rfl, stb_bools _ _ _ _ h1 ho, stb_bools _ _ _ _ h2 ho⟩
end Go.Proofs.Ytlbfejdbfhgifaa

namespace Go.Proofs.Ytlbfejdbfhgifaa
open Go.RowKit
set_option maxRecDepth 100000
namespace Cir
def evalOk (c : Cz) (st inp : List Int) : Bool := valid c && (decide (st.length = c.next.length) && (decide ((inp.length : Int) = c.ins) && (st.all tern && inp.all tern)))
/-- What EvalTernary answers. -/
def evalT (c : Cz) (st inp : List Int) : List Int := if evalOk c st inp = true then nats (tvals (nat c) (st.map Int.toNat) (inp.map Int.toNat)) else []
theorem tern_nats : ∀ {xs : List Int}, xs.all tern = true → xs = nats (xs.map Int.toNat) ∧ ∀ x ∈ xs.map Int.toNat, x ≤ 2
  | [], _ => ⟨rfl, by simp⟩
  | x :: xs, h => by
    rw [List.all_cons, Bool.and_eq_true] at h
    obtain ⟨h1, h2⟩ := tern_nats h.2
    have h0 : 0 ≤ x ∧ x ≤ 2 := by have := h.1; unfold tern at this; simpa using this
    refine ⟨?_, ?_⟩
    · rw [List.map_cons, nats, List.map_cons, ← nats, ← h1]
      congr 1
      simp; omega
    · intro y hy
      rw [List.map_cons] at hy
      rcases List.mem_cons.1 hy with rfl | hy
      · omega
      · exact h2 y hy
theorem evalT_no {c : Cz} {st inp : List Int} (h : evalOk c st inp = false) : evalT c st inp = [] := by unfold evalT; rw [h]; rfl
end Cir
theorem bel_al (w : World) (o : Obj) : Below w.heap.size w (w.alloc o) := (Below.refl _ _).alloc (Nat.le_refl _) o
end Go.Proofs.Ytlbfejdbfhgifaa

namespace Go.Proofs.Ytlbfejdbfhgifaa
open Go.RowKit
set_option maxRecDepth 100000
/-! Rows of inputs; ternary values of bits. -/
theorem all_dropG' {α : Type} {p : α → Bool} {l : List α} {k : Nat} {x : α} (h : l[k]? = some x) : (l.drop k).all p = (p x && (l.drop (k + 1)).all p) := by
  obtain ⟨hk, rfl⟩ := List.getElem?_eq_some_iff.1 h
  rw [List.drop_eq_getElem_cons hk, List.all_cons]
namespace Cir
def rowOk (i : Int) (r : List Bool) : Bool := decide ((r.length : Int) = i)
def rowsOk (c : Cz) (rss : List (List Bool)) : Bool := valid c && (decide (rss.length ≤ 40) && rss.all (rowOk c.ins))
def terns (r : List Bool) : List Nat := r.map Bool.toNat
theorem terns_length (r : List Bool) : (terns r).length = r.length := List.length_map _
theorem terns_le (r : List Bool) : ∀ x ∈ terns r, x ≤ 2 := fun x hx => by
  obtain ⟨b, _, rfl⟩ := List.mem_map.1 hx
  cases b <;> simp
theorem terns_snoc {r : List Bool} {k : Nat} {b : Bool} (h : r[k]? = some b) : terns (r.take (k + 1)) = terns (r.take k) ++ [b.toNat] := by
  unfold terns
  rw [take_snoc h, List.map_append]
  rfl
end Cir
theorem ternaryOf_any (v : Value) (xs : List Bool) (w : World) (h : BoolsAt w v xs) (hx : xs.length ≤ 1000) :
    Calls Try.prog 49 #[v] w (OwnInts (nats (Cir.terns xs)) w) := by
  obtain ⟨A, c, rfl, hc, hcm⟩ := Row.shape h
  have hmk := run_make_cap (P := Try.prog) 22 3 (.int .i64 0) 1 8 Try.underlying22 info_int .i64 .i64 xs.length (by omega) (by omega)
  simp only [Value.cells, Nat.mul_one] at hmk
  have H := Lib.hid h
  clear h
  go_enter Try.func49, Try.ntmps49
  go_wp2_with fail
  have hown0 := World.ownsRow_made (base := w.heap.size) (e := 3) (size := 1) w (madeCells #[Value.int .i64 0] xs.length) xs.length (Nat.le_refl _) (by unfold maxLen; omega) (by simp [madeCells])
  have hb0 : Below w.heap.size w (w.alloc (.cells (madeCells #[Value.int .i64 0] xs.length) 3)) := bel_new _ _
  clear hmk
  go_loopw [3, 12] (fun v i wr => ∃ (vv : Value) (k : Nat), vv = v ∧ k ≤ xs.length ∧ i = .int .i64 k ∧ Hid (wr.ownsRow w.heap.size 3 1 v k (nints (Cir.terns (xs.take k)))) ∧ Below w.heap.size w wr) (fun _ i _ => xs.length - (intOf i).toNat)
  case atStart => exact ⟨_, 0, rfl, Nat.zero_le _, rfl, Lib.hid hown0, hb0⟩
  case round =>
    obtain ⟨vv, k, hvv, hk, rfl, Ho, hb⟩ := hrel
    subst hvv
    clear hown0 hb0
    by_cases hlt : k < xs.length
    · have hz := hb.size
      have Hb := Lib.hid hb
      obtain ⟨b, o, u, rfl, hbl, hx0, hs0⟩ := bools_open H.out hb rfl hlt
      have HS : Hid (nints (Cir.terns (xs.take (k + 1))) = nints (Cir.terns (xs.take k)) ++ [.int .i64 (u.toNat : Nat)]) := Lib.hid (by rw [Cir.terns_snoc hx0.out, nints_snoc])
      clear hb
      cases u
      all_goals
        have Hlit := fun i : Int => Lib.hid (Row.of_own (World.ownsRow_lit (base := wr.heap.size) (e := 3) (size := 1) wr #[.int .i64 i] 1 (Nat.le_refl _) (by unfold maxLen; omega) rfl))
        go_wp2_with (at_builtin; refine append_ints rfl (.tmp 17) (.tmp 19) rfl w.heap.size _ k _ rfl (Ho.out.alloc _) _ 1 [.int .i64 _] rfl (Hlit _).out (by simp [Value.oneCell']) (by omega) (by simp; omega) ?_; intro v7 w7 hown7 hg7 hat7; have Ho7 := Lib.hid hown7; have Hg7 := Lib.hid hg7; clear hown7 hg7 hat7)
        go_roundw
        case rel => exact ⟨_, k + 1, rfl, by omega, by go_num, Lib.hid (by rw [HS.out]; exact Ho7.out), (Hb.out.alloc hz _).grown Hg7.out (Hb.out.alloc hz _).size (own_ge0 Ho.out)⟩
        case measure => simp [intOf] <;> omega
    · obtain rfl : k = xs.length := by omega
      go_wp2_with fail
      go_ret
      exact ⟨_, rfl, by rw [nats_length, Cir.terns_length]; have := Ho.out; rwa [List.take_length] at this, hb⟩
end Go.Proofs.Ytlbfejdbfhgifaa

namespace Go.Proofs.Ytlbfejdbfhgifaa
open Go.RowKit
set_option maxRecDepth 100000
theorem cell_only {E : Nat → Prop} {w w' : World} {g i : Nat} {u : Value} (ho : Only E w w') (hn : ¬ E g) (hl : g < w.heap.size) (h : w.cell? ⟨g, i, none⟩ = some u) : w'.cell? ⟨g, i, none⟩ = some u := cell_on ho hn hl h
set_option maxHeartbeats 16000000 in
theorem specEvalT_ok (v vs vi : Value) (d : Ci) (st inp : List Nat) (w : World) (h : CircAt w v (Cir.toCz d)) (hd : Cir.Ok d) (hv : Cir.valid (Cir.toCz d) = true) (hs : NatsAt w vs st) (hi : NatsAt w vi inp) (h1 : inp.length = d.ins) (h2 : st.length = d.next.length) (t1 : ∀ x ∈ st, x ≤ 2) (t2 : ∀ x ∈ inp, x ≤ 2) :
    Calls Try.prog 43 #[v, vs, vi] w (OwnInts (nats (Cir.tvals d st inp)) w) := by
  have l1 := hd.ins
  have l2 := hd.nexts
  have l3 := hd.gatess
  have HG := Lib.hid hd.gate
  have hnl : (Cir.toCz d).next.length = d.next.length := List.length_map _
  have hgl : (Cir.toCz d).gates.length = d.gates.length := List.length_map _
  have HCa := Lib.hid h
  obtain ⟨vn, vg, vo, rfl, r1, r2, r3⟩ := h
  obtain ⟨An, cn, hvn, hcn, hcmn⟩ := r1.shape
  obtain ⟨Ag, cg, hvg, hcg, hcmg⟩ := Row.shape r2
  rw [hnl] at hvn
  rw [hgl] at hvg hcg
  subst hvn hvg
  have hins : (Cir.toCz d).ins = (d.ins : Int) := rfl
  rw [hins] at HCa ⊢
  have B0 := Lib.hid (bel_al w (.cells #[.int .i64 d.ins, .slice An d.next.length cn, .slice Ag d.gates.length cg, vo] 31))
  have PC := Lib.hid (PCells.boxed w d.ins (.slice An d.next.length cn) (.slice Ag d.gates.length cg) vo 31)
  have R2 : Hid (Row w 2 (.slice Ag d.gates.length cg) d.gates.length (cubes (Cir.toCz d).gates)) := Lib.hid (by have := r2; unfold CubesAt at this; rwa [hgl] at this)
  have HV : Hid (Calls Try.prog 39 #[.agg #[.int .i64 d.ins, .slice An d.next.length cn, .slice Ag d.gates.length cg, vo]] (w.alloc (.cells #[.int .i64 d.ins, .slice An d.next.length cn, .slice Ag d.gates.length cg, vo] 31)) fun e w' => e = .returned (.bool true) ∧ Below (w.alloc (.cells #[.int .i64 d.ins, .slice An d.next.length cn, .slice Ag d.gates.length cg, vo] 31)).heap.size (w.alloc (.cells #[.int .i64 d.ins, .slice An d.next.length cn, .slice Ag d.gates.length cg, vo] 31)) w') := Lib.hid (by
    have := specValid_any _ _ _ (HCa.out.below B0.out)
    rwa [hv] at this)
  have a1 : (nats st).all Cir.tern = true := by
    rw [List.all_eq_true]
    intro x hx
    obtain ⟨y, hy, rfl⟩ := List.mem_map.1 hx
    have := t1 y hy
    exact decide_eq_true (by simp; omega)
  have a2 : (nats inp).all Cir.tern = true := by
    rw [List.all_eq_true]
    intro x hx
    obtain ⟨y, hy, rfl⟩ := List.mem_map.1 hx
    have := t2 y hy
    exact decide_eq_true (by simp; omega)
  have HO1 : Hid (∀ w', Below w.heap.size w w' → Calls Try.prog 99 #[vs, .int .i64 d.next.length] w' fun e w'' => e = .returned (.bool true) ∧ w' = w'') := Lib.hid fun w' hb => by
    have := l27Ok_any vs (nats st) d.next.length w' (Row.below hs hb)
    rwa [a1, nats_length, h2, decide_eq_true rfl] at this
  have HO2 : Hid (∀ w', Below w.heap.size w w' → Calls Try.prog 99 #[vi, .int .i64 d.ins] w' fun e w'' => e = .returned (.bool true) ∧ w' = w'') := Lib.hid fun w' hb => by
    have := l27Ok_any vi (nats inp) d.ins w' (Row.below hi hb)
    rwa [a2, nats_length, h1, decide_eq_true rfl] at this
  have Hs := Lib.hid hs
  have Hi := Lib.hid hi
  have HE : Hid (∀ k, k ≤ d.gates.length → (Cir.tevalG (d.gates.take k) (0 :: (inp ++ st))).length = Cir.nfirst d + k) := Lib.hid fun k hk => by
    rw [Cir.tevalG_length]
    simp [Cir.nfirst, h1, h2]
    omega
  have HT : Hid (∀ k, ∀ x ∈ Cir.tevalG (d.gates.take k) (0 :: (inp ++ st)), x ≤ 2) := Lib.hid fun k => Cir.tevalG_le _ fun x hx => by
    rcases List.mem_cons.1 hx with rfl | hx
    · omega
    · rcases List.mem_append.1 hx with h | h
      · exact t2 x h
      · exact t1 x h
  have hnf : Cir.nfirst d ≤ 8 := by unfold Cir.nfirst; omega
  have HVV : Hid (Cir.tevalG (d.gates.take d.gates.length) (0 :: (inp ++ st)) = Cir.tvals d st inp) := Lib.hid (by rw [List.take_length]; rfl)
  have HI0 : Hid (nints (0 :: (inp ++ st)) = [.int .i64 0] ++ nints inp ++ nints st ∧ (0 :: (inp ++ st)).length = 1 + inp.length + st.length) := Lib.hid (by simp [nints, ints, nats]; omega)
  have hi4 : inp.length ≤ 4 := by omega
  have hs3 : st.length ≤ 3 := by omega
  generalize Cir.tvals d st inp = res at *
  generalize Cir.nfirst d = nf at *
  generalize (0 :: (inp ++ st)) = I0 at *
  generalize hW : w.alloc (.cells #[.int .i64 d.ins, .slice An d.next.length cn, .slice Ag d.gates.length cg, vo] 31) = W at *
  obtain ⟨z, p0, p1, p2, p3⟩ := PC.out
  clear r1 r2 r3 hs hi h1 h2 t1 t2 a1 a2 hv hd hnl HCa hins
  obtain ⟨i0, hi0, hz0, hz1, hz2⟩ := info_parts info_int
  go_enter Try.func43, Try.ntmps43
  go_wp2_with fail
  refine HV.out.mono ?_
  rintro e w1 ⟨rfl, hb1⟩
  have B1 := Lib.hid (B0.out.trans (hb1.mono B0.out.size))
  have PC1 := Lib.hid (PC.out.below hb1)
  clear z p0 p1 p2 p3 hb1 PC
  obtain ⟨z, p0, p1, p2, p3⟩ := PC1.out
  go_wp2_with fail
  refine (HO1.out _ B1.out).mono ?_
  rintro e w' ⟨rfl, rfl⟩
  go_wp2_with fail
  refine (HO2.out _ B1.out).mono ?_
  rintro e w' ⟨rfl, rfl⟩
  have hzw : w.heap.size + 1 ≤ w1.heap.size := by omega
  have Hlit : Hid ((w1.alloc (.cells #[.int .i64 0] 3)).ownsRow (w.heap.size + 1) 3 1 (.slice (some ⟨w1.heap.size, 0, none⟩) 1 1) 1 [.int .i64 0]) := Lib.hid (World.ownsRow_lit (base := w.heap.size + 1) (e := 3) (size := 1) w1 #[.int .i64 0] 1 hzw (by unfold maxLen; omega) rfl)
  have Bl := Lib.hid (B1.out.alloc B1.out.size (.cells #[.int .i64 0] 3))
  have PCl := Lib.hid (cells_alloc PC1.out (.cells #[.int .i64 0] 3))
  clear HO1 HO2 HV hW p0 p1 p2 p3 z
  go_wp2_with (first
    | (at_builtin; refine append_ints rfl (.tmp 28) (.tmp 29) rfl (w.heap.size + 1) _ 1 [.int .i64 0] rfl Hlit.out _ inp.length (nints inp) rfl (by have := Row.below Hi.out Bl.out; rwa [nats_length] at this) (nints_one _) (by omega) (by simp; omega) ?_; intro v5 w5 hown5 hg5 hat5; have Ho5 := Lib.hid hown5; have P5 := Lib.hid (PCl.out.grown hg5 (own_ne Hlit.out (by omega))); have B5 := Lib.hid (Bl.out.grown hg5 Bl.out.size (fun q hq => by have := (Hlit.out.lt q hq).1; omega)); have z5 := hg5.size; clear hown5 hg5 hat5)
    | (at_builtin; refine append_ints rfl (.tmp 31) (.tmp 32) rfl (w.heap.size + 1) _ (1 + inp.length) ([Value.int .i64 0] ++ nints inp) rfl Ho5.out _ st.length (nints st) rfl (by have := Row.below Hs.out B5.out; rwa [nats_length] at this) (nints_one _) (by omega) (by simp at z5; omega) ?_; intro v6 w6 hown6 hg6 hat6; have Ho6 := Lib.hid hown6; have P6 := Lib.hid (P5.out.grown hg6 (own_ne Ho5.out (by omega))); have B6 := Lib.hid (B5.out.grown hg6 B5.out.size (fun q hq => by have := (Ho5.out.lt q hq).1; omega)); clear hown6 hg6 hat6))
  go_loopw [7, 8] (fun v i wr => ∃ (vv : Value) (k : Nat), vv = v ∧ k ≤ d.gates.length ∧ i = .int .i64 k ∧ Hid (wr.ownsRow (w.heap.size + 1) 3 1 v (nf + k) (nints (Cir.tevalG (d.gates.take k) I0))) ∧ Hid (PCells wr w.heap.size d.ins (.slice An d.next.length cn) (.slice Ag d.gates.length cg) vo) ∧ Below w.heap.size w wr) (fun _ i _ => d.gates.length - (intOf i).toNat)
  case atStart =>
    refine ⟨_, 0, rfl, Nat.zero_le _, rfl, Lib.hid ?_, P6, B6.out⟩
    have := Ho6.out
    have e : Cir.tevalG (d.gates.take 0) I0 = I0 := rfl
    have hl0 := HE.out 0 (Nat.zero_le _)
    rw [e] at hl0
    rw [e, HI0.out.1, ← hl0, HI0.out.2]
    exact this
  case round =>
    obtain ⟨vv, k, hvv, hk, rfl, Ho, P, hb⟩ := hrel
    subst hvv
    by_cases hlt : k < d.gates.length
    · obtain ⟨b, o, x, rfl, hbl, hx, hs1, hs2⟩ := cubes_open R2.out hb hgl.symm (i := k) (by omega)
      obtain ⟨gt, hgt⟩ := at_some hlt
      have hxe : x = ((gt.1 : Int), (gt.2 : Int)) := by
        have h1 := hx.out
        unfold Cir.toCz at h1
        simp only [List.getElem?_map, hgt] at h1
        exact (Option.some.inj h1).symm
      subst hxe
      obtain ⟨g1, g2⟩ := HG.out k gt hgt
      have hEk := HE.out k (by omega)
      have hTk := HT.out k
      have HS : Hid (nints (Cir.tevalG (d.gates.take (k + 1)) I0) = nints (Cir.tevalG (d.gates.take k) I0) ++ [.int .i64 (Cir.tand (Cir.tlit (Cir.tevalG (d.gates.take k) I0) gt.1) (Cir.tlit (Cir.tevalG (d.gates.take k) I0) gt.2) : Nat)]) := Lib.hid (by rw [Cir.tevalG_take_snoc hgt, nints_append]; rfl)
      clear hx hgt
      obtain ⟨E2, hE2⟩ : ∃ E2, Cir.tevalG (d.gates.take (k + 1)) I0 = E2 := ⟨_, rfl⟩
      rw [hE2] at HS
      have HE2 := Lib.hid hE2
      clear hE2
      generalize Cir.tevalG (d.gates.take k) I0 = E at *
      have Hb := Lib.hid hb
      have hzr := hb.size
      have hl1 := Cir.tlit_le hTk gt.1
      have hl2 := Cir.tlit_le hTk gt.2
      obtain ⟨G1, hG1⟩ : ∃ G1, G1 = gt.1 := ⟨_, rfl⟩
      obtain ⟨G2, hG2⟩ : ∃ G2, G2 = gt.2 := ⟨_, rfl⟩
      rw [← hG1] at g1 HS hs1 hl1
      rw [← hG2] at g2 HS hs2 hl2
      have HTk := Lib.hid hTk
      have HEk := Lib.hid hEk
      obtain ⟨z, p0, p1, p2, p3⟩ := P.out
      have hNb : ¬ (vv.ownBlock = some b) := fun e => by have := (Ho.out.lt _ e).1; omega
      have hNg : ¬ (vv.ownBlock = some w.heap.size) := fun e => by have := (Ho.out.lt _ e).1; omega
      have HR : Hid (∀ w', w'.ownsRow (w.heap.size + 1) 3 1 vv (nf + k) (nints E) → NatsAt w' vv E) := Lib.hid fun w' h => nats_own h hEk
      clear hb hG1 hG2 hEk hTk
      go_wp2_with fail
      have hO := fun ops a => appRS_ok (Pg := Try.prog) (ops := ops) (a := a) (news := [.int .i64 (Cir.tand (Cir.tlit E G1) (Cir.tlit E G2) : Nat)]) (d := 19) Ho.out
      refine wp_region_rs (appRS Try.prog _ wr _ (w.heap.size + 1) 3 1 vv (nf + k) (nints E) [.int .i64 (Cir.tand (Cir.tlit E G1) (Cir.tlit E G2) : Nat)] 19) (hO _ _) (by kernel_rfl) (by kernel_rfl) (by kernel_rfl) (Nat.le_of_ble_eq_true rfl) trivial Ho.out ?_
      have HGS : ∀ w', Only (fun g => vv.ownBlock = some g) wr w' → w'.cell? ⟨w.heap.size, 2, none⟩ = some (.slice (some ⟨b, o, none⟩) d.gates.length cg) := fun w' ho => cell_only ho hNg z p2
      have HB1 : ∀ w', Only (fun g => vv.ownBlock = some g) wr w' → w'.cell? ⟨b, o + k * 2, none⟩ = some (.int .i64 (G1 : Nat)) := fun w' ho => cell_only ho hNb (by omega) hs1
      have HB2 : ∀ w', Only (fun g => vv.ownBlock = some g) wr w' → w'.cell? ⟨b, o + k * 2 + 1, none⟩ = some (.int .i64 (G2 : Nat)) := fun w' ho => cell_only ho hNb (by omega) hs2
      refine rs_old (hO _ _) (.inl (Nat.ne_of_beq_eq_false rfl)) _ (.inl rfl) _ rfl rfl ?_
      refine rs_old (hO _ _) (.inl (Nat.ne_of_beq_eq_false rfl)) _ (.inl rfl) _ rfl rfl ?_
      refine rs_look (hO _ _) (.inl (Nat.ne_of_beq_eq_false rfl)) (TEq (.pointer (some ⟨w.heap.size, 2, none⟩))) (stb_eq _ _) (fun ρ w' ho hK => by
        obtain ⟨h0, -⟩ := hK
        have h0' : ρ (.tmp 3) = .pointer (some ⟨w.heap.size, 0, none⟩) := h0
        refine ⟨_, ?_, rfl⟩
        go_simp) ?_
      refine rs_look (hO _ _) (.inl (Nat.ne_of_beq_eq_false rfl)) (TEq (.slice (some ⟨b, o, none⟩) d.gates.length cg)) (stb_eq _ _) (fun ρ w' ho hK => by
        obtain ⟨h0, -⟩ := hK
        have h0' : ρ (.tmp 43) = .pointer (some ⟨w.heap.size, 2, none⟩) := h0
        have q := HGS w' ho
        refine ⟨_, ?_, rfl⟩
        go_simp) ?_
      refine rs_old (hO _ _) (.inl (Nat.ne_of_beq_eq_false rfl)) _ (.inl rfl) _ rfl rfl ?_
      refine rs_look (hO _ _) (.inl (Nat.ne_of_beq_eq_false rfl)) (TEq (.pointer (some ⟨b, o + k * 2, none⟩))) (stb_eq _ _) (fun ρ w' ho hK => by
        obtain ⟨h0, h1, -⟩ := hK
        have h0' : ρ (.tmp 44) = .slice (some ⟨b, o, none⟩) d.gates.length cg := h0
        have h1' : ρ (.tmp 45) = .int .i64 (k : Nat) := h1
        refine ⟨_, ?_, rfl⟩
        go_simp) ?_
      refine rs_look (hO _ _) (.inl (Nat.ne_of_beq_eq_false rfl)) (TEq (.pointer (some ⟨b, o + k * 2, none⟩))) (stb_eq _ _) (fun ρ w' ho hK => by
        obtain ⟨h0, -⟩ := hK
        have h0' : ρ (.tmp 46) = .pointer (some ⟨b, o + k * 2, none⟩) := h0
        refine ⟨_, ?_, rfl⟩
        go_simp) ?_
      refine rs_look (hO _ _) (.inl (Nat.ne_of_beq_eq_false rfl)) (TEq (.int .i64 (G1 : Nat))) (stb_eq _ _) (fun ρ w' ho hK => by
        obtain ⟨h0, -⟩ := hK
        have h0' : ρ (.tmp 47) = .pointer (some ⟨b, o + k * 2, none⟩) := h0
        have q := HB1 w' ho
        refine ⟨_, ?_, rfl⟩
        go_simp) ?_
      refine rs_call_before (hO _ _) (Nat.ne_of_beq_eq_false rfl) (by kernel_rfl) (TEq (.int .i64 (Cir.tlit E G1 : Nat))) (stb_eq _ _) 44 _ _ rfl (fun ρ w' ho hJ hK => by
        obtain ⟨hf, h0, h1, -⟩ := hK
        have hf' : ρ (.func 44) = .func (.func 44) #[] #[] := hf
        have h0' : ρ (.tmp 42) = vv := h0
        have h1' : ρ (.tmp 48) = .int .i64 (G1 : Nat) := h1
        refine ⟨#[vv, .int .i64 (G1 : Nat)], ?_, ?_⟩
        · go_simp
        · refine (l27Lit_any vv E G1 w' (HR.out w' hJ) (by rw [HEk.out]; exact g1) (by omega) HTk.out).mono ?_
          rintro e w2 ⟨rfl, rfl⟩
          exact ⟨_, rfl, rfl, Below.refl _ _⟩) ?_
      refine rs_old (hO _ _) (.inl (Nat.ne_of_beq_eq_false rfl)) _ (.inl rfl) _ rfl rfl ?_
      refine rs_look (hO _ _) (.inl (Nat.ne_of_beq_eq_false rfl)) (TEq (.pointer (some ⟨w.heap.size, 2, none⟩))) (stb_eq _ _) (fun ρ w' ho hK => by
        obtain ⟨h0, -⟩ := hK
        have h0' : ρ (.tmp 3) = .pointer (some ⟨w.heap.size, 0, none⟩) := h0
        refine ⟨_, ?_, rfl⟩
        go_simp) ?_
      refine rs_look (hO _ _) (.inl (Nat.ne_of_beq_eq_false rfl)) (TEq (.slice (some ⟨b, o, none⟩) d.gates.length cg)) (stb_eq _ _) (fun ρ w' ho hK => by
        obtain ⟨h0, -⟩ := hK
        have h0' : ρ (.tmp 51) = .pointer (some ⟨w.heap.size, 2, none⟩) := h0
        have q := HGS w' ho
        refine ⟨_, ?_, rfl⟩
        go_simp) ?_
      refine rs_old (hO _ _) (.inl (Nat.ne_of_beq_eq_false rfl)) _ (.inl rfl) _ rfl rfl ?_
      refine rs_look (hO _ _) (.inl (Nat.ne_of_beq_eq_false rfl)) (TEq (.pointer (some ⟨b, o + k * 2, none⟩))) (stb_eq _ _) (fun ρ w' ho hK => by
        obtain ⟨h0, h1, -⟩ := hK
        have h0' : ρ (.tmp 52) = .slice (some ⟨b, o, none⟩) d.gates.length cg := h0
        have h1' : ρ (.tmp 53) = .int .i64 (k : Nat) := h1
        refine ⟨_, ?_, rfl⟩
        go_simp) ?_
      refine rs_look (hO _ _) (.inl (Nat.ne_of_beq_eq_false rfl)) (TEq (.pointer (some ⟨b, o + k * 2 + 1, none⟩))) (stb_eq _ _) (fun ρ w' ho hK => by
        obtain ⟨h0, -⟩ := hK
        have h0' : ρ (.tmp 54) = .pointer (some ⟨b, o + k * 2, none⟩) := h0
        refine ⟨_, ?_, rfl⟩
        go_simp) ?_
      refine rs_look (hO _ _) (.inl (Nat.ne_of_beq_eq_false rfl)) (TEq (.int .i64 (G2 : Nat))) (stb_eq _ _) (fun ρ w' ho hK => by
        obtain ⟨h0, -⟩ := hK
        have h0' : ρ (.tmp 55) = .pointer (some ⟨b, o + k * 2 + 1, none⟩) := h0
        have q := HB2 w' ho
        refine ⟨_, ?_, rfl⟩
        go_simp) ?_
      refine rs_call_before (hO _ _) (Nat.ne_of_beq_eq_false rfl) (by kernel_rfl) (TEq (.int .i64 (Cir.tlit E G2 : Nat))) (stb_eq _ _) 44 _ _ rfl (fun ρ w' ho hJ hK => by
        obtain ⟨hf, h0, h1, -⟩ := hK
        have hf' : ρ (.func 44) = .func (.func 44) #[] #[] := hf
        have h0' : ρ (.tmp 50) = vv := h0
        have h1' : ρ (.tmp 56) = .int .i64 (G2 : Nat) := h1
        refine ⟨#[vv, .int .i64 (G2 : Nat)], ?_, ?_⟩
        · go_simp
        · refine (l27Lit_any vv E G2 w' (HR.out w' hJ) (by rw [HEk.out]; exact g2) (by omega) HTk.out).mono ?_
          rintro e w2 ⟨rfl, rfl⟩
          exact ⟨_, rfl, rfl, Below.refl _ _⟩) ?_
      refine rs_call (hO _ _) (.inl (Nat.ne_of_beq_eq_false rfl)) (TEq (.int .i64 (Cir.tand (Cir.tlit E G1) (Cir.tlit E G2) : Nat))) (stb_eq _ _) 100 _ _ rfl (fun ρ w' ho hK => by
        obtain ⟨hf, h0, h1, -⟩ := hK
        have hf' : ρ (.func 100) = .func (.func 100) #[] #[] := hf
        have h0' : ρ (.tmp 49) = .int .i64 (Cir.tlit E G1 : Nat) := h0
        have h1' : ρ (.tmp 57) = .int .i64 (Cir.tlit E G2 : Nat) := h1
        refine ⟨#[.int .i64 (Cir.tlit E G1 : Nat), .int .i64 (Cir.tlit E G2 : Nat)], ?_, ?_⟩
        · go_simp
        · refine (l27And_any _ _ w' hl1 hl2).mono ?_
          rintro e w2 ⟨rfl, rfl⟩
          exact ⟨_, rfl, rfl, Below.refl _ _⟩) ?_
      refine rs_build1 (hO _ _) (.inl (Nat.ne_of_beq_eq_false rfl)) 1 [.int .i64 (Cir.tand (Cir.tlit E G1) (Cir.tlit E G2) : Nat)] 3 rfl (fun ρ w' ho hK => by
        obtain ⟨h1, -⟩ := hK
        have h1' : ρ (.tmp 58) = .int .i64 (Cir.tand (Cir.tlit E G1) (Cir.tlit E G2) : Nat) := h1
        go_simp) ?_
      refine rs_append1 rfl (w.heap.size + 1) 3 22 1 vv (nf + k) (nints E) _ rfl rfl (fun g hg => hg) (show w.heap.size + 1 ≤ wr.heap.size by omega) _ _ rfl _ _ rfl rfl rfl rfl i0 _ 8 Try.underlying22 hi0 hz0 hz1 hz2 rfl (by decide) (by omega) (by decide) (by simp [Value.oneCell']) ?_
      refine rs_same (hO _ _) (.inl (Nat.ne_of_beq_eq_false rfl)) _ _ (.inr rfl) rfl _ rfl ?_
      intro f w9 k9 hk9 hI9 ht9 hcp9
      have hfe : f 20 = f 19 := (hcp9 20 _ 60 19 rfl rfl rfl rfl).2
      have hown9 : w9.ownsRow (w.heap.size + 1) 3 1 (f 19) (nf + k + 1) (nints E ++ [.int .i64 (Cir.tand (Cir.tlit E G1) (Cir.tlit E G2) : Nat)]) := hI9.2.2
      have Ho9 := Lib.hid hown9
      have hon : Only (fun g => vv.ownBlock = some g) wr w9 := hI9.2.1
      have HB9 : Hid (Below w.heap.size w w9) := Lib.hid (Only.below Hb.out hon hzr (fun g hg => by have := (Ho.out.lt g hg).1; omega))
      have P9 : Hid (PCells w9 w.heap.size d.ins (.slice An d.next.length cn) (.slice (some ⟨b, o, none⟩) d.gates.length cg) vo) := Lib.hid ⟨Nat.lt_of_lt_of_le z hon.size, cell_only hon hNg z p0, cell_only hon hNg z p1, cell_only hon hNg z p2, cell_only hon hNg z p3⟩
      simp only [putAll, hfe, Nat.zero_add, Nat.reduceAdd, Act.put, List.setIfInBounds_toArray, List.set_cons_succ, List.set_cons_zero]
      generalize f 19 = v9 at *
      generalize f 0 = z0, f 1 = z1, f 2 = z2, f 3 = z3, f 4 = z4, f 5 = z5, f 6 = z6, f 7 = z7, f 8 = z8, f 9 = z9, f 10 = z10, f 11 = z11, f 12 = z12, f 13 = z13, f 14 = z14, f 15 = z15, f 16 = z16, f 17 = z17, f 18 = z18
      clear hI9 ht9 hcp9 hk9 hfe hown9 hon HGS HB1 HB2 hO p0 p1 p2 p3
      go_wp2_with fail
      go_roundw
      case rel => exact ⟨v9, k + 1, rfl, by omega, by go_num, Lib.hid (by rw [HE2.out, HS.out]; exact Ho9.out), P9, HB9.out⟩
      case measure => simp [intOf] <;> omega
    · obtain rfl : k = d.gates.length := by omega
      obtain ⟨z, p0, p1, p2, p3⟩ := P.out
      have HLn := Lib.hid (HE.out d.gates.length (Nat.le_refl _))
      go_wp2_with fail
      go_ret
      refine ⟨_, rfl, ?_, hb⟩
      rw [nats_length, ← HVV.out, HLn.out]
      exact own_mono Ho.out (by omega)
set_option maxHeartbeats 8000000 in
theorem specEvalT_any (v vs vi : Value) (c : Cz) (st inp : List Int) (w : World) (h : CircAt w v c) (hs : IntsAt w vs st) (hi : IntsAt w vi inp) :
    Calls Try.prog 43 #[v, vs, vi] w (OwnInts (Cir.evalT c st inp) w) := by
  cases hok : Cir.evalOk c st inp
  · rw [Cir.evalT_no hok]
    obtain ⟨vn, vg, vo, rfl, r1, r2, r3⟩ := h
    obtain ⟨An, cn, hvn, hcn, hcmn⟩ := r1.shape
    subst hvn
    have B0 := Lib.hid (bel_al w (.cells #[.int .i64 c.ins, .slice An c.next.length cn, vg, vo] 31))
    obtain ⟨z, p0, p1, p2, p3⟩ := PCells.boxed w c.ins (.slice An c.next.length cn) vg vo 31
    have HC : Hid (CircAt (w.alloc (.cells #[.int .i64 c.ins, .slice An c.next.length cn, vg, vo] 31)) (.agg #[.int .i64 c.ins, .slice An c.next.length cn, vg, vo]) c) := Lib.hid (CircAt.below ⟨_, _, _, rfl, r1, r2, r3⟩ B0.out)
    generalize hW : w.alloc (.cells #[.int .i64 c.ins, .slice An c.next.length cn, vg, vo] 31) = W at *
    have HV := Lib.hid (specValid_any _ c _ HC.out)
    have HO1 := Lib.hid fun w' (hb : Below w.heap.size w w') => l27Ok_any vs st c.next.length w' (Row.below hs hb)
    have HO2 := Lib.hid fun w' (hb : Below w.heap.size w w') => l27Ok_any vi inp c.ins w' (Row.below hi hb)
    clear r1 r2 r3 hs hi HC
    have hcs : Cir.valid c = false ∨ (Cir.valid c = true ∧ (st.all Cir.tern && decide ((st.length : Int) = c.next.length)) = false) ∨ (Cir.valid c = true ∧ (st.all Cir.tern && decide ((st.length : Int) = c.next.length)) = true ∧ (inp.all Cir.tern && decide ((inp.length : Int) = c.ins)) = false) := by
      unfold Cir.evalOk at hok
      have e : decide ((st.length : Int) = c.next.length) = decide (st.length = c.next.length) := decide_eq_decide.2 (by omega)
      rw [e]
      revert hok
      cases Cir.valid c <;> cases decide (st.length = c.next.length) <;> cases decide ((inp.length : Int) = c.ins) <;> cases st.all Cir.tern <;> cases inp.all Cir.tern <;> simp
    rcases hcs with h1 | ⟨h1, h2⟩ | ⟨h1, h2, h3⟩
    · rw [h1] at HV
      clear h1 hok
      go_enter Try.func43, Try.ntmps43
      go_wp2_with fail
      refine HV.out.mono ?_
      rintro e w1 ⟨rfl, hb1⟩
      have B1 := Lib.hid (B0.out.trans (hb1.mono B0.out.size))
      clear hb1
      go_wp2_with fail
      go_ret
      exact own_lit0 w w1 B1.out 3
    · rw [h1] at HV
      rw [h2] at HO1
      clear h1 h2 hok
      go_enter Try.func43, Try.ntmps43
      go_wp2_with fail
      refine HV.out.mono ?_
      rintro e w1 ⟨rfl, hb1⟩
      have B1 := Lib.hid (B0.out.trans (hb1.mono B0.out.size))
      have k0 := (hb1.cell (p := ⟨w.heap.size, 0, none⟩) z).trans p0
      have k1 := (hb1.cell (p := ⟨w.heap.size, 1, none⟩) z).trans p1
      clear hb1 p0 p1 p2 p3
      go_wp2_with fail
      refine (HO1.out _ B1.out).mono ?_
      rintro e w' ⟨rfl, rfl⟩
      go_wp2_with fail
      go_ret
      exact own_lit0 w w1 B1.out 3
    · rw [h1] at HV
      rw [h2] at HO1
      rw [h3] at HO2
      clear h1 h2 h3 hok
      go_enter Try.func43, Try.ntmps43
      go_wp2_with fail
      refine HV.out.mono ?_
      rintro e w1 ⟨rfl, hb1⟩
      have B1 := Lib.hid (B0.out.trans (hb1.mono B0.out.size))
      have k0 := (hb1.cell (p := ⟨w.heap.size, 0, none⟩) z).trans p0
      have k1 := (hb1.cell (p := ⟨w.heap.size, 1, none⟩) z).trans p1
      clear hb1 p0 p1 p2 p3
      go_wp2_with fail
      refine (HO1.out _ B1.out).mono ?_
      rintro e w' ⟨rfl, rfl⟩
      go_wp2_with fail
      refine (HO2.out _ B1.out).mono ?_
      rintro e w' ⟨rfl, rfl⟩
      go_wp2_with fail
      go_ret
      exact own_lit0 w w1 B1.out 3
  · have hk := hok
    unfold Cir.evalOk at hk
    simp only [Bool.and_eq_true, decide_eq_true_eq] at hk
    obtain ⟨hv, k1, k2, k3, k4⟩ := hk
    obtain ⟨d1, d2⟩ := Cir.nat_ok hv
    obtain ⟨n1, m1⟩ := Cir.tern_nats k3
    obtain ⟨n2, m2⟩ := Cir.tern_nats k4
    have hR : Cir.evalT c st inp = nats (Cir.tvals (Cir.nat c) (st.map Int.toNat) (inp.map Int.toNat)) := by unfold Cir.evalT; rw [if_pos hok]
    rw [hR]
    refine specEvalT_ok v vs vi (Cir.nat c) _ _ w (by rw [← d1]; exact h) d2 (by rw [← d1]; exact hv) (by unfold NatsAt; rw [← n1]; exact hs) (by unfold NatsAt; rw [← n2]; exact hi) ?_ ?_ m1 m2
    · rw [List.length_map]
      have e : (Cir.nat c).ins = c.ins.toNat := rfl
      omega
    · rw [List.length_map]
      have e : (Cir.nat c).next.length = c.next.length := List.length_map _
      rw [e]
      exact k1
end Go.Proofs.Ytlbfejdbfhgifaa

namespace Go.Proofs.Ytlbfejdbfhgifaa
open Go.RowKit
/-- A value of an own row of booleans, as it lies in memory. -/
theorem bools_at_own {w : World} {B n : Nat} {v : Value} {xs : List Bool} (h : w.ownsRow B 4 1 v n (bools xs)) (hn : xs.length = n) : BoolsAt w v xs := by subst hn; exact Row.of_own h
theorem boolsAt_cell {w : World} {u : Value} {xs : List Bool} {i : Nat} {b : Bool} (h : BoolsAt w u xs) (hx : xs[i]? = some b) : ∃ bb oo c, u = .slice (some ⟨bb, oo, none⟩) xs.length c ∧ bb < w.heap.size ∧ w.cell? ⟨bb, oo + i, none⟩ = some (.bool b) := by
  have hi := (List.getElem?_eq_some_iff.1 hx).1
  obtain ⟨A, c, rfl, -, -⟩ := Row.shape h
  obtain ⟨b', o', x, hA, hbl, hxx, hcell⟩ := bools_open (w := w) (wr := w) h (Below.refl _ _) (i := i) rfl hi
  subst hA
  obtain rfl : x = b := Option.some.inj (hxx.out.symm.trans hx)
  exact ⟨b', o', c, rfl, hbl, hcell⟩
end Go.Proofs.Ytlbfejdbfhgifaa

namespace Go.Proofs.Ytlbfejdbfhgifaa
open Go.RowKit
/-! Slices of slices of the call's own, whose blocks are among a set. -/
section
variable {α : Type} {enc : List α → List Value} {w w' : World} {v : Value} {xss : List (List α)}
/-- A slice of the call's own whose elements are slices of the call's own, all in blocks apart; tO and ti: the types of the cells; its blocks are among E. -/
def OwnSE (enc : List α → List Value) (tO ti : TypeId) (B : Nat) (E : Nat → Prop) (w : World) (v : Value) (xss : List (List α)) : Prop :=
  ∃ vs : List Value, vs.length = xss.length ∧ w.ownsRow B tO 1 v xss.length vs ∧ (∀ (i : Nat) (x : List α) (u : Value), xss[i]? = some x → vs[i]? = some u → w.ownsRow B ti 1 u x.length (enc x)) ∧
    vs.Pairwise Apart ∧ (∀ u ∈ vs, Apart u v) ∧ (∀ g, v.ownBlock = some g → E g) ∧ ∀ u ∈ vs, ∀ g, u.ownBlock = some g → E g
variable {tO ti : TypeId} {B : Nat} {E : Nat → Prop}
theorem OwnSE.at (h : OwnSE enc tO ti B E w v xss) : SSAt enc w v xss := by
  obtain ⟨vs, h1, h2, h3, _⟩ := h
  exact ⟨vs, h1, Row.of_own h2, fun i x u hx hu => Row.of_own (h3 i x u hx hu)⟩
theorem OwnSE.nil (enc : List α → List Value) (tO ti : TypeId) (B : Nat) (E : Nat → Prop) (w : World) : OwnSE enc tO ti B E w (.slice none 0 0) [] :=
  ⟨[], rfl, World.ownsRow_nil _ _ _ _, by simp, List.Pairwise.nil, by simp, by simp [Value.ownBlock], by simp⟩
theorem OwnSE.below (h : OwnSE enc tO ti B E w v xss) (hb : Below w.heap.size w w') : OwnSE enc tO ti B E w' v xss := by
  obtain ⟨vs, h1, h2, h3, h4⟩ := h
  exact ⟨vs, h1, own_below h2 hb, fun i x u hx hu => own_below (h3 i x u hx hu) hb, h4⟩
theorem OwnSE.mono {B' : Nat} {E' : Nat → Prop} (h : OwnSE enc tO ti B E w v xss) (hB : B' ≤ B) (hT : ∀ g, E g → E' g) : OwnSE enc tO ti B' E' w v xss := by
  obtain ⟨vs, h1, h2, h3, h4, h5, h6, h7⟩ := h
  exact ⟨vs, h1, own_mono h2 hB, fun i x u hx hu => own_mono (h3 i x u hx hu) hB, h4, h5, fun g hg => hT g (h6 g hg), fun u hu g hg => hT g (h7 u hu g hg)⟩
theorem OwnSE.only {X : Nat → Prop} (h : OwnSE enc tO ti B E w v xss) (ho : Only X w w') (hE : ∀ g, B ≤ g → E g → ¬ X g) : OwnSE enc tO ti B E w' v xss := by
  obtain ⟨vs, h1, h2, h3, h4, h5, h6, h7⟩ := h
  refine ⟨vs, h1, own_only h2 ho fun g hg => hE g (h2.lt g hg).1 (h6 g hg), fun i x u hx hu => own_only (h3 i x u hx hu) ho fun g hg => hE g ((h3 i x u hx hu).lt g hg).1 (h7 u (List.mem_of_getElem? hu) g hg), h4, h5, h6, h7⟩
/-- An element more, behind an append. -/
theorem OwnSE.snoc {v2 u : Value} {x : List α} {vs : List Value} (h1 : vs.length = xss.length) (h2 : w.ownsRow B tO 1 v2 (xss.length + 1) (vs ++ [u])) (h3 : ∀ (i : Nat) (x : List α) (u : Value), xss[i]? = some x → vs[i]? = some u → w.ownsRow B ti 1 u x.length (enc x))
    (hu : w.ownsRow B ti 1 u x.length (enc x)) (h4 : vs.Pairwise Apart) (h5 : ∀ z ∈ vs, Apart z v2) (h6 : ∀ z ∈ vs, Apart z u) (h7 : Apart u v2) (t2 : ∀ g, v2.ownBlock = some g → E g) (t1 : ∀ z ∈ vs, ∀ g, z.ownBlock = some g → E g) (t0 : ∀ g, u.ownBlock = some g → E g) :
    OwnSE enc tO ti B E w v2 (xss ++ [x]) := by
  refine ⟨vs ++ [u], by simp [h1], by simpa using h2, fun i x' u' hx' hu' => ?_, ?_, ?_, t2, ?_⟩
  · rcases Nat.lt_or_ge i xss.length with hi | hi
    · rw [List.getElem?_append_left hi] at hx'
      rw [List.getElem?_append_left (by omega)] at hu'
      exact h3 i _ _ hx' hu'
    · rw [List.getElem?_append_right hi] at hx'
      rw [List.getElem?_append_right (by omega), h1] at hu'
      rcases hj : i - xss.length with _ | j
      · rw [hj] at hx' hu'
        simp at hx' hu'
        subst hx' hu'
        exact hu
      · rw [hj] at hx'
        simp at hx'
  · rw [List.pairwise_append]
    exact ⟨h4, by simp, fun a ha b hb => by rw [List.mem_singleton.1 hb]; exact h6 a ha⟩
  · intro z hz
    rcases List.mem_append.1 hz with h | h
    · exact h5 z h
    · rw [List.mem_singleton.1 h]; exact h7
  · intro z hz
    rcases List.mem_append.1 hz with h | h
    · exact t1 z h
    · rw [List.mem_singleton.1 h]; exact t0
/-- An element of which the cells turn. -/
theorem OwnSE.update {j : Nat} {x' : List α} {vs : List Value} {u : Value} (h1 : vs.length = xss.length) (h2 : w.ownsRow B tO 1 v xss.length vs) (h3 : ∀ (i : Nat) (x : List α) (u : Value), xss[i]? = some x → vs[i]? = some u → w.ownsRow B ti 1 u x.length (enc x))
    (h4 : vs.Pairwise Apart) (h5 : ∀ u ∈ vs, Apart u v) (h6 : ∀ g, v.ownBlock = some g → E g) (h7 : ∀ u ∈ vs, ∀ g, u.ownBlock = some g → E g) (hu : vs[j]? = some u) (hg : w.grownBy w' u.ownBlock) (hx : w'.ownsRow B ti 1 u x'.length (enc x')) :
    OwnSE enc tO ti B E w' v (xss.set j x') := by
  have hum := List.mem_of_getElem? hu
  refine ⟨vs, by simp [h1], by rw [List.length_set]; exact own_kept h2 hg fun g hg' e => h5 u hum g e hg', fun i x u' hi hu' => ?_, h4, h5, h6, h7⟩
  by_cases hij : j = i
  · subst hij
    rw [hu] at hu'
    obtain rfl := Option.some.inj hu'
    rw [List.getElem?_set] at hi
    simp at hi
    obtain ⟨_, rfl⟩ := hi
    exact hx
  · rw [List.getElem?_set_ne hij] at hi
    refine own_kept (h3 i x u' hi hu') hg fun g hg' e => ?_
    have hp := List.pairwise_iff_getElem.1 h4
    obtain ⟨hjl, rfl⟩ := List.getElem?_eq_some_iff.1 hu
    obtain ⟨hil, rfl⟩ := List.getElem?_eq_some_iff.1 hu'
    rcases Nat.lt_or_ge j i with hlt | hge
    · exact hp j i hjl hil hlt g e hg'
    · exact hp i j hil hjl (by omega) g hg' e
end
theorem OwnSE.raw {α : Type} {enc : List α → List Value} {tO ti : TypeId} {B : Nat} {E : Nat → Prop} {w : World} {v : Value} {xss : List (List α)} (hl : ∀ x, (enc x).length = x.length) (h : OwnSE enc tO ti B E w v xss) : OwnSE id tO ti B E w v (xss.map enc) := by
  obtain ⟨vs, h1, h2, h3, h4⟩ := h
  refine ⟨vs, by simp [h1], by simpa using h2, fun i x u hx hu => ?_, h4⟩
  rw [List.getElem?_map] at hx
  obtain ⟨x', hx', rfl⟩ := Option.map_eq_some_iff.1 hx
  rw [hl]
  exact h3 i x' u hx' hu
/-- A row more, behind an append. -/
theorem se_append {α : Type} {enc : List α → List Value} {tO ti : TypeId} {B : Nat} {E : Nat → Prop} {w w' : World} {v v' u : Value} {x : List α} {xss : List (List α)} {vs : List Value}
    (q1 : vs.length = xss.length) (q3 : ∀ (i : Nat) (x : List α) (u : Value), xss[i]? = some x → vs[i]? = some u → w.ownsRow B ti 1 u x.length (enc x)) (q4 : vs.Pairwise Apart) (q5 : ∀ u ∈ vs, Apart u v) (q6 : ∀ g, v.ownBlock = some g → E g) (q7 : ∀ u ∈ vs, ∀ g, u.ownBlock = some g → E g)
    (hu : w.ownsRow B ti 1 u x.length (enc x)) (hne : ∀ g, u.ownBlock = some g → ¬ E g) (hown : w'.ownsRow B tO 1 v' (xss.length + 1) (vs ++ [u])) (hg : w.grownBy w' v.ownBlock) (hat : v'.ownBlock = v.ownBlock ∨ v'.ownBlock = some w.heap.size) :
    OwnSE enc tO ti B (fun g => E g ∨ u.ownBlock = some g ∨ v'.ownBlock = some g) w' v' (xss ++ [x]) := by
  have hvs : ∀ z ∈ vs, ∀ g, z.ownBlock = some g → g < w.heap.size := fun z hz g hg => by
    obtain ⟨i, hi, rfl⟩ := List.mem_iff_getElem.1 hz
    exact ((q3 i _ _ (List.getElem?_eq_getElem (by omega)) (List.getElem?_eq_getElem hi)).lt g hg).2
  have huv : Apart u v' := fun g h1 h2 => by
    rcases hat with e | e
    · rw [e] at h2
      exact hne g h1 (q6 g h2)
    · rw [e] at h2
      have h3 := (hu.lt g h1).2
      have h4 := Option.some.inj h2
      omega
  have hzv : ∀ z ∈ vs, Apart z v' := fun z hz g h1 h2 => by
    rcases hat with e | e
    · rw [e] at h2
      exact q5 z hz g h1 h2
    · rw [e] at h2
      have h3 := hvs z hz g h1
      have h4 := Option.some.inj h2
      omega
  refine OwnSE.snoc (vs := vs) q1 hown (fun i x' u' hx hu' => own_kept (q3 i x' u' hx hu') hg fun g h1 h2 => q5 u' (List.mem_of_getElem? hu') g h1 h2) (own_kept hu hg fun g h1 h2 => hne g h1 (q6 g h2)) q4 hzv (fun z hz g h1 h2 => hne g h2 (q7 z hz g h1)) huv (fun g h => .inr (.inr h)) (fun z hz g h => .inl (q7 z hz g h)) (fun g h => .inr (.inl h))
theorem apart_new {w : World} {v v' u : Value} (h : Apart v u) (hat : v'.ownBlock = v.ownBlock ∨ v'.ownBlock = some w.heap.size) (hu : ∀ g, u.ownBlock = some g → g < w.heap.size) : Apart v' u := fun g h1 h2 => by
  rcases hat with e | e
  · rw [e] at h1
    exact h g h1 h2
  · rw [e] at h1
    have h3 := hu g h2
    have h4 := Option.some.inj h1
    omega
theorem OwnSS.se {α : Type} {enc : List α → List Value} {tO ti : TypeId} {B T : Nat} {w : World} {v : Value} {xss : List (List α)} (h : OwnSS enc tO ti B T w v xss) : OwnSE enc tO ti B (fun g => B ≤ g ∧ g < T) w v xss := by
  obtain ⟨vs, h1, h2, h3, h4, h5, h6, h7⟩ := h
  refine ⟨vs, h1, h2, h3, h4, h5, fun g hg => ⟨(h2.lt g hg).1, h6 g hg⟩, fun u hu g hg => ⟨?_, h7 u hu g hg⟩⟩
  obtain ⟨i, hi, rfl⟩ := List.mem_iff_getElem.1 hu
  exact ((h3 i _ _ (List.getElem?_eq_getElem (by omega)) (List.getElem?_eq_getElem hi)).lt g hg).1
end Go.Proofs.Ytlbfejdbfhgifaa

namespace Go.Proofs.Ytlbfejdbfhgifaa
open Go.RowKit Go.Maps
set_option maxRecDepth 100000
/-! Sets of natural numbers: maps of int to bool that the call has made, and in which only 'true' is stored. -/
theorem set_keyed : Keyed Try.prog 3 := int_keyed Try.underlying3
/-- Block b is a map of at most n entries; the elements are those of S. -/
def SetAt (w : World) (b n : Nat) (S : Nat → Bool) : Prop := ∃ D : DataW Unit, w.ownsMap Try.prog 3 (plainElem Try.prog 4) b n D ∧ IsMap D ∧ (∀ x : Nat, D.atKey (.int .i64 (x : Int)) (.lit (.bool false)) = .lit (.bool (S x))) ∧ (∀ kl, Maps.has D kl = true → ∃ x : Nat, kl = .int .i64 (x : Int) ∧ S x = true ∧ (x : Int) ≤ 9223372036854775807) ∧ ∀ x : Nat, S x = true → Maps.has D (.int .i64 (x : Int)) = true
theorem SetAt.lt {w : World} {b n : Nat} {S : Nat → Bool} (h : SetAt w b n S) : b < w.heap.size := by
  obtain ⟨D, h1, _⟩ := h
  exact h1.lt
theorem SetAt.only {E : Nat → Prop} {w w' : World} {b n : Nat} {S : Nat → Bool} (h : SetAt w b n S) (ho : Only E w w') (hE : ¬ E b) : SetAt w' b n S := by
  have hl := h.lt
  obtain ⟨D, ⟨es, clock, h1, h2, h3, h4⟩, h5⟩ := h
  exact ⟨D, ⟨es, clock, (ho.block b hl hE).trans h1, h2, h3, h4⟩, h5⟩
theorem SetAt.below {w w' : World} {b n : Nat} {S : Nat → Bool} (h : SetAt w b n S) (hb : Below w.heap.size w w') : SetAt w' b n S :=
  h.only (E := fun _ => False) ⟨hb.os, hb.tape, hb.output, hb.size, fun k hk _ => hb.block k hk⟩ id
theorem SetAt.mono {w : World} {b n n' : Nat} {S : Nat → Bool} (h : SetAt w b n S) (hn : n ≤ n') : SetAt w b n' S := by
  obtain ⟨D, h1, h2⟩ := h
  exact ⟨D, h1.mono hn, h2⟩
theorem SetAt.congr {w : World} {b n : Nat} {S S' : Nat → Bool} (h : SetAt w b n S) (he : ∀ x, S x = S' x) : SetAt w b n S' := by
  rwa [← funext he]
theorem setAt_made (w : World) : SetAt (w.alloc (.map #[] 0)) w.heap.size 0 (fun _ => false) :=
  ⟨.map [], World.ownsMap_made w _ _ _, isMap_empty, fun x => rfl, fun kl h => (by cases h), fun x h => (by cases h)⟩
theorem i64_wf {x : Nat} (h : (x : Int) ≤ 9223372036854775807) : (Lit.int .i64 (x : Int)).wf = true := by
  simp [Lit.wf, IntKind.min, IntKind.max, IntKind.signed, IntKind.bits]
  omega
theorem i64_ne {x y : Nat} (h : x ≠ y) : Lit.int .i64 (x : Int) ≠ Lit.int .i64 (y : Int) := by
  intro e
  injection e with e1 e2
  exact h (by omega)
section
variable (w : World) {ops : Array Oper} {rest : List Oper} {o : Oper} {a : Act} {Q : Exit → Act → World → Prop}
theorem zero_bool (w : World) : (zeroValue 4).run Try.prog w = .ok (.bool false) w := by kernel_rfl
/-- seen[x] -/
theorem wpList_look_set (hg : o.guard = none) (m x : Operand) (hop : o.op = Op.lookup 138 m x false) (b n : Nat) (S : Nat → Bool) (hm : a.eval m = .map (some b)) (h : SetAt w b n S) (k : Nat) (hk : (k : Int) ≤ 9223372036854775807) (hx : a.eval x = .int .i64 (k : Int))
    (hK : wpList Try.prog ops Q rest (a.put o.dst (.bool (S k))) w) : wpList Try.prog ops Q (o :: rest) a w := by
  refine wpList_plain hg fun K' hK' => ?_
  obtain ⟨D, h1, h2, h3, -⟩ := h
  obtain ⟨v, ps, hrun, hv⟩ := h1.lookup set_keyed Try.underlying138 (zero_bool w) (plainElem_bool Try.underlying4 false) (keyOf_int_mk Try.underlying3 (i64_wf hk))
  rw [h3 k] at hv
  have hvb : v = .bool (S k) := by
    unfold plainElem at hv
    rw [Try.underlying4] at hv
    cases v <;> simp at hv
    rw [hv.1]
  subst hvb
  unfold Oper.wp
  simp [execOp, hop, hm, hx, hrun, Result.andThen]
  exact hK' _ _ hK
/-- seen[x] = true -/
theorem wpList_add_set (hg : o.guard = none) (m x v : Operand) (hop : o.op = Op.mapUpdate 138 m x v ∨ o.op = Op.insert 138 m x v) (b n : Nat) (S : Nat → Bool) (hm : a.eval m = .map (some b)) (h : SetAt w b n S) (hn : n ≤ 1000000) (k : Nat) (hk : (k : Int) ≤ 9223372036854775807) (hx : a.eval x = .int .i64 (k : Int)) (hv : a.eval v = .bool true)
    (hK : ∀ w', SetAt w' b (n + 1) (fun z => S z || z == k) → w.grownBy w' (some b) → wpList Try.prog ops Q rest (a.put o.dst undef) w') : wpList Try.prog ops Q (o :: rest) a w := by
  refine wpList_plain hg fun K' hK' => ?_
  obtain ⟨D, h1, h2, h3, h4, h5⟩ := h
  have hkey := keyOf_int_mk (P := Try.prog) Try.underlying3 (i64_wf hk)
  obtain ⟨w', hrun, r1, r2⟩ := h1.update set_keyed Try.underlying138 (by unfold maxLen; omega) hkey (plainElem_bool Try.underlying4 true)
  have hlit : WideAt.IsKeyLit (.int .i64 (k : Int)) := set_keyed.key hkey
  unfold Oper.wp
  have hq : SetAt w' b (n + 1) (fun z => S z || z == k) := by
    refine ⟨_, r1, h2.put _ _, fun x => ?_, fun kl hh => ?_, fun x hS => ?_⟩
    · by_cases hxk : x = k
      · subst hxk
        rw [atKey_put_same h2 hlit]
        simp
      · rw [atKey_put_other (i64_ne hxk), h3 x]
        have : (x == k) = false := by simpa using hxk
        simp [this]
    · by_cases hkl : kl = .int .i64 (k : Int)
      · exact ⟨k, hkl, by simp, hk⟩
      · rw [has_put_other hkl] at hh
        obtain ⟨x, e1, e2, e3⟩ := h4 kl hh
        exact ⟨x, e1, by simp [e2], e3⟩
    · by_cases hxk : x = k
      · subst hxk
        exact has_put_same h2 hlit _
      · rw [has_put_other (i64_ne hxk)]
        have h6 : (x == k) = false := by simpa using hxk
        simp [h6] at hS
        exact h5 x hS
  have hw2 := hK w' hq r2
  rcases hop with hop | hop
  · simp [execOp, hop, hm, hx, hv, hrun, Result.andThen]
    exact hK' _ _ hw2
  · simp [execOp, hop, hm, hx, hv, hrun, Result.andThen]
    exact hK' _ _ hw2
end
end Go.Proofs.Ytlbfejdbfhgifaa

namespace Go.Proofs.Ytlbfejdbfhgifaa
open Go.RowKit
set_option maxRecDepth 100000
/-! Slices of slices of ints. -/
theorem info_ints : (Try.prog.info? 22).map (fun i => (i.zero, i.size, i.bytes)) = some (some (.slice none 0 0), 1, 24) := by kernel_rfl
def OwnIntSS (B T : Nat) (w : World) (v : Value) (xss : List (List Int)) : Prop := OwnSS ints 22 3 B T w v xss
end Go.Proofs.Ytlbfejdbfhgifaa
