import Derived.Test.YtopimdakpnnbhaaS03
import Derived.Test.YtopimdakpnnbhaaS02
import Derived.Test.YtopimdakpnnbhaaS01
import Derived.Test.YtopimdakpnnbhaaS06
import Derived.Test.YtopimdakpnnbhaaS08
import Derived.Test.YtopimdakpnnbhaaS04
import Derived.Test.YtopimdakpnnbhaaS07
import Derived.Test.YtopimdakpnnbhaaS05
set_option linter.unusedVariables false
set_option linter.unusedSimpArgs false
namespace Go.Proofs.Ytopimdakpnnbhaa
namespace Cir
/-! Static hazards, plainly. -/
def tbits (x n : Nat) : List Nat := (bits x n).map Bool.toNat
/-- The ternary values of all variables for assignment x with input k unknown. -/
def hzV (c : Ci) (x k : Nat) : List Nat := tvals c (tbits (x / 2 ^ c.ins) c.next.length) ((tbits x c.ins).set k 2)
/-- The outputs for an assignment. -/
def outsA (c : Ci) (x : Nat) : List Bool := lits (vals c (bits (x / 2 ^ c.ins) c.next.length) (bits x c.ins)) c.outs
def hz (c : Ci) (x k o : Nat) : Bool := (outsA c x).getD o false == (outsA c (x + 2 ^ k)).getD o false && tlit (hzV c x k) (c.outs.getD o 0) == 2
def hzO (c : Ci) (x k : Nat) : Nat → List (Nat × Nat × Nat)
  | 0 => []
  | o + 1 => hzO c x k o ++ if hz c x k o then [(x, x + 2 ^ k, o)] else []
def hzK (c : Ci) (x : Nat) : Nat → List (Nat × Nat × Nat)
  | 0 => []
  | k + 1 => hzK c x k ++ if x.testBit k then [] else hzO c x k c.outs.length
def hzX (c : Ci) : Nat → List (Nat × Nat × Nat)
  | 0 => []
  | x + 1 => hzX c x ++ hzK c x c.ins
def hazards (c : Ci) : List (Nat × Nat × Nat) := hzX c (2 ^ (c.ins + c.next.length))
theorem hzO_len (c : Ci) (x k : Nat) : ∀ o, (hzO c x k o).length ≤ o
  | 0 => by simp [hzO]
  | o + 1 => by
    have := hzO_len c x k o
    rw [hzO, List.length_append]
    split <;> simp <;> omega
theorem hzK_len (c : Ci) (hc : Ok c) (x : Nat) : ∀ k, (hzK c x k).length ≤ 3 * k
  | 0 => by simp [hzK]
  | k + 1 => by
    have := hzK_len c hc x k
    have h2 := hzO_len c x k c.outs.length
    have h3 := hc.outss
    rw [hzK, List.length_append]
    split <;> simp <;> omega
theorem hzX_len (c : Ci) (hc : Ok c) : ∀ x, (hzX c x).length ≤ 12 * x
  | 0 => by simp [hzX]
  | x + 1 => by
    have := hzX_len c hc x
    have h2 := hzK_len c hc x c.ins
    have h3 := hc.ins
    rw [hzX, List.length_append]
    omega
theorem or_bit_small : ∀ x, x < 128 → ∀ k, k < 4 → x.testBit k = false → x ||| 2 ^ k = x + 2 ^ k := by decide +kernel
theorem or_bit {x k : Nat} (hx : x < 128) (hk : k < 4) (h : x.testBit k = false) : x ||| 2 ^ k = x + 2 ^ k := or_bit_small x hx k hk h
end Cir
theorem hz_no1 {p q r : Bool} (h : r = (p && q)) (hp : p = false) : r = false := by rw [h, hp]; rfl
theorem hz_no2 {p q r : Bool} (h : r = (p && q)) (hq : q = false) : r = false := by rw [h, hq]; cases p <;> rfl
theorem hz_yes {p q r : Bool} (h : r = (p && q)) (hp : p = true) (hq : q = true) : r = true := by rw [h, hp, hq]; rfl
end Go.Proofs.Ytopimdakpnnbhaa

namespace Go.Proofs.Ytopimdakpnnbhaa
open Go.RowKit
set_option maxRecDepth 100000
/-! Slices of hazards (three ints). -/
def trips (ks : List (Nat × Nat × Nat)) : List Value := ks.flatMap fun k => [.int .i64 k.1, .int .i64 k.2.1, .int .i64 k.2.2]
theorem trips_length (ks : List (Nat × Nat × Nat)) : (trips ks).length = ks.length * 3 := by
  induction ks with
  | nil => rfl
  | cons k ks ih => simp [trips] at ih ⊢; omega
theorem trips_append (a b : List (Nat × Nat × Nat)) : trips (a ++ b) = trips a ++ trips b := by simp [trips]
theorem trips_snoc' (Y Z : List (Nat × Nat × Nat)) (q : Nat × Nat × Nat) : trips (Y ++ (Z ++ [q])) = trips (Y ++ Z) ++ [.int .i64 q.1, .int .i64 q.2.1, .int .i64 q.2.2] := by simp [trips]
theorem len_snoc' (Y Z : List (Nat × Nat × Nat)) (q : Nat × Nat × Nat) : (Y ++ (Z ++ [q])).length = (Y ++ Z).length + 1 := by simp; omega
theorem trips_get {ks : List (Nat × Nat × Nat)} {i : Nat} {k : Nat × Nat × Nat} (h : ks[i]? = some k) : (trips ks)[i * 3]? = some (.int .i64 k.1) ∧ (trips ks)[i * 3 + 1]? = some (.int .i64 k.2.1) ∧ (trips ks)[i * 3 + 2]? = some (.int .i64 k.2.2) := by
  induction ks generalizing i with
  | nil => simp at h
  | cons a ks ih =>
    cases i with
    | zero =>
      have : a = k := by simpa using h
      subst this
      simp [trips]
    | succ i =>
      have := ih (i := i) (by simpa using h)
      have e : (i + 1) * 3 = i * 3 + 1 + 1 + 1 := by omega
      rw [e]
      simpa [trips] using this
def TripsAt (w : World) (v : Value) (ks : List (Nat × Nat × Nat)) : Prop := Row w 3 v ks.length (trips ks)
theorem trips_open {w wr : World} {A : Option Addr} {n c : Nat} {ks : List (Nat × Nat × Nat)} (h : Row w 3 (.slice A n c) n (trips ks)) (hb : Below w.heap.size w wr) {i : Nat} (hn : n = ks.length) (hi : i < ks.length) :
    ∃ b o k, A = some ⟨b, o, none⟩ ∧ b < w.heap.size ∧ Hid (ks[i]? = some k) ∧ wr.cell? ⟨b, o + i * 3, none⟩ = some (.int .i64 k.1) ∧ wr.cell? ⟨b, o + i * 3 + 1, none⟩ = some (.int .i64 k.2.1) ∧ wr.cell? ⟨b, o + i * 3 + 2, none⟩ = some (.int .i64 k.2.2) := by
  subst hn
  obtain ⟨b, o, c', hv, _, _, hbl, hcell⟩ := h.open (by omega)
  obtain ⟨rfl, _⟩ : A = some ⟨b, o, none⟩ ∧ True := by injection hv with e1; exact ⟨e1, trivial⟩
  obtain ⟨k, hk⟩ := at_some hi
  obtain ⟨h1, h2, h3⟩ := trips_get hk
  refine ⟨b, o, k, rfl, hbl, Lib.hid hk, (hb.cell (p := ⟨b, _, none⟩) hbl).trans (hcell _ _ h1), ?_, ?_⟩
  · rw [Nat.add_assoc]
    exact (hb.cell (p := ⟨b, _, none⟩) hbl).trans (hcell _ _ h2)
  · rw [Nat.add_assoc]
    exact (hb.cell (p := ⟨b, _, none⟩) hbl).trans (hcell _ _ h3)
theorem info_haz : (Try.prog.info? 61).map (fun i => (i.zero, i.size, i.bytes)) = some (some (.agg #[.int .i64 0, .int .i64 0, .int .i64 0]), 3, 24) := by kernel_rfl
/-- What marking a slice comes to. -/
def MarkedHaz (B : Nat) (v : Value) (n k : Nat) (w : World) (e : Ending) (w' : World) : Prop :=
  e = .returned (.int .i64 ((k + n * 3 : Nat) : Int)) ∧ w'.ownsRow B 61 3 v n (runI k (n * 3)) ∧ w.grownBy w' v.ownBlock
end Go.Proofs.Ytopimdakpnnbhaa

namespace Go.Proofs.Ytopimdakpnnbhaa
open Go.RowKit
set_option maxRecDepth 100000
/-! The value of a literal for an assignment. -/
def Cir.litA (d : Ci) (l x : Nat) : Bool := Cir.lit (Cir.vals d (Cir.bits (x / 2 ^ d.ins) d.next.length) (Cir.bits x d.ins)) l
set_option maxHeartbeats 4000000 in
theorem litValue_ok (v : Value) (d : Ci) (l x : Nat) (w : World) (h : CircAt w v (Cir.toCz d)) (hd : Cir.Ok d) (hv : Cir.valid (Cir.toCz d) = true) (hl : l < 2 * Cir.nvars d) (hx : x ≤ 1000000) :
    Calls Try.prog 43 #[v, .int .i64 l, .int .i64 x] w fun e w' => e = .returned (.bool (Cir.litA d l x)) ∧ Below w.heap.size w w' := by
  have l1 := hd.ins
  have l2 := hd.nexts
  have l3 := hd.gatess
  have hnv : Cir.nvars d ≤ 22 := by unfold Cir.nvars Cir.nfirst; omega
  have HC := Lib.hid h
  obtain ⟨vn, vg, vo, rfl, r1, r2, r3⟩ := h
  obtain ⟨An, cn, rfl, hcn, hcmn⟩ := NatsAt.shape (xs := d.next) r1
  have hins : (Cir.toCz d).ins = (d.ins : Int) := rfl
  rw [hins] at HC ⊢
  have hb0 := bel_new w (.cells #[.int .i64 d.ins, .slice An d.next.length cn, vg, vo] 26)
  have HC0 := Lib.hid (HC.out.below hb0)
  have PC := Lib.hid (PCells.boxed w d.ins (.slice An d.next.length cn) vg vo 26)
  have B := Lib.hid hb0
  have Hd := Lib.hid hd
  have Hv := Lib.hid hv
  have hq : (x : Int) / 2 ^ d.ins = ((x / 2 ^ d.ins : Nat) : Int) := by rw [Int.natCast_ediv, two_pow]
  have hxq : x / 2 ^ d.ins ≤ 1000000 := Nat.le_trans (Nat.div_le_self _ _) hx
  obtain ⟨R, hR⟩ : ∃ R, Cir.litA d l x = R := ⟨_, rfl⟩
  have HR : Hid (Cir.lit (Cir.vals d (Cir.bits (x / 2 ^ d.ins) d.next.length) (Cir.bits x d.ins)) l = R) := Lib.hid hR
  rw [hR]
  obtain ⟨xq, hxqe⟩ : ∃ xq, x / 2 ^ d.ins = xq := ⟨_, rfl⟩
  rw [hxqe] at hq hxq HR
  have HVL := Lib.hid (Cir.vals_length d (st := Cir.bits xq d.next.length) (inp := Cir.bits x d.ins) (Cir.bits_length _ _) (Cir.bits_length _ _))
  clear r1 r2 r3 hd hv hb0 hcn hcmn hins hxqe hR HC
  go_enter Try.func43, Try.ntmps43
  go_wp2_with fail
  generalize w.alloc (.cells #[.int .i64 d.ins, .slice An d.next.length cn, vg, vo] 26) = W at *
  obtain ⟨z, p0, p1, p2, p3⟩ := PC.out
  refine wp_region_rs (quietRS Try.prog _ W _) quietRS_ok (by kernel_rfl) (by kernel_rfl) (by kernel_rfl) (Nat.le_of_ble_eq_true rfl) trivial trivial ?_
  apply rs_eq quietRS_ok quiet_any
  · intro ρ w' ho hK
    have ho : Only _ W w' := ho
    obtain ⟨h0, -⟩ := hK
    have h0' : ρ (.tmp 3) = _ := h0
    have hb := only_below ho
    have q0 := (hb.cell (p := ⟨w.heap.size, 0, none⟩) z).trans p0
    have q1 := (hb.cell (p := ⟨w.heap.size, 1, none⟩) z).trans p1
    have q2 := (hb.cell (p := ⟨w.heap.size, 2, none⟩) z).trans p2
    have q3 := (hb.cell (p := ⟨w.heap.size, 3, none⟩) z).trans p3
    go_simp
    try exact rfl
  refine rs_old quietRS_ok quiet_any _ (.inl rfl) _ rfl rfl ?_
  apply rs_eq quietRS_ok quiet_any
  · intro ρ w' ho hK
    have ho : Only _ W w' := ho
    obtain ⟨h0, -⟩ := hK
    have h0' : ρ (.tmp 3) = _ := h0
    go_simp
    try exact rfl
  apply rs_eq quietRS_ok quiet_any
  · intro ρ w' ho hK
    have ho : Only _ W w' := ho
    obtain ⟨h0, -⟩ := hK
    have h0' : ρ (.tmp 10) = _ := h0
    have hb := only_below ho
    have q0 := (hb.cell (p := ⟨w.heap.size, 0, none⟩) z).trans p0
    have q1 := (hb.cell (p := ⟨w.heap.size, 1, none⟩) z).trans p1
    have q2 := (hb.cell (p := ⟨w.heap.size, 2, none⟩) z).trans p2
    have q3 := (hb.cell (p := ⟨w.heap.size, 3, none⟩) z).trans p3
    go_simp
    try exact rfl
  apply rs_eq quietRS_ok quiet_any
  · intro ρ w' ho hK
    have ho : Only _ W w' := ho
    obtain ⟨h0, h1, -⟩ := hK
    have h0' : ρ (.tmp 9) = _ := h0
    have h1' : ρ (.tmp 11) = _ := h1
    go_simp
    try exact rfl
  apply rs_eq quietRS_ok quiet_any
  · intro ρ w' ho hK
    have ho : Only _ W w' := ho
    obtain ⟨h0, -⟩ := hK
    have h0' : ρ (.tmp 3) = _ := h0
    go_simp
    try exact rfl
  apply rs_eq quietRS_ok quiet_any
  · intro ρ w' ho hK
    have ho : Only _ W w' := ho
    obtain ⟨h0, -⟩ := hK
    have h0' : ρ (.tmp 13) = _ := h0
    have hb := only_below ho
    have q0 := (hb.cell (p := ⟨w.heap.size, 0, none⟩) z).trans p0
    have q1 := (hb.cell (p := ⟨w.heap.size, 1, none⟩) z).trans p1
    have q2 := (hb.cell (p := ⟨w.heap.size, 2, none⟩) z).trans p2
    have q3 := (hb.cell (p := ⟨w.heap.size, 3, none⟩) z).trans p3
    go_simp
    try exact rfl
  apply rs_eq quietRS_ok quiet_any
  · intro ρ w' ho hK
    have ho : Only _ W w' := ho
    obtain ⟨h0, -⟩ := hK
    have h0' : ρ (.tmp 14) = _ := h0
    go_simp
    try exact rfl
  refine rs_call quietRS_ok quiet_any (TBools (Cir.bits xq d.next.length)) (stb_bools _) 21 _ _ rfl (fun ρ w' ho hK => by
    have ho : Only _ W w' := ho
    obtain ⟨h0, h1, h2, -⟩ := hK
    have h0' : ρ (.func 21) = .func (.func 21) #[] #[] := h0
    have h1' : ρ (.tmp 12) = _ := h1
    have h2' : ρ (.tmp 15) = _ := h2
    refine ⟨#[ρ (.tmp 12), ρ (.tmp 15)], ?_, ?_⟩
    · go_simp
    · rw [h1', h2']
      refine (bits_any xq d.next.length w' (by omega) (by omega)).mono ?_
      rintro e w2 ⟨v2, rfl, hO, hb⟩
      exact ⟨v2, rfl, Row.of_own hO, hb⟩) ?_
  refine rs_old quietRS_ok quiet_any _ (.inl rfl) _ rfl rfl ?_
  apply rs_eq quietRS_ok quiet_any
  · intro ρ w' ho hK
    have ho : Only _ W w' := ho
    obtain ⟨h0, -⟩ := hK
    have h0' : ρ (.tmp 3) = _ := h0
    go_simp
    try exact rfl
  apply rs_eq quietRS_ok quiet_any
  · intro ρ w' ho hK
    have ho : Only _ W w' := ho
    obtain ⟨h0, -⟩ := hK
    have h0' : ρ (.tmp 18) = _ := h0
    have hb := only_below ho
    have q0 := (hb.cell (p := ⟨w.heap.size, 0, none⟩) z).trans p0
    have q1 := (hb.cell (p := ⟨w.heap.size, 1, none⟩) z).trans p1
    have q2 := (hb.cell (p := ⟨w.heap.size, 2, none⟩) z).trans p2
    have q3 := (hb.cell (p := ⟨w.heap.size, 3, none⟩) z).trans p3
    go_simp
    try exact rfl
  refine rs_call quietRS_ok quiet_any (TBools (Cir.bits x d.ins)) (stb_bools _) 21 _ _ rfl (fun ρ w' ho hK => by
    have ho : Only _ W w' := ho
    obtain ⟨h0, h1, h2, -⟩ := hK
    have h0' : ρ (.func 21) = .func (.func 21) #[] #[] := h0
    have h1' : ρ (.tmp 17) = _ := h1
    have h2' : ρ (.tmp 19) = _ := h2
    refine ⟨#[ρ (.tmp 17), ρ (.tmp 19)], ?_, ?_⟩
    · go_simp
    · rw [h1', h2']
      refine (bits_any x d.ins w' (by omega) (by omega)).mono ?_
      rintro e w2 ⟨v2, rfl, hO, hb⟩
      exact ⟨v2, rfl, Row.of_own hO, hb⟩) ?_
  refine rs_call quietRS_ok quiet_any (TBools (Cir.vals d (Cir.bits xq d.next.length) (Cir.bits x d.ins))) (stb_bools _) 20 _ _ rfl (fun ρ w' ho hK => by
    have ho : Only _ W w' := ho
    obtain ⟨h0, h1, h2, h3, -⟩ := hK
    have h0' : ρ (.func 20) = .func (.func 20) #[] #[] := h0
    have h1' : ρ (.tmp 8) = _ := h1
    have h2' : (TBools (Cir.bits xq d.next.length)) w' (ρ (.tmp 16)) := h2
    have h3' : (TBools (Cir.bits x d.ins)) w' (ρ (.tmp 20)) := h3
    refine ⟨#[ρ (.tmp 8), ρ (.tmp 16), ρ (.tmp 20)], ?_, ?_⟩
    · go_simp
    · rw [h1']
      refine (evalVars_ok _ _ _ d _ _ w' (HC0.out.below (only_below ho)) Hd.out Hv.out h2' h3' (Cir.bits_length _ _) (Cir.bits_length _ _)).mono ?_
      rintro e w2 ⟨v2, rfl, hO, hb⟩
      exact ⟨v2, rfl, Row.of_own hO, hb⟩) ?_
  refine rs_same quietRS_ok quiet_any 21 13 (.inr rfl) rfl _ rfl ?_
  intro f w9 k9 hk9 hI9 ht9 hcp9
  have E0 : f 0 = _ := ht9 0 (Nat.le_of_ble_eq_true rfl)
  have E1 : f 1 = _ := ht9 1 (Nat.le_of_ble_eq_true rfl)
  conv at E1 => rhs; whnf
  have E2 : f 2 = _ := ht9 2 (Nat.le_of_ble_eq_true rfl)
  have E3 : f 3 = _ := ht9 3 (Nat.le_of_ble_eq_true rfl)
  have E4 : f 4 = _ := ht9 4 (Nat.le_of_ble_eq_true rfl)
  have E5 : f 5 = _ := ht9 5 (Nat.le_of_ble_eq_true rfl)
  have E6 : f 6 = _ := ht9 6 (Nat.le_of_ble_eq_true rfl)
  have E7 : f 7 = _ := ht9 7 (Nat.le_of_ble_eq_true rfl)
  have E8 : (TBools (Cir.bits xq d.next.length)) w9 (f 8) := ht9 8 (Nat.le_of_ble_eq_true rfl)
  have E9 : f 9 = _ := ht9 9 (Nat.le_of_ble_eq_true rfl)
  conv at E9 => rhs; whnf
  have E10 : f 10 = _ := ht9 10 (Nat.le_of_ble_eq_true rfl)
  have E11 : f 11 = _ := ht9 11 (Nat.le_of_ble_eq_true rfl)
  have E12 : (TBools (Cir.bits x d.ins)) w9 (f 12) := ht9 12 (Nat.le_of_ble_eq_true rfl)
  have E13 : (TBools (Cir.vals d (Cir.bits xq d.next.length) (Cir.bits x d.ins))) w9 (f 13) := ht9 13 (Nat.le_of_ble_eq_true rfl)
  have E14 : (TBools (Cir.vals d (Cir.bits xq d.next.length) (Cir.bits x d.ins))) w9 (f 14) := ht9 14 (Nat.le_of_ble_eq_true rfl)
  have Ho9 : Only _ W w9 := hI9.2.1
  have C14 : f 14 = f 13 := (hcp9 14 _ 21 13 rfl rfl rfl rfl).2
  simp only [putAll, E0, E1, E2, E3, E4, E5, E6, E7, E9, E10, E11, C14, Nat.zero_add, Nat.reduceAdd, Act.put, List.setIfInBounds_toArray, List.set_cons_succ, List.set_cons_zero]
  clear E0 E1 E2 E3 E4 E5 E6 E7 E9 E10 E11
  clear hI9 ht9 hcp9 hk9
  generalize f 8 = r8 at *
  generalize f 12 = r12 at *
  generalize f 13 = r13 at *
  have hb9 := only_below Ho9
  replace B := Lib.hid (B.out.trans (hb9.mono B.out.size))
  have HB9 := Lib.hid (show BoolsAt w9 r13 (Cir.vals d (Cir.bits xq d.next.length) (Cir.bits x d.ins)) from E13)
  clear hb9 Ho9 E8 E12 E13 z p0 p1 p2 p3 PC HC0 hq
  obtain ⟨V, hV⟩ : ∃ V, Cir.vals d (Cir.bits xq d.next.length) (Cir.bits x d.ins) = V := ⟨_, rfl⟩
  rw [hV] at HB9 HVL HR
  have hi : l / 2 < V.length := by rw [HVL.out]; omega
  obtain ⟨u, hu⟩ : ∃ u, V[l / 2]? = some u := ⟨_, List.getElem?_eq_getElem hi⟩
  have HL : Hid (R = (u != (l % 2 == 1))) := Lib.hid (HR.out.symm.trans (lit_of hu))
  obtain ⟨b, o, c', rfl, hbl, hs⟩ := boolsAt_cell HB9.out hu
  have hqd : (l : Int).tdiv 2 = ((l / 2 : Nat) : Int) := by rw [Int.tdiv_eq_ediv_of_nonneg (by omega)]; omega
  have hm := tmod_two l
  have he : (((l % 2 : Nat) : Int) == 1) = (l % 2 == 1) := by
    rw [Bool.eq_iff_iff, beq_iff_eq, beq_iff_eq]
    omega
  have hqb : l / 2 ≤ 1000000 := by omega
  clear hV hu HB9 HVL HR
  generalize V.length = n at *
  generalize l / 2 = q at *
  generalize l % 2 = r at *
  have hwr : IntKind.i64.wrap (q : Int) = q := IntWalk.i64_in _ (by omega)
  obtain ⟨bb, hbb⟩ : ∃ bb, (r == 1) = bb := ⟨_, rfl⟩
  rw [hbb] at he HL
  clear hbb
  go_wp2_with fail
  go_ret
  exact ⟨ret_bool HL.out.symm, B.out⟩
end Go.Proofs.Ytopimdakpnnbhaa

namespace Go.Proofs.Ytopimdakpnnbhaa
open Go.RowKit
set_option maxRecDepth 100000
/-! Hazards: the small functions. -/
namespace Cir
def valsA (d : Ci) (x : Nat) : List Bool := vals d (bits (x / 2 ^ d.ins) d.next.length) (bits x d.ins)
theorem valsA_length (d : Ci) (x : Nat) : (valsA d x).length = nvars d := vals_length d (bits_length _ _) (bits_length _ _)
theorem outsA_drop (d : Ci) (x : Nat) : (lits (valsA d x) (d.next ++ d.outs)).drop d.next.length = outsA d x := by
  unfold lits outsA lits
  rw [List.map_append]
  have : (d.next.map (lit (valsA d x))).length = d.next.length := by simp
  exact List.drop_left' this
theorem outsA_length (d : Ci) (x : Nat) : (outsA d x).length = d.outs.length := by unfold outsA lits; simp
end Cir
theorem run_tail {w : World} {A : Option Addr} {n c : Nat} {xs : List Bool} {k : Nat} (h : BoolsAt w (.slice A n c) xs) (hn : xs.length = n) (hk : k ≤ n) : BoolsAt w (sliced A k n c 1) (xs.drop k) := by
  subst hn
  obtain ⟨-, A', c', e, h1, h2, h3⟩ := h
  injection e with e1 _ e3
  subst e1 e3
  refine ⟨by rw [bools_length, Nat.mul_one], if c = k then A else A.map (·.add (k * 1)), c - k, ?_, by rw [List.length_drop]; omega, by omega, fun h0 => ?_⟩
  · unfold sliced; rw [List.length_drop]
  · rw [List.length_drop] at h0
    obtain ⟨b, o, rfl, hb, hc⟩ := h3 (by omega)
    refine ⟨b, o + k, ?_, hb, fun j u hj => ?_⟩
    · rw [if_neg (by omega)]; simp [Addr.add]
    · rw [Nat.add_assoc]
      exact hc (k + j) u (by rw [← hj]; unfold bools; rw [List.map_drop, List.getElem?_drop])
theorem RowIn.of_row {w : World} {size n : Nat} {v : Value} {cs : List Value} (h : Row w size v n cs) : RowIn (fun g => g < w.heap.size) w size v n cs := ⟨h, fun hn g hg => by
  obtain ⟨b, o, c, rfl, _, _, hb, _⟩ := h.open hn
  have := Option.some.inj hg
  simp only at this
  omega⟩
def TInB (F : Nat → Prop) (xs : List Bool) : Ty := fun w v => RowIn F w 1 v xs.length (bools xs)
theorem stb_inB (F : Nat → Prop) (xs : List Bool) : Stb (fun _ => False) (TInB F xs) := fun _ _ _ h ho => h.below (only_below ho)
theorem run_tailIn {F : Nat → Prop} {w : World} {A : Option Addr} {n c : Nat} {xs : List Bool} {k : Nat} (h : RowIn F w 1 (.slice A n c) n (bools xs)) (hn : xs.length = n) (hk : k ≤ n) : RowIn F w 1 (sliced A k n c 1) (n - k) (bools (xs.drop k)) := by
  have h1 : BoolsAt w (sliced A k n c 1) (xs.drop k) := run_tail (by subst hn; exact h.1) hn hk
  have hl : (xs.drop k).length = n - k := by rw [List.length_drop, hn]
  refine ⟨by rw [← hl]; exact h1, fun hp g hg => h.2 (by omega) g ?_⟩
  obtain ⟨_, A', c', e, h2, h3, h4⟩ := h.1
  injection e with e1 _ e3
  subst e1 e3
  obtain ⟨b, o, rfl, _, _⟩ := h4 (by omega)
  unfold sliced at hg
  rw [if_neg (by omega)] at hg
  simp [Value.ownBlock, Addr.add] at hg ⊢
  rw [← hg]
  split <;> rfl
set_option maxHeartbeats 4000000 in
theorem results_any (g : Nat) (d : Ci) (x : Nat) (w : World) (h : PCirc w g (Cir.toCz d)) (hd : Cir.Ok d) (hx : x ≤ 1000) :
    Calls Try.prog 117 #[.pointer (some ⟨g, 0, none⟩), .int .i64 x, .int .i64 (-1), .bool false] w (OwnBools (Cir.lits (Cir.valsA d x) (d.next ++ d.outs)) w) := by
  have s1 := hd.ins
  have s2 := hd.nexts
  have s3 := hd.gatess
  have s4 := hd.outss
  have HP := Lib.hid h
  have HD := Lib.hid hd
  clear h hd
  go_enter Try.func117, Try.ntmps117
  go_wp2_with fail
  refine (latchBits_any g _ d.ins d.next.length x _ HP.out rfl (toCz_next d) (by omega) (by omega) (by omega)).mono ?_
  rintro e w2 ⟨v2, rfl, hown2, hb2⟩
  have Ho2 := Lib.hid hown2
  have Hb2 := Lib.hid hb2
  have hz2 := hb2.size
  clear hown2 hb2
  go_wp2_with fail
  refine (inputBits_any g _ d.ins x _ (HP.out.below Hb2.out) rfl (by omega) (by omega)).mono ?_
  rintro e w3 ⟨v3, rfl, hown3, hb3⟩
  have Ho3 := Lib.hid hown3
  have Ho23 := Lib.hid (own_below Ho2.out hb3)
  have Hb3 := Lib.hid (Hb2.out.trans (hb3.mono hz2))
  have hz3 := Nat.le_trans hz2 hb3.size
  clear hown3 hb3
  go_wp2_with fail
  refine (evaluate_any g d v2 v3 _ _ _ (HP.out.below Hb3.out) HD.out (ownBools_at Ho23.out) (ownBools_at Ho3.out) (Cir.bits_length _ _) (Cir.bits_length _ _)).mono ?_
  rintro e w4 ⟨v4, rfl, hown4, hb4⟩
  have Ho4 := Lib.hid (show BoolsAt w4 v4 (Cir.valsA d x) from ownBools_at hown4)
  have Hb4 := Lib.hid (Hb3.out.trans (hb4.mono hz3))
  have hz4 := Nat.le_trans hz3 hb4.size
  clear hown4 hb4
  go_wp2_with fail
  refine (roots_any g _ _ (HP.out.below Hb4.out) (by rw [toCz_next]; omega) (by rw [toCz_outs]; omega)).mono ?_
  rintro e w5 ⟨v5, rfl, hown5, hb5⟩
  have Ho5 := Lib.hid (show NatsAt w5 v5 (d.next ++ d.outs) by
    have := Row.of_own hown5
    unfold NatsAt nats
    rw [List.map_append]
    exact this)
  have Ho45 := Lib.hid (Row.below Ho4.out hb5)
  have Hb5 := Lib.hid (Hb4.out.trans (hb5.mono hz4))
  have hz5 := Nat.le_trans hz4 hb5.size
  clear hown5 hb5
  have hl := Cir.valsA_length d x
  go_wp2_with fail
  refine (litValues_any v4 v5 (Cir.valsA d x) (d.next ++ d.outs) _ Ho45.out Ho5.out (fun l hl2 => by
    rw [hl]
    rcases List.mem_append.1 hl2 with h | h
    · exact HD.out.next l h
    · exact HD.out.out l h) (by rw [List.length_append]; omega) (by rw [hl]; unfold Cir.nvars Cir.nfirst; omega)).mono ?_
  rintro e w6 ⟨v6, rfl, hown6, hb6⟩
  have Ho6 := Lib.hid hown6
  have Hb6 := Lib.hid (Hb5.out.trans (hb6.mono hz5))
  clear hown6 hb6
  go_wp2_with fail
  go_ret
  exact ⟨_, rfl, own_mono Ho6.out hz5, Hb6.out⟩
set_option maxHeartbeats 4000000 in
theorem outsAt_any (g : Nat) (d : Ci) (x : Nat) (w : World) (h : PCirc w g (Cir.toCz d)) (hd : Cir.Ok d) (hx : x ≤ 1000) :
    Calls Try.prog 81 #[.pointer (some ⟨g, 0, none⟩), .int .i64 x] w fun e w' => (∃ u, e = .returned u ∧ RowIn (From w.heap.size) w' 1 u (Cir.outsA d x).length (bools (Cir.outsA d x))) ∧ Below w.heap.size w w' := by
  have s2 := hd.nexts
  have s4 := hd.outss
  have HP := Lib.hid h
  have HD := Lib.hid hd
  obtain ⟨vn, vg, vo, hg, c0, c1, c2, c3, r1, r2, r3⟩ := h
  obtain ⟨An, cn, rfl, hcn, hcmn⟩ := NatsAt.shape (xs := d.next) r1
  have hl : (Cir.lits (Cir.valsA d x) (d.next ++ d.outs)).length = d.next.length + d.outs.length := by unfold Cir.lits; simp
  have HL := Lib.hid hl
  have HDr := Lib.hid (Cir.outsA_drop d x)
  have HRes := Lib.hid (fun w' (hb : Below w.heap.size w w') => results_any g d x w' (HP.out.below hb) HD.out hx)
  clear r1 r2 r3 hd hl
  go_enter Try.func81, Try.ntmps81
  go_wp2_with fail
  generalize Cir.lits (Cir.valsA d x) (d.next ++ d.outs) = R at *
  refine wp_region_rs (quietRS Try.prog _ w _) quietRS_ok (by kernel_rfl) (by kernel_rfl) (by kernel_rfl) (Nat.le_of_ble_eq_true rfl) trivial trivial ?_
  refine rs_old quietRS_ok quiet_any _ (.inl rfl) _ rfl rfl ?_
  refine rs_old quietRS_ok quiet_any _ (.inl rfl) _ rfl rfl ?_
  refine rs_call quietRS_ok quiet_any (TInB (From w.heap.size) R) (stb_inB _ _) 117 _ _ rfl (fun ρ w' ho hK => by
    have ho : Only _ w w' := ho
    obtain ⟨h0, h1, h2, h3, h4, -⟩ := hK
    have h0' : ρ (.func 117) = .func (.func 117) #[] #[] := h0
    have h1' : ρ (.tmp 5) = _ := h1
    have h2' : ρ (.tmp 6) = _ := h2
    have h3' : ρ (.const (Value.int IntKind.i64 (-1))) = (Value.int IntKind.i64 (-1)) := h3
    have h4' : ρ (.const (Value.bool false)) = (Value.bool false) := h4
    refine ⟨#[ρ (.tmp 5), ρ (.tmp 6), ρ (.const (Value.int IntKind.i64 (-1))), ρ (.const (Value.bool false))], ?_, ?_⟩
    · go_simp
    · rw [h1', h2', h3', h4']
      refine (HRes.out w' (only_below ho)).mono ?_
      rintro e w2 ⟨v2, rfl, hO, hb⟩
      exact ⟨v2, rfl, (RowIn.of_own hO).mono (fun g hg => Nat.le_trans ho.size hg.1), hb⟩) ?_
  refine rs_old quietRS_ok quiet_any _ (.inl rfl) _ rfl rfl ?_
  apply rs_eq quietRS_ok quiet_any
  · intro ρ w' ho hK
    have ho : Only _ w w' := ho
    obtain ⟨h0, -⟩ := hK
    have h0' : ρ (.tmp 8) = _ := h0
    go_simp
    try exact rfl
  apply rs_eq quietRS_ok quiet_any
  · intro ρ w' ho hK
    have ho : Only _ w w' := ho
    obtain ⟨h0, -⟩ := hK
    have h0' : ρ (.tmp 9) = _ := h0
    go_simp
    try exact rfl
  apply rs_eq quietRS_ok quiet_any
  · intro ρ w' ho hK
    have ho : Only _ w w' := ho
    obtain ⟨h0, -⟩ := hK
    have h0' : ρ (.tmp 10) = _ := h0
    have hb := only_below ho
    have q1 := (hb.cell (p := ⟨g, 1, none⟩) hg).trans c1
    go_simp
    try exact rfl
  apply rs_eq quietRS_ok quiet_any
  · intro ρ w' ho hK
    have ho : Only _ w w' := ho
    obtain ⟨h0, -⟩ := hK
    have h0' : ρ (.tmp 11) = _ := h0
    go_simp
    try exact rfl
  refine rs_look quietRS_ok quiet_any (TInB (From w.heap.size) (Cir.outsA d x)) (stb_inB _ _) (fun ρ w' ho hK => by
    obtain ⟨h0, h1, -⟩ := hK
    have h0' : (TInB (From w.heap.size) R) w' (ρ (.tmp 7)) := h0
    have h1' : ρ (.tmp 12) = .int .i64 d.next.length := h1
    obtain ⟨A7, c7, e7, hc7, -⟩ := Row.shape h0'.1
    rw [HL.out] at e7 hc7
    have hrow : RowIn (From w.heap.size) w' 1 (.slice A7 (d.next.length + d.outs.length) c7) (d.next.length + d.outs.length) (bools R) := by
      have := h0'
      unfold TInB at this
      rw [e7, HL.out] at this
      exact this
    have ht := run_tailIn (k := d.next.length) hrow HL.out (by omega)
    rw [HDr.out, Nat.add_sub_cancel_left] at ht
    clear h0' h0 hrow
    refine ⟨_, ?_, (by unfold TInB; rw [Cir.outsA_length]; exact ht)⟩
    go_simp
    intro hbad
    omega) ?_
  refine rs_same quietRS_ok quiet_any 13 8 (.inr rfl) rfl _ rfl ?_
  intro f w9 k9 hk9 hI9 ht9 hcp9
  have E0 : f 0 = _ := ht9 0 (Nat.le_of_ble_eq_true rfl)
  conv at E0 => rhs; whnf
  have E1 : f 1 = _ := ht9 1 (Nat.le_of_ble_eq_true rfl)
  conv at E1 => rhs; whnf
  have E2 : (TInB (From w.heap.size) R) w9 (f 2) := ht9 2 (Nat.le_of_ble_eq_true rfl)
  have E3 : f 3 = _ := ht9 3 (Nat.le_of_ble_eq_true rfl)
  conv at E3 => rhs; whnf
  have E4 : f 4 = _ := ht9 4 (Nat.le_of_ble_eq_true rfl)
  have E5 : f 5 = _ := ht9 5 (Nat.le_of_ble_eq_true rfl)
  have E6 : f 6 = _ := ht9 6 (Nat.le_of_ble_eq_true rfl)
  have E7 : f 7 = _ := ht9 7 (Nat.le_of_ble_eq_true rfl)
  have E8 : (TInB (From w.heap.size) (Cir.outsA d x)) w9 (f 8) := ht9 8 (Nat.le_of_ble_eq_true rfl)
  have E9 : (TInB (From w.heap.size) (Cir.outsA d x)) w9 (f 9) := ht9 9 (Nat.le_of_ble_eq_true rfl)
  have Ho9 : Only _ w w9 := hI9.2.1
  have C9 : f 9 = f 8 := (hcp9 9 _ 13 8 rfl rfl rfl rfl).2
  simp only [putAll, E0, E1, E3, E4, E5, E6, E7, C9, Nat.zero_add, Nat.reduceAdd, Act.put, List.setIfInBounds_toArray, List.set_cons_succ, List.set_cons_zero]
  clear E0 E1 E3 E4 E5 E6 E7
  clear hI9 ht9 hcp9 hk9
  generalize f 2 = r2 at *
  generalize f 8 = r8 at *
  have B := Lib.hid (only_below Ho9)
  have HU := Lib.hid E8
  clear Ho9 E2 E8 E9
  go_wp2_with fail
  go_ret
  exact ⟨⟨_, rfl, HU.out⟩, B.out⟩
end Go.Proofs.Ytopimdakpnnbhaa

namespace Go.Proofs.Ytopimdakpnnbhaa
open Go.RowKit
set_option maxRecDepth 100000
/-! Hazards, by the program. -/
theorem append_haz {w : World} {ops : Array Oper} {rest : List Oper} {o : Oper} {a : Act} {Q : Exit → Act → World → Prop} (hgd : o.guard = none) (s x : Operand)
    (ho : o.op = .call { callee := .builtin .append, args := #[s, x], argTypes := #[44, 44] })
    (base : Nat) (v : Value) (n : Nat) (xs : List Value) (hs : a.eval s = v) (hown : w.ownsRow base 61 3 v n xs) (sv : Value) (m : Nat) (news : List Value) (hx : a.eval x = sv) (hr : Row w 3 sv m news) (h1 : ∀ u ∈ news, u.oneCell' = true)
    (h63 : n + m ≤ 10000000) (hbase : base ≤ w.heap.size)
    (h : ∀ v' w', w'.ownsRow base 61 3 v' (n + m) (xs ++ news) → w.grownBy w' v.ownBlock → (v'.ownBlock = v.ownBlock ∨ v'.ownBlock = some w.heap.size) → wpList Try.prog ops Q rest (a.put o.dst v') w') : wpList Try.prog ops Q (o :: rest) a w := by
  obtain ⟨i, hi, hz0, hz1, hz2⟩ := info_parts info_haz
  exact wpList_append_at hgd s x 44 ho base 61 i _ 3 24 Try.underlying44 hi hz0 hz1 hz2 rfl (by decide) v n xs hs hown sv m news hx hr h1 (by unfold maxLen; omega) (by omega) hbase h
theorem Only.aftH {E F : Nat → Prop} {a b c : World} (h : Only E a b) (h' : Only F b c) (hF : ∀ g, F g → a.heap.size ≤ g ∨ E g) : Only E a c :=
  ⟨h'.os.trans h.os, h'.tape.trans h.tape, h'.output.trans h.output, Nat.le_trans h.size h'.size, fun k hk hn => (h'.block k (Nat.lt_of_lt_of_le hk h.size) (fun hf => by
    rcases hF k hf with h1 | h1
    · omega
    · exact hn h1)).trans (h.block k hk hn)⟩
def OwnHaz (xs : List (Nat × Nat × Nat)) (w : World) (e : Ending) (w' : World) : Prop := ∃ v, e = .returned v ∧ w'.ownsRow w.heap.size 61 3 v xs.length (trips xs) ∧ Below w.heap.size w w'
namespace Cir
theorem tbits_terns (x n : Nat) : tbits x n = terns (bits x n) := rfl
theorem hzV_length (d : Ci) (x k : Nat) : (hzV d x k).length = nvars d := by
  unfold hzV
  refine tvals_length d ?_ ?_
  · rw [List.length_set, tbits_terns, terns_length, bits_length]
  · rw [tbits_terns, terns_length, bits_length]
theorem hzV_le (d : Ci) (x k : Nat) : ∀ t ∈ hzV d x k, t ≤ 2 := by
  unfold hzV
  refine tvals_le d (terns_le _) fun t ht => ?_
  rcases List.mem_or_eq_of_mem_set ht with h | h
  · exact terns_le _ t h
  · omega
theorem hzO_no {d : Ci} {x k o : Nat} (h : hz d x k o = false) : hzO d x k (o + 1) = hzO d x k o := by
  rw [hzO, h]; simp
theorem hzO_yes {d : Ci} {x k o : Nat} (h : hz d x k o = true) : hzO d x k (o + 1) = hzO d x k o ++ [(x, x + 2 ^ k, o)] := by
  rw [hzO, h]; simp
theorem hzK_skip {d : Ci} {x k : Nat} (h : x.testBit k = true) : hzK d x (k + 1) = hzK d x k := by
  rw [hzK, h]; simp
theorem hzK_all {d : Ci} {x k : Nat} (h : x.testBit k = false) : hzK d x (k + 1) = hzK d x k ++ hzO d x k d.outs.length := by
  rw [hzK, h]; simp
theorem outsA_get {d : Ci} {x o : Nat} (ho : o < d.outs.length) : (outsA d x)[o]? = some ((outsA d x).getD o false) := by
  rw [List.getD_eq_getElem?_getD, List.getElem?_eq_getElem (by rw [outsA_length]; exact ho)]
  rfl
theorem pow_small {k : Nat} (hk : k < 4) : 2 ^ k ≤ 8 := Nat.pow_le_pow_right (show 0 < 2 by decide) (show k ≤ 3 by omega)
end Cir
theorem bit_and (x k : Nat) (hx : x ≤ 1000000) : bits .and .i64 ((x / 2 ^ k : Nat) : Int) 1 = ((x / 2 ^ k % 2 : Nat) : Int) ∧ (((x / 2 ^ k % 2 : Nat) : Int) == 1) = x.testBit k ∧ (x : Int) / 2 ^ k = ((x / 2 ^ k : Nat) : Int) := by
  have hy : x / 2 ^ k ≤ 1000000 := Nat.le_trans (Nat.div_le_self _ _) hx
  refine ⟨?_, ?_, ?_⟩
  · have := i64_and_nat (x / 2 ^ k) 1 (by omega) (by omega)
    rw [Nat.and_one_is_mod] at this
    exact this
  · rw [Nat.testBit_eq_decide_div_mod_eq, Bool.eq_iff_iff, beq_iff_eq, decide_eq_true_iff]
    omega
  · rw [Int.natCast_ediv, two_pow]
set_option maxHeartbeats 16000000 in
theorem implHaz_ok (v : Value) (d : Ci) (w : World) (h : CircAt w v (Cir.toCz d)) (hd : Cir.Ok d) (hv : Cir.valid (Cir.toCz d) = true) :
    Calls Try.prog 30 #[v] w (OwnHaz (Cir.hazards d) w) := by
  have l1 := hd.ins
  have l2 := hd.nexts
  have l3 := hd.gatess
  have l4 := hd.outss
  have HC := Lib.hid h
  obtain ⟨vn, vg, vo, rfl, r1, r2, r3⟩ := h
  obtain ⟨Ao, co, rfl, hco, hcom⟩ := NatsAt.shape (xs := d.outs) r3
  have hins : (Cir.toCz d).ins = (d.ins : Int) := rfl
  have HP := Lib.hid (PCirc.boxed (c := Cir.toCz d) 26 r1 r2 r3)
  rw [hins] at HC HP ⊢
  have B0 := Lib.hid (bel_new w (.cells #[.int .i64 d.ins, vn, vg, .slice Ao d.outs.length co] 26))
  have PC := Lib.hid (PCells.boxed w d.ins vn vg (.slice Ao d.outs.length co) 26)
  have hsz : (w.alloc (.cells #[.int .i64 d.ins, vn, vg, .slice Ao d.outs.length co] 26)).heap.size = w.heap.size + 1 := by simp
  obtain ⟨z, p0, p1, p2, p3⟩ := PC.out
  have HC0 := Lib.hid (HC.out.below B0.out)
  have HV := Lib.hid (implValid_any _ _ _ HC0.out)
  rw [hv] at HV
  have HO := Lib.hid (show NatsAt (w.alloc (.cells #[.int .i64 d.ins, vn, vg, .slice Ao d.outs.length co] 26)) (.slice Ao d.outs.length co) d.outs from Row.below r3 B0.out)
  have Hd := Lib.hid hd
  obtain ⟨M, hM⟩ : ∃ M : Nat, M = 2 ^ (d.ins + d.next.length) := ⟨_, rfl⟩
  have hM128 : M ≤ 128 := by rw [hM]; exact Nat.pow_le_pow_right (show 0 < 2 by decide) (show _ ≤ 7 by omega)
  have HA : Hid (∀ w', Below (w.alloc (.cells #[.int .i64 d.ins, vn, vg, .slice Ao d.outs.length co] 26)).heap.size (w.alloc (.cells #[.int .i64 d.ins, vn, vg, .slice Ao d.outs.length co] 26)) w' → Calls Try.prog 77 #[.pointer (some ⟨w.heap.size, 0, none⟩)] w' fun e w'' => e = .returned (.int .i64 (M : Nat)) ∧ Below w'.heap.size w' w'') := Lib.hid fun w' hb => by
    rw [hM]
    exact assignments_any _ _ (d.ins + d.next.length) w' (HP.out.below hb) (by rw [toCz_next]; show (d.ins : Int) + _ = _; omega) (by omega)
  have HH : Hid (Cir.hazards d = Cir.hzX d M) := Lib.hid (by rw [hM]; rfl)
  have HLX := Lib.hid (fun x => Cir.hzX_len d hd x)
  have HLK := Lib.hid (fun x k => Cir.hzK_len d hd x k)
  rw [HH.out]
  clear r1 r2 r3 hd hins hv HC HC0 hco hcom hM HH
  go_enter Try.func30, Try.ntmps30
  go_wp2_with fail
  generalize w.alloc (.cells #[.int .i64 d.ins, vn, vg, .slice Ao d.outs.length co] 26) = W at *
  refine HV.out.mono ?_
  rintro e w1 ⟨rfl, hb1⟩
  have Hb1 := Lib.hid hb1
  have z1 := hb1.size
  clear hb1 p0 p1 p2 p3 z HV
  obtain ⟨z, p0, p1, p2, p3⟩ := PC.out.below Hb1.out
  go_wp2_with fail
  refine (HA.out _ Hb1.out).mono ?_
  rintro e w2 ⟨rfl, hb2⟩
  have Hb2 := Lib.hid (Hb1.out.trans (hb2.mono z1))
  have z2 := Nat.le_trans z1 hb2.size
  clear hb2 p0 p1 p2 p3 z HA Hb1 z1
  obtain ⟨z, p0, p1, p2, p3⟩ := PC.out.below Hb2.out
  go_wp2_with fail
  clear z p0 p1 p2 p3
  go_loopw [3, 17] (fun v i wr => ∃ (vv : Value) (x : Nat), vv = v ∧ i = .int .i64 x ∧ x ≤ M ∧ Hid (wr.ownsRow W.heap.size 61 3 v (Cir.hzX d x).length (trips (Cir.hzX d x))) ∧ Below W.heap.size W wr) (fun _ i _ => M - (intOf i).toNat)
  case atStart => exact ⟨_, 0, rfl, rfl, Nat.zero_le _, Lib.hid (World.ownsRow_nil _ _ _ _), Hb2.out⟩
  case round =>
    obtain ⟨vv, x, hvv, rfl, hx, Hl, hb⟩ := hrel
    subst hvv
    clear Hb2 z2
    have Hb := Lib.hid hb
    have zb := hb.size
    have PCr := Lib.hid (PC.out.below hb)
    clear hb
    obtain ⟨z, p0, p1, p2, p3⟩ := PCr.out
    by_cases hlx : x < M
    · have hdx : decide (x < M) = true := decide_eq_true hlx
      have HX1 : Hid (Cir.hzX d (x + 1) = Cir.hzX d x ++ Cir.hzK d x d.ins) := Lib.hid rfl
      have hX := HLX.out x
      obtain ⟨X, hXe⟩ : ∃ X, Cir.hzX d x = X := ⟨_, rfl⟩
      have Hl0 : Hid (wr.ownsRow W.heap.size 61 3 vv (X ++ Cir.hzK d x 0).length (trips (X ++ Cir.hzK d x 0))) := Lib.hid (by rw [← hXe]; show wr.ownsRow _ _ _ _ (Cir.hzX d x ++ []).length _; rw [List.append_nil]; rw [show Cir.hzX d x ++ Cir.hzK d x 0 = Cir.hzX d x from List.append_nil _]; exact Hl.out)
      rw [hXe] at HX1 hX
      clear Hl hXe
      go_wp2_with fail
      clear z p0 p1 p2 p3
      go_loopw [3, 22] (fun v i wr => ∃ (vv : Value) (k : Nat), vv = v ∧ i = .int .i64 k ∧ k ≤ d.ins ∧ Hid (wr.ownsRow W.heap.size 61 3 v (X ++ Cir.hzK d x k).length (trips (X ++ Cir.hzK d x k))) ∧ Below W.heap.size W wr) (fun _ i _ => d.ins - (intOf i).toNat)
      case atStart => exact ⟨_, 0, rfl, rfl, Nat.zero_le _, Hl0, Hb.out⟩
      case round =>
        obtain ⟨vv, k, hvv, rfl, hk, Hl, hb⟩ := hrel
        subst hvv
        clear Hl0 PCr Hb zb
        have Hb := Lib.hid hb
        have zb := hb.size
        have PCr := Lib.hid (PC.out.below hb)
        clear hb
        by_cases hlk : k < d.ins
        · have hdk : decide (k < d.ins) = true := decide_eq_true hlk
          obtain ⟨g1, g2, g3⟩ := bit_and x k (by omega)
          have Hor := Lib.hid (fun h => Cir.or_bit (x := x) (k := k) (by omega) (by omega) h)
          have hK := HLK.out x k
          have HKs := Lib.hid (fun h => Cir.hzK_skip (d := d) (x := x) (k := k) h)
          have HKa := Lib.hid (fun h => Cir.hzK_all (d := d) (x := x) (k := k) h)
          generalize x / 2 ^ k = y at g1 g2 g3
          generalize y % 2 = r at g1 g2
          cases hbit : x.testBit k
          · have HKn := Lib.hid (HKa.out hbit)
            have horN := Hor.out hbit
            rw [hbit] at g2
            have hp8 := Cir.pow_small (k := k) (by omega)
            obtain ⟨p, hp⟩ : ∃ p, 2 ^ k = p := ⟨_, rfl⟩
            have hpI : (2 : Int) ^ k = (p : Int) := by rw [← hp]; exact two_pow k
            rw [hpI] at g3
            rw [hp] at horN hp8
            have hwp := IntWalk.i64_in (p : Int) (by omega)
            have hor : bits .or .i64 (x : Int) (p : Int) = ((x + p : Nat) : Int) := by
              have := i64_or_nat x p (by omega) (by omega)
              rw [horN] at this
              exact this
            clear HKs HKa Hor hbit horN
            have HPk := Lib.hid (HP.out.below Hb.out)
            obtain ⟨Wk, hWk⟩ : ∃ Wk, Wk = wr := ⟨_, rfl⟩
            subst hWk
            go_wp2_with fail
            refine (inputBits_any _ _ d.ins x _ HPk.out rfl (by omega) (by omega)).mono ?_
            rintro e w2 ⟨v2, rfl, hown2, hb2⟩
            have Ho2 := Lib.hid (ownBools_at hown2)
            have Hb2 := Lib.hid hb2
            have z2 := hb2.size
            clear hown2 hb2
            go_wp2_with fail
            refine (ternaryOf_any _ _ _ Ho2.out (by rw [Cir.bits_length]; omega)).mono ?_
            rintro e w3 ⟨v3, rfl, hown3, hb3⟩
            have hlen3 : (nats (Cir.terns (Cir.bits x d.ins))).length = d.ins := by rw [nats_length, Cir.terns_length, Cir.bits_length]
            rw [hlen3] at hown3
            have Hb3 := Lib.hid (Hb2.out.trans (hb3.mono z2))
            have z3 := Nat.le_trans z2 hb3.size
            obtain ⟨g3b, c3, hv3, hg3b, hg3l, -⟩ := own_open hown3 (by omega)
            subst hv3
            obtain ⟨u3, _, hs3, hf3⟩ := own_slot hown3 (j := k) (by omega)
            have Ho3 := Lib.hid (hown3.stored k (.int .i64 2)).1
            have HT3 : Hid ((ints (nats (Cir.terns (Cir.bits x d.ins)))).set k (.int .i64 2) = nints ((Cir.tbits x d.ins).set k 2)) := Lib.hid (by
              unfold nints ints nats Cir.tbits Cir.terns
              simp [List.map_set])
            have hge : Wk.heap.size ≤ g3b := by omega
            clear hown3 hb3 hlen3 Ho2
            go_wp2_with fail
            have Hb4 := Lib.hid (Hb3.out.setCell (p := ⟨g3b, k, none⟩) hge (.int .i64 2))
            have z4 := Hb4.out.size
            have Ho4 := Lib.hid (show NatsAt (w3.setCell ⟨g3b, k, none⟩ (.int .i64 2)) (.slice (some ⟨g3b, 0, none⟩) d.ins c3) ((Cir.tbits x d.ins).set k 2) by
              have := Ho3.out
              rw [HT3.out] at this
              exact nats_own this (by rw [List.length_set]; unfold Cir.tbits; rw [List.length_map, Cir.bits_length]))
            clear Ho3 HT3 hs3 hf3 Hb2 Hb3
            generalize w3.setCell ⟨g3b, k, none⟩ (.int .i64 2) = w4 at *
            refine (latchBits_any _ _ d.ins d.next.length x _ (HPk.out.below Hb4.out) rfl (toCz_next d) (by omega) (by omega) (by omega)).mono ?_
            rintro e w5 ⟨v5, rfl, hown5, hb5⟩
            have Ho5 := Lib.hid (ownBools_at hown5)
            have Ho45 := Lib.hid (Row.below Ho4.out hb5)
            have Hb5 := Lib.hid (Hb4.out.trans (hb5.mono z4))
            have z5 := Nat.le_trans z4 hb5.size
            clear hown5 hb5 Ho4
            go_wp2_with fail
            refine (ternaryOf_any _ _ _ Ho5.out (by rw [Cir.bits_length]; omega)).mono ?_
            rintro e w6 ⟨v6, rfl, hown6, hb6⟩
            have Ho6 := Lib.hid (show NatsAt w6 v6 (Cir.tbits (x / 2 ^ d.ins) d.next.length) from Row.of_own hown6)
            have Ho46 := Lib.hid (Row.below Ho45.out hb6)
            have Hb6 := Lib.hid (Hb5.out.trans (hb6.mono z5))
            have z6 := Nat.le_trans z5 hb6.size
            clear hown6 hb6 Ho45 Ho5
            go_wp2_with fail
            refine (evalTernary_any _ d v6 _ (Cir.tbits (x / 2 ^ d.ins) d.next.length) ((Cir.tbits x d.ins).set k 2) _ (HPk.out.below Hb6.out) Hd.out Ho6.out Ho46.out (by rw [List.length_set]; unfold Cir.tbits; rw [List.length_map, Cir.bits_length]) (by unfold Cir.tbits; rw [List.length_map, Cir.bits_length]) (Cir.terns_le _) (fun t ht => by
              rcases List.mem_or_eq_of_mem_set ht with h | h
              · exact Cir.terns_le _ t h
              · omega)).mono ?_
            rintro e w7 ⟨v7, rfl, hown7, hb7⟩
            have Ho7 := Lib.hid (show RowIn (From Wk.heap.size) w7 1 v7 (nats (Cir.hzV d x k)).length (ints (nats (Cir.hzV d x k))) from (RowIn.of_own hown7).mono fun g hg => Nat.le_trans z6 hg.1)
            have Hb7 := Lib.hid (Hb6.out.trans (hb7.mono z6))
            have z7 := Nat.le_trans z6 hb7.size
            clear hown7 hb7 Ho46 Ho6
            go_wp2_with fail
            refine (outsAt_any _ d x _ (HPk.out.below Hb7.out) Hd.out (by omega)).mono ?_
            rintro e w8 ⟨⟨v8, rfl, ho8⟩, hb8⟩
            have Ho8 := Lib.hid (ho8.mono (F' := From Wk.heap.size) fun g hg => Nat.le_trans z7 hg)
            have Ho78 := Lib.hid (Ho7.out.below hb8)
            have Hb8 := Lib.hid (Hb7.out.trans (hb8.mono z7))
            have z8 := Nat.le_trans z7 hb8.size
            clear ho8 hb8 Ho7
            go_wp2_with fail
            refine (outsAt_any _ d (x + p) _ (HPk.out.below Hb8.out) Hd.out (by omega)).mono ?_
            rintro e w9 ⟨⟨v9, rfl, ho9⟩, hb9⟩
            have HA := Lib.hid (Ho8.out.below hb9)
            have HB := Lib.hid (ho9.mono (F' := From Wk.heap.size) fun g hg => Nat.le_trans z8 hg)
            have HT := Lib.hid (Ho78.out.below hb9)
            have Hb9 := Lib.hid (Hb8.out.trans (hb9.mono z8))
            have z9 := Nat.le_trans z8 hb9.size
            clear ho9 hb9 Ho8 Ho78 Hb8 Hb7 Hb6 Hb5 Hb4 z8 z7 z6 z5 z4 z3 z2
            have PC9 := Lib.hid (PCr.out.below Hb9.out)
            have HbW := Lib.hid (Hb.out.trans (Hb9.out.mono zb))
            have HO9 := Lib.hid ((RowIn.of_row (show Row W 1 (.slice Ao d.outs.length co) (nats d.outs).length (ints (nats d.outs)) from HO.out)).below HbW.out)
            have HP0 : Hid (∀ g, vv.ownBlock = some g → W.heap.size ≤ g ∧ (g < Wk.heap.size ∨ w9.heap.size ≤ g)) := Lib.hid fun g hg => ⟨(Hl.out.lt g hg).1, .inl (Hl.out.lt g hg).2⟩
            obtain ⟨z, p0, p1, p2, p3⟩ := PC9.out
            have hvl := Cir.hzV_length d x k
            have hvle := Lib.hid (Cir.hzV_le d x k)
            have hnv : Cir.nvars d ≤ 22 := by unfold Cir.nvars Cir.nfirst; omega
            obtain ⟨n0, hn0⟩ : ∃ n0, (X ++ Cir.hzK d x k).length = n0 := ⟨_, rfl⟩
            have hn0b : n0 ≤ 12 * x + 3 * k := by rw [← hn0, List.length_append]; omega
            have Hl0 : Hid (w9.ownsRow W.heap.size 61 3 vv ((X ++ Cir.hzK d x k) ++ Cir.hzO d x k 0).length (trips ((X ++ Cir.hzK d x k) ++ Cir.hzO d x k 0))) := Lib.hid (by
              rw [show (X ++ Cir.hzK d x k) ++ Cir.hzO d x k 0 = X ++ Cir.hzK d x k from List.append_nil _]
              exact own_below Hl.out Hb9.out)
            have HKn2 : Hid (X ++ Cir.hzK d x (k + 1) = (X ++ Cir.hzK d x k) ++ Cir.hzO d x k d.outs.length) := Lib.hid (by rw [HKn.out, List.append_assoc])
            have HZ : Hid (∀ o, Cir.hz d x k o = ((Cir.outsA d x).getD o false == (Cir.outsA d (x + p)).getD o false && Cir.tlit (Cir.hzV d x k) (d.outs.getD o 0) == 2)) := Lib.hid (fun o => by rw [← hp]; rfl)
            have HY : Hid (∀ o, Cir.hz d x k o = true → Cir.hzO d x k (o + 1) = Cir.hzO d x k o ++ [(x, x + p, o)]) := Lib.hid (fun o h => by rw [← hp]; exact Cir.hzO_yes h)
            have HNo : Hid (∀ o, Cir.hz d x k o = false → Cir.hzO d x k (o + 1) = Cir.hzO d x k o) := Lib.hid (fun o h => Cir.hzO_no h)
            have HLO := Lib.hid (fun o => Cir.hzO_len d x k o)
            generalize X ++ Cir.hzK d x k = Y at *
            generalize Cir.hzV d x k = V at *
            have HAl := Lib.hid (fun o (ho : o < d.outs.length) => Cir.outsA_get (d := d) (x := x) ho)
            have HBl := Lib.hid (fun o (ho : o < d.outs.length) => Cir.outsA_get (d := d) (x := x + p) ho)
            have hLA := Cir.outsA_length d x
            have hLB := Cir.outsA_length d (x + p)
            generalize Cir.outsA d x = OA at *
            generalize Cir.outsA d (x + p) = OB at *
            obtain ⟨A7, c7, e7, -, -⟩ := NatsAt.shape (xs := V) HT.out.1
            subst e7
            clear g1 g2 g3 hpI hwp hor hp hp8 HKn hK HPk hdk
            go_wp2_with fail
            clear z p0 p1 p2 p3
            go_loopw [3, 52] (fun v i wr => ∃ (vv : Value) (o : Nat), vv = v ∧ i = .int .i64 o ∧ o ≤ d.outs.length ∧ Hid (wr.ownsRow W.heap.size 61 3 v (Y ++ Cir.hzO d x k o).length (trips (Y ++ Cir.hzO d x k o))) ∧ Hid (∀ g, v.ownBlock = some g → W.heap.size ≤ g ∧ (g < Wk.heap.size ∨ w9.heap.size ≤ g)) ∧ Only (fun g => W.heap.size ≤ g ∧ g < Wk.heap.size) w9 wr) (fun _ i _ => d.outs.length - (intOf i).toNat)
            case atStart => exact ⟨_, 0, rfl, rfl, Nat.zero_le _, Hl0, HP0, Only.refl _ _⟩
            case round =>
              obtain ⟨uu, o, huu, rfl, ho, Hu, HP, hb⟩ := hrel
              subst huu
              clear Hl0
              have Hbo := Lib.hid hb
              have zo := hb.size
              clear hb
              by_cases hlo : o < d.outs.length
              · have hdo : decide (o < d.outs.length) = true := decide_eq_true hlo
                obtain ⟨bA, oA, cA, eA, hbA, hcA⟩ := boolsAt_cell (HA.out.only Hbo.out (fun g h e => Nat.lt_irrefl _ (Nat.lt_of_lt_of_le e.2 h))).1 (HAl.out o hlo)
                obtain ⟨bB, oB, cB, eB, hbB, hcB⟩ := boolsAt_cell (HB.out.only Hbo.out (fun g h e => Nat.lt_irrefl _ (Nat.lt_of_lt_of_le e.2 h))).1 (HBl.out o hlo)
                rw [hLA] at eA
                rw [hLB] at eB
                subst eA eB
                obtain ⟨b', o', l, rfl, hbl', hx0, hs0⟩ := nats_cell (nats_row (show NatsAt _ (.slice Ao d.outs.length co) d.outs from (HO9.out.only Hbo.out (fun g h e => Nat.lt_irrefl _ (Nat.lt_of_lt_of_le h e.1))).1)) rfl hlo
                have hl2 := Hd.out.out l (List.mem_of_getElem? hx0.out)
                have hgl : d.outs.getD o 0 = l := by rw [List.getD_eq_getElem?_getD, hx0.out]; rfl
                have HZo := Lib.hid (HZ.out o)
                rw [hgl] at HZo
                have hlO := HLO.out o
                have hlen : (Y ++ Cir.hzO d x k o).length ≤ n0 + 3 := by rw [List.length_append]; omega
                have ht2 := Cir.tlit_le hvle.out l
                have HTr := Lib.hid (show NatsAt wr (.slice A7 V.length c7) V from (HT.out.only Hbo.out (fun g h e => Nat.lt_irrefl _ (Nat.lt_of_lt_of_le e.2 h))).1)
                have ga := gw_cell hcA hbA
                have gb := gw_cell hcB hbB
                have gs := gw_cell hs0 hbl'
                have HTC : Hid (∀ n : GW wr, Calls Try.prog 82 #[.slice A7 (Cir.nvars d) c7, .int .i64 (l : Nat)] (gw n) fun e w' => e = .returned (.int .i64 (Cir.tlit V l : Nat)) ∧ gw n = w') := Lib.hid fun n => (by rw [← hvl]; exact ternaryLit_any _ V l (gw n) (Row.below HTr.out (gw_below n)) (by rw [hvl]; exact hl2) (by omega) hvle.out)
                obtain ⟨T, hTe⟩ : ∃ T, Cir.tlit V l = T := ⟨_, rfl⟩
                rw [hTe] at HTC HZo ht2
                clear hTe
                have HYo := Lib.hid (HY.out o)
                have HNoo := Lib.hid (HNo.out o)
                obtain ⟨ba, hba⟩ : ∃ ba, OA.getD o false = ba := ⟨_, rfl⟩
                rw [hba] at hcA ga HZo
                clear hba
                obtain ⟨bb, hbb⟩ : ∃ bb, OB.getD o false = bb := ⟨_, rfl⟩
                rw [hbb] at hcB gb HZo
                clear hbb
                clear hx0 hgl hl2 HZ HY HNo hlO
                rcases (Bool.eq_false_or_eq_true (ba == bb)).symm with hab | hab
                · have HR := Lib.hid (HNoo.out (hz_no1 HZo.out hab))
                  clear HYo HNoo HZo HTC
                  go_wp2_with fail
                  refine wp_region_grow (by kernel_rfl) (by kernel_rfl) ?_
                  repeat (go_big_quiet_step ((fail)))
                  refine wpQuiet_nil ?_
                  intro _ hw'
                  obtain ⟨nq, hw''⟩ := hw'
                  subst hw''
                  have hgq := gw_below nq
                  generalize gw nq = wq at *
                  clear nq
                  have Hb10 := Lib.hid (Hbo.out.trans (Only.of_below _ hgq))
                  have Hu10 := Lib.hid (own_below Hu.out hgq)
                  clear hgq ga gb gs hcA hcB hs0
                  go_wp2_with fail
                  go_roundw
                  case rel => exact ⟨_, o + 1, rfl, by go_num, by omega, Lib.hid (by rw [HR.out]; exact Hu10.out), HP, Hb10.out⟩
                  case measure => simp [intOf] <;> omega
                · by_cases hT : T = 2
                  · have HR := Lib.hid (HYo.out (hz_yes HZo.out hab (by rw [hT]; rfl)))
                    subst hT
                    clear HYo HNoo HZo
                    go_wp2_with fail
                    refine wp_region_grow (by kernel_rfl) (by kernel_rfl) ?_
                    repeat (go_big_quiet_step ((go_at_call 82; exact grow_same (HTC.out _))))
                    refine wpQuiet_nil ?_
                    intro _ hw'
                    obtain ⟨nq, hw''⟩ := hw'
                    subst hw''
                    have hgq := gw_below nq
                    generalize gw nq = wq at *
                    clear nq
                    have Hb10 := Lib.hid (Hbo.out.trans (Only.of_below _ hgq))
                    have Hu10 := Lib.hid (own_below Hu.out hgq)
                    have z10 := Nat.le_trans zo hgq.size
                    clear hgq ga gb gs hcA hcB hs0 HTC
                    have Hlit := Lib.hid (Row.of_own (World.ownsRow_lit (base := wq.heap.size) (e := 61) (size := 3) wq #[.int .i64 x, .int .i64 ((x + p : Nat) : Int), .int .i64 o] 1 (Nat.le_refl _) (by unfold maxLen; omega) rfl))
                    have HRt : Hid (trips (Y ++ Cir.hzO d x k (o + 1)) = trips (Y ++ Cir.hzO d x k o) ++ [.int .i64 x, .int .i64 ((x + p : Nat) : Int), .int .i64 o]) := Lib.hid (by rw [HR.out]; exact trips_snoc' _ _ _)
                    have HRl : Hid ((Y ++ Cir.hzO d x k (o + 1)).length = (Y ++ Cir.hzO d x k o).length + 1) := Lib.hid (by rw [HR.out]; exact len_snoc' _ _ _)
                    clear HR
                    obtain ⟨TY, hTY⟩ : ∃ TY, trips (Y ++ Cir.hzO d x k o) = TY := ⟨_, rfl⟩
                    rw [hTY] at HRt Hu10
                    clear hTY
                    obtain ⟨nY, hnY⟩ : ∃ nY, (Y ++ Cir.hzO d x k o).length = nY := ⟨_, rfl⟩
                    rw [hnY] at HRl Hu10 hlen
                    clear hnY
                    have hWq : W.heap.size ≤ wq.heap.size := by omega
                    go_wp2_with (at_builtin; refine append_haz rfl (.tmp 72) (.tmp 77) rfl W.heap.size _ nY TY rfl (Hu10.out.alloc _) _ 1 _ rfl Hlit.out (by simp [Value.oneCell']) (by omega) (by simp; omega) ?_; intro v7 w7 hown7 hg7 hat7; have Ho7 := Lib.hid hown7; have Hg7 := Lib.hid hg7; have Hat7 := Lib.hid hat7; clear hown7 hg7 hat7)
                    go_roundw
                    case rel => exact ⟨_, o + 1, rfl, by go_num, by omega, Lib.hid (by rw [HRt.out, HRl.out]; exact Ho7.out), Lib.hid (fun g hg => by
                      rcases Hat7.out with h | h
                      · exact HP.out g (h ▸ hg)
                      · rw [h] at hg
                        have h1 := Option.some.inj hg
                        rw [World.size_alloc] at h1
                        exact ⟨by omega, .inr (by omega)⟩), (Hb10.out.trans (Only.of_below _ (bel_new _ _))).aftH (Only.grown Hg7.out fun g hg => hg) (fun g hg => (HP.out g hg).2.elim (fun h => .inr ⟨(HP.out g hg).1, h⟩) .inl)⟩
                    case measure => simp [intOf] <;> omega
                  · have hT2 : (T == 2) = false := by simpa using hT
                    have hT3 : ((T : Int) == 2) = false := by simp; omega
                    have HR := Lib.hid (HNoo.out (hz_no2 HZo.out hT2))
                    clear HYo HNoo HZo hT hT2
                    go_wp2_with fail
                    refine wp_region_grow (by kernel_rfl) (by kernel_rfl) ?_
                    repeat (go_big_quiet_step ((go_at_call 82; exact grow_same (HTC.out _))))
                    refine wpQuiet_nil ?_
                    intro _ hw'
                    obtain ⟨nq, hw''⟩ := hw'
                    subst hw''
                    have hgq := gw_below nq
                    generalize gw nq = wq at *
                    clear nq
                    have Hb10 := Lib.hid (Hbo.out.trans (Only.of_below _ hgq))
                    have Hu10 := Lib.hid (own_below Hu.out hgq)
                    clear hgq ga gb gs hcA hcB hs0 HTC
                    go_wp2_with fail
                    go_roundw
                    case rel => exact ⟨_, o + 1, rfl, by go_num, by omega, Lib.hid (by rw [HR.out]; exact Hu10.out), HP, Hb10.out⟩
                    case measure => simp [intOf] <;> omega
              · obtain rfl : o = d.outs.length := by omega
                have hdo : decide (d.outs.length < d.outs.length) = false := decide_eq_false (by omega)
                go_wp2_with fail
                go_roundw
                case rel => exact ⟨_, k + 1, rfl, by go_num, by omega, Lib.hid (by rw [HKn2.out]; exact Hu.out), Only.below HbW.out Hbo.out HbW.out.size (fun k hk => hk.1)⟩
                case measure => simp [intOf] <;> omega
          · have HKn := Lib.hid (HKs.out hbit)
            rw [hbit] at g2
            clear HKs HKa Hor hbit
            go_wp2_with fail
            go_roundw
            case rel => exact ⟨_, k + 1, rfl, by go_num, by omega, Lib.hid (by rw [HKn.out]; exact Hl.out), Hb.out⟩
            case measure => simp [intOf] <;> omega
        · obtain rfl : k = d.ins := by omega
          have hdk : decide (d.ins < d.ins) = false := decide_eq_false (by omega)
          go_wp2_with fail
          go_roundw
          case rel => exact ⟨_, x + 1, rfl, by go_num, by omega, Lib.hid (by rw [HX1.out]; exact Hl.out), Hb.out⟩
          case measure => simp [intOf] <;> omega
    · obtain rfl : x = M := by omega
      have hdx : decide (x < x) = false := decide_eq_false (by omega)
      go_wp2_with fail
      go_ret
      exact ⟨_, rfl, own_mono Hl.out (by omega), B0.out.trans (Hb.out.mono B0.out.size)⟩
theorem implHaz_no (v : Value) (c : Cz) (w : World) (h : CircAt w v c) (hv : Cir.valid c = false) :
    Calls Try.prog 30 #[v] w (OwnHaz [] w) := by
  have HC := Lib.hid h
  obtain ⟨vn, vg, vo, rfl, r1, r2, r3⟩ := h
  have B0 := Lib.hid (bel_new w (.cells #[.int .i64 c.ins, vn, vg, vo] 26))
  obtain ⟨z, p0, p1, p2, p3⟩ := PCells.boxed w c.ins vn vg vo 26
  have HV := Lib.hid (implValid_any _ _ _ (HC.out.below B0.out))
  rw [hv] at HV
  clear r1 r2 r3 hv HC
  go_enter Try.func30, Try.ntmps30
  go_wp2_with fail
  refine HV.out.mono ?_
  rintro e w1 ⟨rfl, hb1⟩
  have B1 := Lib.hid (B0.out.trans (hb1.mono B0.out.size))
  clear hb1
  go_wp2_with fail
  go_ret
  exact ⟨_, rfl, World.ownsRow_nil _ _ _ _, B1.out⟩
def Cir.hazI (c : Cz) : List (Nat × Nat × Nat) := if Cir.valid c then Cir.hazards (Cir.nat c) else []
theorem implHaz_any (v : Value) (c : Cz) (w : World) (h : CircAt w v c) :
    Calls Try.prog 30 #[v] w (OwnHaz (Cir.hazI c) w) := by
  cases hv : Cir.valid c
  · rw [show Cir.hazI c = [] from by unfold Cir.hazI; rw [hv]; rfl]
    exact implHaz_no v c w h hv
  · rw [show Cir.hazI c = Cir.hazards (Cir.nat c) from by unfold Cir.hazI; rw [hv]; rfl]
    obtain ⟨d1, d2⟩ := Cir.nat_ok hv
    exact implHaz_ok v (Cir.nat c) w (by rw [← d1]; exact h) d2 (by rw [← d1]; exact hv)
end Go.Proofs.Ytopimdakpnnbhaa

namespace Go.Proofs.Ytopimdakpnnbhaa
open Go.RowKit
set_option maxRecDepth 100000
/-! Hazards, by the reference. -/
theorem tbits_snoc (x k : Nat) : nints (Cir.tbits x (k + 1)) = nints (Cir.tbits x k) ++ [.int .i64 ((x / 2 ^ k % 2 : Nat) : Int)] := by
  unfold Cir.tbits Cir.bits
  rw [List.range_succ, List.map_append, List.map_append]
  unfold nints nats ints
  rw [List.map_append, List.map_append]
  simp [Nat.toNat_testBit]
theorem tbits_length (x n : Nat) : (Cir.tbits x n).length = n := by unfold Cir.tbits; rw [List.length_map, Cir.bits_length]
set_option maxHeartbeats 4000000 in
theorem l33Terns_any (v : Value) (d : Ci) (x k : Nat) (w : World) (h : CircAt w v (Cir.toCz d)) (hd : Cir.Ok d) (hx : x ≤ 1000) (hk : k < d.ins) :
    Calls Try.prog 91 #[v, .int .i64 x, .int .i64 k] w fun e w' => (∃ a b, e = .returned (.tuple #[a, b]) ∧ NatsAt w' a ((Cir.tbits x d.ins).set k 2) ∧ NatsAt w' b (Cir.tbits (x / 2 ^ d.ins) d.next.length)) ∧ Below w.heap.size w w' := by
  have l1 := hd.ins
  have l2 := hd.nexts
  obtain ⟨vn, vg, vo, rfl, r1, r2, r3⟩ := h
  obtain ⟨An, cn, rfl, hcn, hcmn⟩ := NatsAt.shape (xs := d.next) r1
  unfold maxLen at hcmn
  have hins : (Cir.toCz d).ins = (d.ins : Int) := rfl
  rw [hins]
  have B0 := Lib.hid (bel_new w (.cells #[.int .i64 d.ins, .slice An d.next.length cn, vg, vo] 26))
  have hsz : (w.alloc (.cells #[.int .i64 d.ins, .slice An d.next.length cn, vg, vo] 26)).heap.size = w.heap.size + 1 := by simp
  have PC := Lib.hid (PCells.boxed w d.ins (.slice An d.next.length cn) vg vo 26)
  clear r1 r2 r3 hd hins
  go_enter Try.func91, Try.ntmps91
  go_wp2_with fail
  generalize w.alloc (.cells #[.int .i64 d.ins, .slice An d.next.length cn, vg, vo] 26) = W at *
  have hs1 : (W.alloc (.cells #[] 3)).heap.size = W.heap.size + 1 := by simp
  have HA0 : Hid (((W.alloc (.cells #[] 3)).alloc (.cells #[] 3)).ownsRow W.heap.size 3 1 (.slice (some ⟨w.heap.size + 1, 0, none⟩) 0 0) 0 (nints (Cir.tbits x 0))) := Lib.hid (by
    have := (World.ownsRow_lit (base := W.heap.size) (e := 3) (size := 1) W #[] 0 (Nat.le_refl _) (by unfold maxLen; omega) rfl).alloc (.cells #[] 3)
    rw [hsz] at this ⊢
    exact this)
  have HB0 : Hid (((W.alloc (.cells #[] 3)).alloc (.cells #[] 3)).ownsRow W.heap.size 3 1 (.slice (some ⟨w.heap.size + 1 + 1, 0, none⟩) 0 0) 0 (nints (Cir.tbits (x / 2 ^ d.ins) 0))) := Lib.hid (by
    have := (World.ownsRow_lit (base := W.heap.size) (e := 3) (size := 1) (W.alloc (.cells #[] 3)) #[] 0 (by omega) (by unfold maxLen; omega) rfl)
    rw [hs1, hsz] at this
    rw [hsz]
    exact this)
  have hb0 := bel_new W (.cells #[] 3)
  have HBW := Lib.hid (hb0.trans ((bel_new (W.alloc (.cells #[] 3)) (.cells #[] 3)).mono hb0.size))
  have HN0 : Hid ((Value.slice (some ⟨w.heap.size + 1, 0, none⟩) 0 0).ownBlock ≠ some (w.heap.size + 1 + 1)) := Lib.hid (by
    intro e
    have := Option.some.inj e
    simp only at this
    omega)
  have hs2 : ((W.alloc (.cells #[] 3)).alloc (.cells #[] 3)).heap.size = w.heap.size + 1 + 1 + 1 := by simp [hsz]
  generalize (W.alloc (.cells #[] 3)).alloc (.cells #[] 3) = W2 at *
  clear hb0 hs1
  go_loopw [8, 10] (fun v i wr => ∃ (vv : Value) (j : Nat), vv = v ∧ i = .int .i64 j ∧ j ≤ d.ins ∧ Hid (wr.ownsRow W.heap.size 3 1 v j (nints (Cir.tbits x j))) ∧ Hid (wr.ownsRow W.heap.size 3 1 (.slice (some ⟨w.heap.size + 1 + 1, 0, none⟩) 0 0) 0 (nints (Cir.tbits (x / 2 ^ d.ins) 0))) ∧ Hid (v.ownBlock ≠ some (w.heap.size + 1 + 1)) ∧ Below W.heap.size W wr ∧ w.heap.size + 1 + 1 < wr.heap.size) (fun _ i _ => d.ins - (intOf i).toNat)
  case atStart => exact ⟨_, 0, rfl, rfl, Nat.zero_le _, HA0, HB0, HN0, HBW.out, by omega⟩
  case round =>
    obtain ⟨vv, j, hvv, rfl, hj, Ha, Hb0, Hn, hb, zr⟩ := hrel
    subst hvv
    clear HA0 HB0 HN0 HBW hs2
    have Hb := Lib.hid hb
    have hzb := hb.size
    have PCr := Lib.hid (PC.out.below hb)
    clear hb
    obtain ⟨z, p0, p1, p2, p3⟩ := PCr.out
    by_cases hlt : j < d.ins
    · have hdj : decide (j < d.ins) = true := decide_eq_true hlt
      have HS := Lib.hid (tbits_snoc x j)
      have hq : (x : Int) / 2 ^ j = ((x / 2 ^ j : Nat) : Int) := by rw [Int.natCast_ediv, two_pow]
      have hm := tmod_two (x / 2 ^ j)
      generalize x / 2 ^ j = y at hq hm HS
      generalize y % 2 = r at hm HS
      have Hlit := Lib.hid (Row.of_own (World.ownsRow_lit (base := wr.heap.size) (e := 3) (size := 1) wr #[.int .i64 (r : Nat)] 1 (Nat.le_refl _) (by unfold maxLen; omega) rfl))
      go_wp2_with (at_builtin; refine append_ints rfl (.tmp 20) (.tmp 25) rfl W.heap.size _ j _ rfl (Ha.out.alloc _) _ 1 [.int .i64 (r : Nat)] rfl Hlit.out (by simp [Value.oneCell']) (by omega) (by simp; omega) ?_; intro v7 w7 hown7 hg7 hat7; have Ho7 := Lib.hid hown7; have Hg7 := Lib.hid hg7; have Hat7 := Lib.hid hat7; clear hown7 hg7 hat7)
      go_roundw
      case rel =>
        refine ⟨_, j + 1, rfl, by go_num, by omega, Lib.hid (by rw [HS.out]; exact Ho7.out), Lib.hid (own_kept (Hb0.out.alloc _) Hg7.out (fun g hg e => ?_)), Lib.hid (fun e => ?_), (Hb.out.alloc hzb _).grown Hg7.out (Hb.out.alloc hzb _).size (own_ge0 Ha.out), ?_⟩
        · have hg2 := Option.some.inj hg
          simp only at hg2
          exact Hn.out (by rw [hg2]; exact e)
        · rcases Hat7.out with h | h
          · exact Hn.out (h ▸ e)
          · rw [h] at e
            have := Option.some.inj e
            rw [World.size_alloc] at this
            omega
        · have := Hg7.out.size
          rw [World.size_alloc] at this
          omega
      case measure => simp [intOf] <;> omega
    · obtain rfl : j = d.ins := by omega
      have hdj : decide (d.ins < d.ins) = false := decide_eq_false (by omega)
      have Hap : Hid (∀ g, vv.ownBlock = some g → (Value.slice (some ⟨w.heap.size + 1 + 1, 0, none⟩) 0 0).ownBlock ≠ some g) := Lib.hid (fun g hg e => by
        have hg2 := Option.some.inj e
        simp only at hg2
        exact Hn.out (by rw [hg2]; exact hg))
      go_wp2_with fail
      clear z p0 p1 p2 p3 Hn
      go_loopw [9, 11] (fun v i wr => ∃ (ub : Value) (j : Nat), ub = v ∧ i = .int .i64 j ∧ j ≤ d.next.length ∧ Hid (wr.ownsRow W.heap.size 3 1 vv d.ins (nints (Cir.tbits x d.ins))) ∧ Hid (wr.ownsRow W.heap.size 3 1 v j (nints (Cir.tbits (x / 2 ^ d.ins) j))) ∧ Hid (Apart vv v) ∧ Below W.heap.size W wr) (fun _ i _ => d.next.length - (intOf i).toNat)
      case atStart => exact ⟨_, 0, rfl, rfl, Nat.zero_le _, Ha, Hb0, Hap, Hb.out⟩
      case round =>
        obtain ⟨ub, j, hub, rfl, hj, Ha, Hbb, Hap, hb⟩ := hrel
        subst hub
        clear Hb0 PCr Hb
        have Hb := Lib.hid hb
        have hzb := hb.size
        have PCr := Lib.hid (PC.out.below hb)
        clear hb
        obtain ⟨z, p0, p1, p2, p3⟩ := PCr.out
        by_cases hlt : j < d.next.length
        · have hdj2 : decide (j < d.next.length) = true := decide_eq_true hlt
          have HS := Lib.hid (tbits_snoc (x / 2 ^ d.ins) j)
          have hq : (x : Int) / 2 ^ (d.ins + j) = ((x / 2 ^ d.ins / 2 ^ j : Nat) : Int) := by rw [Nat.div_div_eq_div_mul, ← Nat.pow_add, Int.natCast_ediv, two_pow]
          have hwij : IntKind.i64.wrap ((d.ins : Int) + (j : Int)) = (d.ins : Int) + (j : Int) := IntWalk.i64_in _ (by omega)
          have htn : ((d.ins : Int) + (j : Int)).toNat = d.ins + j := by omega
          have h0ij : ¬ ((d.ins : Int) + (j : Int) < 0) := by omega
          have hm := tmod_two (x / 2 ^ d.ins / 2 ^ j)
          generalize x / 2 ^ d.ins / 2 ^ j = y at hq hm HS
          generalize y % 2 = r at hm HS
          have Hlit := Lib.hid (Row.of_own (World.ownsRow_lit (base := wr.heap.size) (e := 3) (size := 1) wr #[.int .i64 (r : Nat)] 1 (Nat.le_refl _) (by unfold maxLen; omega) rfl))
          go_wp2_with (at_builtin; refine append_ints rfl (.tmp 34) (.tmp 42) rfl W.heap.size _ j _ rfl (Hbb.out.alloc _) _ 1 [.int .i64 (r : Nat)] rfl Hlit.out (by simp [Value.oneCell']) (by omega) (by simp; omega) ?_; intro v7 w7 hown7 hg7 hat7; have Ho7 := Lib.hid hown7; have Hg7 := Lib.hid hg7; have Hat7 := Lib.hid hat7; clear hown7 hg7 hat7)
          go_roundw
          case rel =>
            refine ⟨_, j + 1, rfl, by go_num, by omega, Lib.hid (own_kept (Ha.out.alloc _) Hg7.out (fun g hg => Hap.out g hg)), Lib.hid (by rw [HS.out]; exact Ho7.out), Lib.hid (fun g hg e => ?_), (Hb.out.alloc hzb _).grown Hg7.out (Hb.out.alloc hzb _).size (own_ge0 Hbb.out)⟩
            rcases Hat7.out with h | h
            · exact Hap.out g hg (h ▸ e)
            · rw [h] at e
              have h1 := Option.some.inj e
              rw [World.size_alloc] at h1
              have h2 := (Ha.out.lt g hg).2
              omega
          case measure => simp [intOf] <;> omega
        · obtain rfl : j = d.next.length := by omega
          have hdj2 : decide (d.next.length < d.next.length) = false := decide_eq_false (by omega)
          obtain ⟨g3, c3, hv3, hg3b, hg3l, -⟩ := own_open Ha.out (by omega)
          subst hv3
          obtain ⟨u3, _, hs3, hf3⟩ := own_slot Ha.out (j := k) (by omega)
          have Hst := Lib.hid (Ha.out.stored k (.int .i64 2))
          have HT3 : Hid ((nints (Cir.tbits x d.ins)).set k (.int .i64 2) = nints ((Cir.tbits x d.ins).set k 2)) := Lib.hid (by
            unfold nints ints nats
            simp [List.map_set])
          go_wp2_with fail
          refine bodyPost_ret (v := .tuple #[.slice (some ⟨g3, 0, none⟩) d.ins c3, ub]) (by simp [results, Try.results91, go_sem]) rfl ⟨⟨_, _, rfl, ?_, ?_⟩, ?_⟩
          · have := Hst.out.1
            rw [HT3.out] at this
            exact nats_own this (by rw [List.length_set]; exact tbits_length _ _)
          · exact nats_own (own_kept Hbb.out Hst.out.2 (fun g hg e => Hap.out g e hg)) (tbits_length _ _)
          · exact B0.out.trans ((Hb.out.grown Hst.out.2 hzb (fun q hq => by have := Option.some.inj hq; omega)).mono B0.out.size)
theorem PCells.onlyH {E : Nat → Prop} {w w' : World} {g : Nat} {i : Int} {vn vg vo : Value} (h : PCells w g i vn vg vo) (ho : Only E w w') (hE : ¬ E g) : PCells w' g i vn vg vo := by
  obtain ⟨hg, c0, c1, c2, c3⟩ := h
  have hk := ho.block g hg hE
  exact ⟨Nat.lt_of_lt_of_le hg ho.size, (World.cell?_of_block (a := ⟨g, 0, none⟩) hk).trans c0, (World.cell?_of_block (a := ⟨g, 1, none⟩) hk).trans c1, (World.cell?_of_block (a := ⟨g, 2, none⟩) hk).trans c2, (World.cell?_of_block (a := ⟨g, 3, none⟩) hk).trans c3⟩
set_option maxHeartbeats 16000000 in
theorem specHaz_ok (v : Value) (d : Ci) (w : World) (h : CircAt w v (Cir.toCz d)) (hd : Cir.Ok d) (hv : Cir.valid (Cir.toCz d) = true) :
    Calls Try.prog 41 #[v] w (OwnHaz (Cir.hazards d) w) := by
  have l1 := hd.ins
  have l2 := hd.nexts
  have l3 := hd.gatess
  have l4 := hd.outss
  have HC := Lib.hid h
  obtain ⟨vn, vg, vo, rfl, r1, r2, r3⟩ := h
  obtain ⟨Ao, co, rfl, hco, hcom⟩ := NatsAt.shape (xs := d.outs) r3
  obtain ⟨An, cn, rfl, hcn, hcmn⟩ := NatsAt.shape (xs := d.next) r1
  have hins : (Cir.toCz d).ins = (d.ins : Int) := rfl
  rw [hins] at HC ⊢
  have B0 := Lib.hid (bel_new w (.cells #[.int .i64 d.ins, .slice An d.next.length cn, vg, .slice Ao d.outs.length co] 26))
  have PC := Lib.hid (PCells.boxed w d.ins (.slice An d.next.length cn) vg (.slice Ao d.outs.length co) 26)
  have hsz : (w.alloc (.cells #[.int .i64 d.ins, .slice An d.next.length cn, vg, .slice Ao d.outs.length co] 26)).heap.size = w.heap.size + 1 := by simp
  have HC0 := Lib.hid (HC.out.below B0.out)
  have HV := Lib.hid (fun w' hb => specValid_any _ _ w' (HC0.out.below hb))
  rw [hv] at HV
  have HO := Lib.hid (show NatsAt (w.alloc (.cells #[.int .i64 d.ins, .slice An d.next.length cn, vg, .slice Ao d.outs.length co] 26)) (.slice Ao d.outs.length co) d.outs from Row.below r3 B0.out)
  have Hd := Lib.hid hd
  have Hv := Lib.hid hv
  obtain ⟨M, hM⟩ : ∃ M : Nat, M = 2 ^ (d.ins + d.next.length) := ⟨_, rfl⟩
  have hM128 : M ≤ 128 := by rw [hM]; exact Nat.pow_le_pow_right (show 0 < 2 by decide) (show _ ≤ 7 by omega)
  have eM : (2 : Int) ^ (d.ins + d.next.length) = (M : Int) := by rw [hM]; exact two_pow _
  have hwM := IntWalk.i64_in (M : Int) (by omega)
  have hwS : IntKind.i64.wrap ((d.ins : Int) + (d.next.length : Int)) = (d.ins : Int) + (d.next.length : Int) := IntWalk.i64_in _ (by omega)
  have htS : ((d.ins : Int) + (d.next.length : Int)).toNat = d.ins + d.next.length := by omega
  have h0S : ¬ ((d.ins : Int) + (d.next.length : Int) < 0) := by omega
  have HH : Hid (Cir.hazards d = Cir.hzX d M) := Lib.hid (by rw [hM]; rfl)
  have HLX := Lib.hid (fun x => Cir.hzX_len d hd x)
  have HLK := Lib.hid (fun x k => Cir.hzK_len d hd x k)
  rw [HH.out]
  have HL0 : Hid (((w.alloc (.cells #[.int .i64 d.ins, .slice An d.next.length cn, vg, .slice Ao d.outs.length co] 26)).alloc (.cells #[] 61)).ownsRow (w.heap.size + 1) 61 3 (.slice (some ⟨w.heap.size + 1, 0, none⟩) 0 0) 0 (trips [])) := Lib.hid (by
    have := World.ownsRow_lit (base := w.heap.size + 1) (e := 61) (size := 3) (w.alloc (.cells #[.int .i64 d.ins, .slice An d.next.length cn, vg, .slice Ao d.outs.length co] 26)) #[] 0 (by simp) (by unfold maxLen; omega) rfl
    rwa [World.size_alloc] at this)
  have HB1 := Lib.hid (bel_new (w.alloc (.cells #[.int .i64 d.ins, .slice An d.next.length cn, vg, .slice Ao d.outs.length co] 26)) (.cells #[] 61))
  obtain ⟨z, p0, p1, p2, p3⟩ := PC.out.below HB1.out
  clear r1 r2 r3 hd hins hv HC hco hcom hcn hcmn hM HH
  go_enter Try.func41, Try.ntmps41
  go_wp2_with fail
  generalize w.alloc (.cells #[.int .i64 d.ins, .slice An d.next.length cn, vg, .slice Ao d.outs.length co] 26) = W at *
  refine (HV.out _ HB1.out).mono ?_
  rintro e w1 ⟨rfl, hb1⟩
  have Hb1 := Lib.hid (HB1.out.trans (hb1.mono HB1.out.size))
  have HL1 := Lib.hid (own_below HL0.out hb1)
  clear hb1 HB1 HL0 p0 p1 p2 p3 z HV
  obtain ⟨z, p0, p1, p2, p3⟩ := PC.out.below Hb1.out
  go_wp2_with fail
  clear z p0 p1 p2 p3
  go_loopw [3, 4] (fun v i wr => ∃ (vv : Value) (x : Nat), vv = v ∧ i = .int .i64 x ∧ x ≤ M ∧ Hid (wr.ownsRow W.heap.size 61 3 v (Cir.hzX d x).length (trips (Cir.hzX d x))) ∧ Below W.heap.size W wr) (fun _ i _ => M - (intOf i).toNat)
  case atStart => exact ⟨_, 0, rfl, rfl, Nat.zero_le _, Lib.hid (own_mono HL1.out (by omega)), Hb1.out⟩
  case round =>
    obtain ⟨vv, x, hvv, rfl, hx, Hl, hb⟩ := hrel
    subst hvv
    clear Hb1 HL1
    have Hb := Lib.hid hb
    have zb := hb.size
    have PCr := Lib.hid (PC.out.below hb)
    clear hb
    obtain ⟨z, p0, p1, p2, p3⟩ := PCr.out
    by_cases hlx : x < M
    · have hdx : decide (x < M) = true := decide_eq_true hlx
      have HX1 : Hid (Cir.hzX d (x + 1) = Cir.hzX d x ++ Cir.hzK d x d.ins) := Lib.hid rfl
      have hX := HLX.out x
      obtain ⟨X, hXe⟩ : ∃ X, Cir.hzX d x = X := ⟨_, rfl⟩
      have Hl0 : Hid (wr.ownsRow W.heap.size 61 3 vv (X ++ Cir.hzK d x 0).length (trips (X ++ Cir.hzK d x 0))) := Lib.hid (by rw [← hXe]; rw [show Cir.hzX d x ++ Cir.hzK d x 0 = Cir.hzX d x from List.append_nil _]; exact Hl.out)
      rw [hXe] at HX1 hX
      clear Hl hXe
      go_wp2_with fail
      clear z p0 p1 p2 p3
      go_loopw [3, 5] (fun v i wr => ∃ (vv : Value) (k : Nat), vv = v ∧ i = .int .i64 k ∧ k ≤ d.ins ∧ Hid (wr.ownsRow W.heap.size 61 3 v (X ++ Cir.hzK d x k).length (trips (X ++ Cir.hzK d x k))) ∧ Below W.heap.size W wr) (fun _ i _ => d.ins - (intOf i).toNat)
      case atStart => exact ⟨_, 0, rfl, rfl, Nat.zero_le _, Hl0, Hb.out⟩
      case round =>
        obtain ⟨vv, k, hvv, rfl, hk, Hl, hb⟩ := hrel
        subst hvv
        clear Hl0 PCr Hb zb
        have Hb := Lib.hid hb
        have zb := hb.size
        have PCr := Lib.hid (PC.out.below hb)
        clear hb
        obtain ⟨z, p0, p1, p2, p3⟩ := PCr.out
        by_cases hlk : k < d.ins
        · have hdk : decide (k < d.ins) = true := decide_eq_true hlk
          have g3 : (x : Int) / 2 ^ k = ((x / 2 ^ k : Nat) : Int) := by rw [Int.natCast_ediv, two_pow]
          have g1 := tmod_two (x / 2 ^ k)
          have g2 := (bit_and x k (by omega)).2.1
          have hK := HLK.out x k
          have HKs := Lib.hid (fun h => Cir.hzK_skip (d := d) (x := x) (k := k) h)
          have HKa := Lib.hid (fun h => Cir.hzK_all (d := d) (x := x) (k := k) h)
          generalize x / 2 ^ k = y at g1 g2 g3
          generalize y % 2 = r at g1 g2
          cases hbit : x.testBit k
          · have HKn := Lib.hid (HKa.out hbit)
            rw [hbit] at g2
            have hp8 := Cir.pow_small (k := k) (by omega)
            obtain ⟨p, hp⟩ : ∃ p, 2 ^ k = p := ⟨_, rfl⟩
            have hpI : (2 : Int) ^ k = (p : Int) := by rw [← hp]; exact two_pow k
            rw [hpI] at g3
            rw [hp] at hp8
            have hwp := IntWalk.i64_in (p : Int) (by omega)
            obtain ⟨xp, hxp⟩ : ∃ xp, x + p = xp := ⟨_, rfl⟩
            have hwxp : IntKind.i64.wrap ((x : Int) + (p : Int)) = (xp : Int) := (IntWalk.i64_in _ (by omega)).trans (by omega)
            have Hxp := Lib.hid hxp
            have hxpb : xp ≤ 1000 := by omega
            clear hxp
            clear HKs HKa hbit
            have HCk := Lib.hid (HC0.out.below Hb.out)
            obtain ⟨xq, hxq⟩ : ∃ q : Nat, x / 2 ^ d.ins = q := ⟨_, rfl⟩
            obtain ⟨yq, hyq⟩ : ∃ q : Nat, xp / 2 ^ d.ins = q := ⟨_, rfl⟩
            have hqx : (x : Int) / 2 ^ d.ins = (xq : Int) := by rw [← hxq, Int.natCast_ediv, two_pow]
            have hqy : (xp : Int) / 2 ^ d.ins = (yq : Int) := by rw [← hyq, Int.natCast_ediv, two_pow]
            have hxq2 : xq ≤ 1000 := by rw [← hxq]; exact Nat.le_trans (Nat.div_le_self _ _) (by omega)
            have hyq2 : yq ≤ 1000 := by rw [← hyq]; exact Nat.le_trans (Nat.div_le_self _ _) (by omega)
            have HoA : Hid (Cir.lits (Cir.vals d (Cir.bits xq d.next.length) (Cir.bits x d.ins)) d.outs = Cir.outsA d x) := Lib.hid (by rw [← hxq]; rfl)
            have HoB : Hid (Cir.lits (Cir.vals d (Cir.bits yq d.next.length) (Cir.bits xp d.ins)) d.outs = Cir.outsA d xp) := Lib.hid (by rw [← hyq]; rfl)
            have Hxq := Lib.hid hxq
            clear hxq hyq
            obtain ⟨Wk, hWk⟩ : ∃ Wk, Wk = wr := ⟨_, rfl⟩
            subst hWk
            go_wp2_with fail
            refine wp_region_rs (quietRS Try.prog _ Wk _) quietRS_ok (by kernel_rfl) (by kernel_rfl) (by kernel_rfl) (Nat.le_of_ble_eq_true rfl) trivial trivial ?_
            apply rs_eq quietRS_ok quiet_any
            · intro ρ w' ho hK
              have ho : Only _ Wk w' := ho
              obtain ⟨h0, -⟩ := hK
              have h0' : ρ (.tmp 1) = _ := h0
              have hb := only_below ho
              have q0 := (hb.cell (p := ⟨w.heap.size, 0, none⟩) z).trans p0
              have q1 := (hb.cell (p := ⟨w.heap.size, 1, none⟩) z).trans p1
              have q2 := (hb.cell (p := ⟨w.heap.size, 2, none⟩) z).trans p2
              have q3 := (hb.cell (p := ⟨w.heap.size, 3, none⟩) z).trans p3
              go_simp
              try exact rfl
            refine rs_old quietRS_ok quiet_any _ (.inl rfl) _ rfl rfl ?_
            apply rs_eq quietRS_ok quiet_any
            · intro ρ w' ho hK
              have ho : Only _ Wk w' := ho
              obtain ⟨h0, -⟩ := hK
              have h0' : ρ (.tmp 1) = _ := h0
              go_simp
              try exact rfl
            apply rs_eq quietRS_ok quiet_any
            · intro ρ w' ho hK
              have ho : Only _ Wk w' := ho
              obtain ⟨h0, -⟩ := hK
              have h0' : ρ (.tmp 46) = _ := h0
              have hb := only_below ho
              have q0 := (hb.cell (p := ⟨w.heap.size, 0, none⟩) z).trans p0
              have q1 := (hb.cell (p := ⟨w.heap.size, 1, none⟩) z).trans p1
              have q2 := (hb.cell (p := ⟨w.heap.size, 2, none⟩) z).trans p2
              have q3 := (hb.cell (p := ⟨w.heap.size, 3, none⟩) z).trans p3
              go_simp
              try exact rfl
            apply rs_eq quietRS_ok quiet_any
            · intro ρ w' ho hK
              have ho : Only _ Wk w' := ho
              obtain ⟨h0, h1, -⟩ := hK
              have h0' : ρ (.tmp 45) = _ := h0
              have h1' : ρ (.tmp 47) = _ := h1
              go_simp
              try exact rfl
            apply rs_eq quietRS_ok quiet_any
            · intro ρ w' ho hK
              have ho : Only _ Wk w' := ho
              obtain ⟨h0, -⟩ := hK
              have h0' : ρ (.tmp 1) = _ := h0
              go_simp
              try exact rfl
            apply rs_eq quietRS_ok quiet_any
            · intro ρ w' ho hK
              have ho : Only _ Wk w' := ho
              obtain ⟨h0, -⟩ := hK
              have h0' : ρ (.tmp 49) = _ := h0
              have hb := only_below ho
              have q0 := (hb.cell (p := ⟨w.heap.size, 0, none⟩) z).trans p0
              have q1 := (hb.cell (p := ⟨w.heap.size, 1, none⟩) z).trans p1
              have q2 := (hb.cell (p := ⟨w.heap.size, 2, none⟩) z).trans p2
              have q3 := (hb.cell (p := ⟨w.heap.size, 3, none⟩) z).trans p3
              go_simp
              try exact rfl
            apply rs_eq quietRS_ok quiet_any
            · intro ρ w' ho hK
              have ho : Only _ Wk w' := ho
              obtain ⟨h0, -⟩ := hK
              have h0' : ρ (.tmp 50) = _ := h0
              go_simp
              try exact rfl
            refine rs_call quietRS_ok quiet_any (TBools (Cir.bits xq d.next.length)) (stb_bools _) 90 _ _ rfl (fun ρ w' ho hK => by
              have ho : Only _ Wk w' := ho
              obtain ⟨h0, h1, h2, -⟩ := hK
              have h0' : ρ (.func 90) = .func (.func 90) #[] #[] := h0
              have h1' : ρ (.tmp 48) = _ := h1
              have h2' : ρ (.tmp 51) = _ := h2
              refine ⟨#[ρ (.tmp 48), ρ (.tmp 51)], ?_, ?_⟩
              · go_simp
              · rw [h1', h2']
                refine (l4Bits_any xq d.next.length w' (by omega) (by omega)).mono ?_
                rintro e w2 ⟨v2, rfl, hO, hb⟩
                exact ⟨v2, rfl, Row.of_own hO, hb⟩) ?_
            refine rs_old quietRS_ok quiet_any _ (.inl rfl) _ rfl rfl ?_
            apply rs_eq quietRS_ok quiet_any
            · intro ρ w' ho hK
              have ho : Only _ Wk w' := ho
              obtain ⟨h0, -⟩ := hK
              have h0' : ρ (.tmp 1) = _ := h0
              go_simp
              try exact rfl
            apply rs_eq quietRS_ok quiet_any
            · intro ρ w' ho hK
              have ho : Only _ Wk w' := ho
              obtain ⟨h0, -⟩ := hK
              have h0' : ρ (.tmp 54) = _ := h0
              have hb := only_below ho
              have q0 := (hb.cell (p := ⟨w.heap.size, 0, none⟩) z).trans p0
              have q1 := (hb.cell (p := ⟨w.heap.size, 1, none⟩) z).trans p1
              have q2 := (hb.cell (p := ⟨w.heap.size, 2, none⟩) z).trans p2
              have q3 := (hb.cell (p := ⟨w.heap.size, 3, none⟩) z).trans p3
              go_simp
              try exact rfl
            refine rs_call quietRS_ok quiet_any (TBools (Cir.bits x d.ins)) (stb_bools _) 90 _ _ rfl (fun ρ w' ho hK => by
              have ho : Only _ Wk w' := ho
              obtain ⟨h0, h1, h2, -⟩ := hK
              have h0' : ρ (.func 90) = .func (.func 90) #[] #[] := h0
              have h1' : ρ (.tmp 53) = _ := h1
              have h2' : ρ (.tmp 55) = _ := h2
              refine ⟨#[ρ (.tmp 53), ρ (.tmp 55)], ?_, ?_⟩
              · go_simp
              · rw [h1', h2']
                refine (l4Bits_any x d.ins w' (by omega) (by omega)).mono ?_
                rintro e w2 ⟨v2, rfl, hO, hb⟩
                exact ⟨v2, rfl, Row.of_own hO, hb⟩) ?_
            refine rs_call quietRS_ok quiet_any (TStepIn Wk.heap.size (Cir.outsA d x) (Cir.lits (Cir.vals d (Cir.bits xq d.next.length) (Cir.bits x d.ins)) d.next)) (stb_stepIn _ _ _) 89 _ _ rfl (fun ρ w' ho hK => by
              have ho : Only _ Wk w' := ho
              obtain ⟨h0, h1, h2, h3, -⟩ := hK
              have h0' : ρ (.func 89) = .func (.func 89) #[] #[] := h0
              have h1' : ρ (.tmp 44) = _ := h1
              have h2' : (TBools (Cir.bits xq d.next.length)) w' (ρ (.tmp 52)) := h2
              have h3' : (TBools (Cir.bits x d.ins)) w' (ρ (.tmp 56)) := h3
              refine ⟨#[ρ (.tmp 44), ρ (.tmp 52), ρ (.tmp 56)], ?_, ?_⟩
              · go_simp
              · rw [h1']
                refine (l2Step_any _ _ _ d _ _ w' (HCk.out.below (only_below ho)) Hd.out h2' h3' (Cir.bits_length _ _) (Cir.bits_length _ _)).mono ?_
                rintro e w2 ⟨a, b, rfl, oa, ob, hb⟩
                exact ⟨_, rfl, ⟨a, b, rfl, by rw [← HoA.out]; exact (RowIn.of_own oa).mono (fun g hg => Nat.le_trans (ho.size) hg.1), Row.of_own ob⟩, hb⟩) ?_
            refine rs_look quietRS_ok quiet_any (TInB (From Wk.heap.size) (Cir.outsA d x)) (stb_inB _ _) (fun ρ w' ho hK => by
              obtain ⟨h0, -⟩ := hK
              obtain ⟨a, b, e0, ha, hb⟩ : (TStepIn Wk.heap.size (Cir.outsA d x) (Cir.lits (Cir.vals d (Cir.bits xq d.next.length) (Cir.bits x d.ins)) d.next)) w' (ρ (.tmp 57)) := h0
              obtain ⟨Aa, ca, rfl, -⟩ := Row.shape ha.1
              obtain ⟨Ab, cb, rfl, -⟩ := Row.shape hb
              have hf := fun n m => step_field0 Aa Ab n m ca cb w'
              refine ⟨_, ?_, ha⟩
              go_simp) ?_
            refine rs_same quietRS_ok quiet_any 58 14 (.inr rfl) rfl _ rfl ?_
            intro f w9 k9 hk9 hI9 ht9 hcp9
            have E0 : f 0 = _ := ht9 0 (Nat.le_of_ble_eq_true rfl)
            have E1 : f 1 = _ := ht9 1 (Nat.le_of_ble_eq_true rfl)
            conv at E1 => rhs; whnf
            have E2 : f 2 = _ := ht9 2 (Nat.le_of_ble_eq_true rfl)
            have E3 : f 3 = _ := ht9 3 (Nat.le_of_ble_eq_true rfl)
            have E4 : f 4 = _ := ht9 4 (Nat.le_of_ble_eq_true rfl)
            have E5 : f 5 = _ := ht9 5 (Nat.le_of_ble_eq_true rfl)
            have E6 : f 6 = _ := ht9 6 (Nat.le_of_ble_eq_true rfl)
            have E7 : f 7 = _ := ht9 7 (Nat.le_of_ble_eq_true rfl)
            have E8 : (TBools (Cir.bits xq d.next.length)) w9 (f 8) := ht9 8 (Nat.le_of_ble_eq_true rfl)
            have E9 : f 9 = _ := ht9 9 (Nat.le_of_ble_eq_true rfl)
            conv at E9 => rhs; whnf
            have E10 : f 10 = _ := ht9 10 (Nat.le_of_ble_eq_true rfl)
            have E11 : f 11 = _ := ht9 11 (Nat.le_of_ble_eq_true rfl)
            have E12 : (TBools (Cir.bits x d.ins)) w9 (f 12) := ht9 12 (Nat.le_of_ble_eq_true rfl)
            have E13 : (TStepIn Wk.heap.size (Cir.outsA d x) (Cir.lits (Cir.vals d (Cir.bits xq d.next.length) (Cir.bits x d.ins)) d.next)) w9 (f 13) := ht9 13 (Nat.le_of_ble_eq_true rfl)
            have E14 : (TInB (From Wk.heap.size) (Cir.outsA d x)) w9 (f 14) := ht9 14 (Nat.le_of_ble_eq_true rfl)
            have E15 : (TInB (From Wk.heap.size) (Cir.outsA d x)) w9 (f 15) := ht9 15 (Nat.le_of_ble_eq_true rfl)
            have Ho9 : Only _ Wk w9 := hI9.2.1
            have C15 : f 15 = f 14 := (hcp9 15 _ 58 14 rfl rfl rfl rfl).2
            simp only [putAll, E0, E1, E2, E3, E4, E5, E6, E7, E9, E10, E11, C15, Nat.zero_add, Nat.reduceAdd, Act.put, List.setIfInBounds_toArray, List.set_cons_succ, List.set_cons_zero]
            clear E0 E1 E2 E3 E4 E5 E6 E7 E9 E10 E11
            clear hI9 ht9 hcp9 hk9
            generalize f 8 = r8 at *
            generalize f 12 = r12 at *
            generalize f 13 = r13 at *
            generalize f 14 = r14 at *
            have hb8 := only_below Ho9
            have HA := Lib.hid (show RowIn (From Wk.heap.size) w9 1 r14 (Cir.outsA d x).length (bools (Cir.outsA d x)) from E14)
            have Hb8 := Lib.hid hb8
            have z8 := hb8.size
            have PC8 := Lib.hid (PCr.out.below hb8)
            clear hb8 Ho9 E8 E12 E13 E14 E15 p0 p1 p2 p3 z
            obtain ⟨z, p0, p1, p2, p3⟩ := PC8.out
            obtain ⟨w8, hw8⟩ : ∃ w8, w8 = w9 := ⟨_, rfl⟩
            subst hw8
            obtain ⟨uA, huA⟩ : ∃ u, u = r14 := ⟨_, rfl⟩
            subst huA
            go_wp2_with fail
            refine wp_region_rs (quietRS Try.prog _ w8 _) quietRS_ok (by kernel_rfl) (by kernel_rfl) (by kernel_rfl) (Nat.le_of_ble_eq_true rfl) trivial trivial ?_
            apply rs_eq quietRS_ok quiet_any
            · intro ρ w' ho hK
              have ho : Only _ w8 w' := ho
              obtain ⟨h0, -⟩ := hK
              have h0' : ρ (.tmp 1) = _ := h0
              have hb := only_below ho
              have q0 := (hb.cell (p := ⟨w.heap.size, 0, none⟩) z).trans p0
              have q1 := (hb.cell (p := ⟨w.heap.size, 1, none⟩) z).trans p1
              have q2 := (hb.cell (p := ⟨w.heap.size, 2, none⟩) z).trans p2
              have q3 := (hb.cell (p := ⟨w.heap.size, 3, none⟩) z).trans p3
              go_simp
              try exact rfl
            refine rs_old quietRS_ok quiet_any _ (.inl rfl) _ rfl rfl ?_
            apply rs_eq quietRS_ok quiet_any
            · intro ρ w' ho hK
              have ho : Only _ w8 w' := ho
              obtain ⟨h0, -⟩ := hK
              have h0' : ρ (.tmp 1) = _ := h0
              go_simp
              try exact rfl
            apply rs_eq quietRS_ok quiet_any
            · intro ρ w' ho hK
              have ho : Only _ w8 w' := ho
              obtain ⟨h0, -⟩ := hK
              have h0' : ρ (.tmp 61) = _ := h0
              have hb := only_below ho
              have q0 := (hb.cell (p := ⟨w.heap.size, 0, none⟩) z).trans p0
              have q1 := (hb.cell (p := ⟨w.heap.size, 1, none⟩) z).trans p1
              have q2 := (hb.cell (p := ⟨w.heap.size, 2, none⟩) z).trans p2
              have q3 := (hb.cell (p := ⟨w.heap.size, 3, none⟩) z).trans p3
              go_simp
              try exact rfl
            apply rs_eq quietRS_ok quiet_any
            · intro ρ w' ho hK
              have ho : Only _ w8 w' := ho
              obtain ⟨h0, h1, -⟩ := hK
              have h0' : ρ (.tmp 60) = _ := h0
              have h1' : ρ (.tmp 62) = _ := h1
              go_simp
              try exact rfl
            apply rs_eq quietRS_ok quiet_any
            · intro ρ w' ho hK
              have ho : Only _ w8 w' := ho
              obtain ⟨h0, -⟩ := hK
              have h0' : ρ (.tmp 1) = _ := h0
              go_simp
              try exact rfl
            apply rs_eq quietRS_ok quiet_any
            · intro ρ w' ho hK
              have ho : Only _ w8 w' := ho
              obtain ⟨h0, -⟩ := hK
              have h0' : ρ (.tmp 64) = _ := h0
              have hb := only_below ho
              have q0 := (hb.cell (p := ⟨w.heap.size, 0, none⟩) z).trans p0
              have q1 := (hb.cell (p := ⟨w.heap.size, 1, none⟩) z).trans p1
              have q2 := (hb.cell (p := ⟨w.heap.size, 2, none⟩) z).trans p2
              have q3 := (hb.cell (p := ⟨w.heap.size, 3, none⟩) z).trans p3
              go_simp
              try exact rfl
            apply rs_eq quietRS_ok quiet_any
            · intro ρ w' ho hK
              have ho : Only _ w8 w' := ho
              obtain ⟨h0, -⟩ := hK
              have h0' : ρ (.tmp 65) = _ := h0
              go_simp
              try exact rfl
            refine rs_call quietRS_ok quiet_any (TBools (Cir.bits yq d.next.length)) (stb_bools _) 90 _ _ rfl (fun ρ w' ho hK => by
              have ho : Only _ w8 w' := ho
              obtain ⟨h0, h1, h2, -⟩ := hK
              have h0' : ρ (.func 90) = .func (.func 90) #[] #[] := h0
              have h1' : ρ (.tmp 63) = _ := h1
              have h2' : ρ (.tmp 66) = _ := h2
              refine ⟨#[ρ (.tmp 63), ρ (.tmp 66)], ?_, ?_⟩
              · go_simp
              · rw [h1', h2']
                refine (l4Bits_any yq d.next.length w' (by omega) (by omega)).mono ?_
                rintro e w2 ⟨v2, rfl, hO, hb⟩
                exact ⟨v2, rfl, Row.of_own hO, hb⟩) ?_
            refine rs_old quietRS_ok quiet_any _ (.inl rfl) _ rfl rfl ?_
            apply rs_eq quietRS_ok quiet_any
            · intro ρ w' ho hK
              have ho : Only _ w8 w' := ho
              obtain ⟨h0, -⟩ := hK
              have h0' : ρ (.tmp 1) = _ := h0
              go_simp
              try exact rfl
            apply rs_eq quietRS_ok quiet_any
            · intro ρ w' ho hK
              have ho : Only _ w8 w' := ho
              obtain ⟨h0, -⟩ := hK
              have h0' : ρ (.tmp 69) = _ := h0
              have hb := only_below ho
              have q0 := (hb.cell (p := ⟨w.heap.size, 0, none⟩) z).trans p0
              have q1 := (hb.cell (p := ⟨w.heap.size, 1, none⟩) z).trans p1
              have q2 := (hb.cell (p := ⟨w.heap.size, 2, none⟩) z).trans p2
              have q3 := (hb.cell (p := ⟨w.heap.size, 3, none⟩) z).trans p3
              go_simp
              try exact rfl
            refine rs_call quietRS_ok quiet_any (TBools (Cir.bits xp d.ins)) (stb_bools _) 90 _ _ rfl (fun ρ w' ho hK => by
              have ho : Only _ w8 w' := ho
              obtain ⟨h0, h1, h2, -⟩ := hK
              have h0' : ρ (.func 90) = .func (.func 90) #[] #[] := h0
              have h1' : ρ (.tmp 68) = _ := h1
              have h2' : ρ (.tmp 70) = _ := h2
              refine ⟨#[ρ (.tmp 68), ρ (.tmp 70)], ?_, ?_⟩
              · go_simp
              · rw [h1', h2']
                refine (l4Bits_any xp d.ins w' (by omega) (by omega)).mono ?_
                rintro e w2 ⟨v2, rfl, hO, hb⟩
                exact ⟨v2, rfl, Row.of_own hO, hb⟩) ?_
            refine rs_call quietRS_ok quiet_any (TStepIn Wk.heap.size (Cir.outsA d xp) (Cir.lits (Cir.vals d (Cir.bits yq d.next.length) (Cir.bits xp d.ins)) d.next)) (stb_stepIn _ _ _) 89 _ _ rfl (fun ρ w' ho hK => by
              have ho : Only _ w8 w' := ho
              obtain ⟨h0, h1, h2, h3, -⟩ := hK
              have h0' : ρ (.func 89) = .func (.func 89) #[] #[] := h0
              have h1' : ρ (.tmp 59) = _ := h1
              have h2' : (TBools (Cir.bits yq d.next.length)) w' (ρ (.tmp 67)) := h2
              have h3' : (TBools (Cir.bits xp d.ins)) w' (ρ (.tmp 71)) := h3
              refine ⟨#[ρ (.tmp 59), ρ (.tmp 67), ρ (.tmp 71)], ?_, ?_⟩
              · go_simp
              · rw [h1']
                refine (l2Step_any _ _ _ d _ _ w' (HCk.out.below (Hb8.out.trans ((only_below ho).mono z8))) Hd.out h2' h3' (Cir.bits_length _ _) (Cir.bits_length _ _)).mono ?_
                rintro e w2 ⟨a, b, rfl, oa, ob, hb⟩
                exact ⟨_, rfl, ⟨a, b, rfl, by rw [← HoB.out]; exact (RowIn.of_own oa).mono (fun g hg => Nat.le_trans (Nat.le_trans z8 ho.size) hg.1), Row.of_own ob⟩, hb⟩) ?_
            refine rs_look quietRS_ok quiet_any (TInB (From Wk.heap.size) (Cir.outsA d xp)) (stb_inB _ _) (fun ρ w' ho hK => by
              obtain ⟨h0, -⟩ := hK
              obtain ⟨a, b, e0, ha, hb⟩ : (TStepIn Wk.heap.size (Cir.outsA d xp) (Cir.lits (Cir.vals d (Cir.bits yq d.next.length) (Cir.bits xp d.ins)) d.next)) w' (ρ (.tmp 72)) := h0
              obtain ⟨Aa, ca, rfl, -⟩ := Row.shape ha.1
              obtain ⟨Ab, cb, rfl, -⟩ := Row.shape hb
              have hf := fun n m => step_field0 Aa Ab n m ca cb w'
              refine ⟨_, ?_, ha⟩
              go_simp) ?_
            refine rs_same quietRS_ok quiet_any 73 14 (.inr rfl) rfl _ rfl ?_
            intro f w9 k9 hk9 hI9 ht9 hcp9
            have E0 : f 0 = _ := ht9 0 (Nat.le_of_ble_eq_true rfl)
            have E1 : f 1 = _ := ht9 1 (Nat.le_of_ble_eq_true rfl)
            conv at E1 => rhs; whnf
            have E2 : f 2 = _ := ht9 2 (Nat.le_of_ble_eq_true rfl)
            have E3 : f 3 = _ := ht9 3 (Nat.le_of_ble_eq_true rfl)
            have E4 : f 4 = _ := ht9 4 (Nat.le_of_ble_eq_true rfl)
            have E5 : f 5 = _ := ht9 5 (Nat.le_of_ble_eq_true rfl)
            have E6 : f 6 = _ := ht9 6 (Nat.le_of_ble_eq_true rfl)
            have E7 : f 7 = _ := ht9 7 (Nat.le_of_ble_eq_true rfl)
            have E8 : (TBools (Cir.bits yq d.next.length)) w9 (f 8) := ht9 8 (Nat.le_of_ble_eq_true rfl)
            have E9 : f 9 = _ := ht9 9 (Nat.le_of_ble_eq_true rfl)
            conv at E9 => rhs; whnf
            have E10 : f 10 = _ := ht9 10 (Nat.le_of_ble_eq_true rfl)
            have E11 : f 11 = _ := ht9 11 (Nat.le_of_ble_eq_true rfl)
            have E12 : (TBools (Cir.bits xp d.ins)) w9 (f 12) := ht9 12 (Nat.le_of_ble_eq_true rfl)
            have E13 : (TStepIn Wk.heap.size (Cir.outsA d xp) (Cir.lits (Cir.vals d (Cir.bits yq d.next.length) (Cir.bits xp d.ins)) d.next)) w9 (f 13) := ht9 13 (Nat.le_of_ble_eq_true rfl)
            have E14 : (TInB (From Wk.heap.size) (Cir.outsA d xp)) w9 (f 14) := ht9 14 (Nat.le_of_ble_eq_true rfl)
            have E15 : (TInB (From Wk.heap.size) (Cir.outsA d xp)) w9 (f 15) := ht9 15 (Nat.le_of_ble_eq_true rfl)
            have Ho9 : Only _ w8 w9 := hI9.2.1
            have C15 : f 15 = f 14 := (hcp9 15 _ 73 14 rfl rfl rfl rfl).2
            simp only [putAll, E0, E1, E2, E3, E4, E5, E6, E7, E9, E10, E11, C15, Nat.zero_add, Nat.reduceAdd, Act.put, List.setIfInBounds_toArray, List.set_cons_succ, List.set_cons_zero]
            clear E0 E1 E2 E3 E4 E5 E6 E7 E9 E10 E11
            clear hI9 ht9 hcp9 hk9
            generalize f 8 = r8 at *
            generalize f 12 = r12 at *
            generalize f 13 = r13 at *
            generalize f 14 = r14 at *
            have hb9 := only_below Ho9
            have HA9 := Lib.hid (HA.out.below hb9)
            have HB9 := Lib.hid (show RowIn (From Wk.heap.size) w9 1 r14 (Cir.outsA d xp).length (bools (Cir.outsA d xp)) from E14)
            have Hb9 := Lib.hid (Hb8.out.trans (hb9.mono z8))
            have z9 := Nat.le_trans z8 hb9.size
            have PC9 := Lib.hid (PCr.out.below Hb9.out)
            clear hb9 Ho9 E8 E12 E13 E14 E15 p0 p1 p2 p3 z PC8 HA HoA HoB hqx hqy hxq2 hyq2 g1 g2 g3
            obtain ⟨z, p0, p1, p2, p3⟩ := PC9.out
            obtain ⟨wa, hwa⟩ : ∃ wa, wa = w9 := ⟨_, rfl⟩
            subst hwa
            obtain ⟨uB, huB⟩ : ∃ u, u = r14 := ⟨_, rfl⟩
            subst huB
            go_wp2_with fail
            refine (l33Terns_any _ d x k _ (HCk.out.below Hb9.out) Hd.out (by omega) hlk).mono ?_
            rintro e wb ⟨⟨ta, tb, rfl, hta, htb⟩, hbb⟩
            rw [Hxq.out] at htb
            have Hta := Lib.hid hta
            have Htb := Lib.hid htb
            have HAb := Lib.hid (HA9.out.below hbb)
            have HBb := Lib.hid (HB9.out.below hbb)
            have Hbb := Lib.hid (Hb9.out.trans (hbb.mono z9))
            have zb2 := Nat.le_trans z9 hbb.size
            have PCb := Lib.hid (PCr.out.below Hbb.out)
            clear hta htb hbb HA9 HB9 p0 p1 p2 p3 z PC9
            obtain ⟨z, p0, p1, p2, p3⟩ := PCb.out
            go_wp2_with fail
            refine (specEvalT_ok _ _ _ d _ _ _ (HCk.out.below Hbb.out) Hd.out Hv.out Htb.out Hta.out (by rw [List.length_set]; exact tbits_length _ _) (tbits_length _ _) (Cir.terns_le _) (fun t ht => by
              rcases List.mem_or_eq_of_mem_set ht with h | h
              · exact Cir.terns_le _ t h
              · omega)).mono ?_
            rintro e wc ⟨v7, rfl, hown7, hbc⟩
            have HV7 : Hid (Cir.tvals d (Cir.tbits xq d.next.length) ((Cir.tbits x d.ins).set k 2) = Cir.hzV d x k) := Lib.hid (by rw [← Hxq.out]; rfl)
            rw [HV7.out] at hown7
            have HT := Lib.hid (show RowIn (From Wk.heap.size) wc 1 v7 (nats (Cir.hzV d x k)).length (ints (nats (Cir.hzV d x k))) from (RowIn.of_own hown7).mono fun g hg => Nat.le_trans zb2 hg.1)
            have HA := Lib.hid (HAb.out.below hbc)
            have HB := Lib.hid (HBb.out.below hbc)
            have Hb9 := Lib.hid (Hbb.out.trans (hbc.mono zb2))
            have z9 := Nat.le_trans zb2 hbc.size
            clear hown7 hbc HAb HBb Hta Htb p0 p1 p2 p3 z PCb HV7 Hbb zb2 Hb8 z8
            have PC9 := Lib.hid (PCr.out.below Hb9.out)
            have HbW := Lib.hid (Hb.out.trans (Hb9.out.mono zb))
            have HO9 := Lib.hid ((RowIn.of_row (show Row W 1 (.slice Ao d.outs.length co) (nats d.outs).length (ints (nats d.outs)) from HO.out)).below HbW.out)
            have HP0 : Hid (∀ g, vv.ownBlock = some g → W.heap.size ≤ g ∧ (g < Wk.heap.size ∨ wc.heap.size ≤ g)) := Lib.hid fun g hg => ⟨(Hl.out.lt g hg).1, .inl (Hl.out.lt g hg).2⟩
            obtain ⟨z, p0, p1, p2, p3⟩ := PC9.out
            have hvl := Cir.hzV_length d x k
            have hvle := Lib.hid (Cir.hzV_le d x k)
            have hnv : Cir.nvars d ≤ 22 := by unfold Cir.nvars Cir.nfirst; omega
            obtain ⟨n0, hn0⟩ : ∃ n0, (X ++ Cir.hzK d x k).length = n0 := ⟨_, rfl⟩
            have hn0b : n0 ≤ 12 * x + 3 * k := by rw [← hn0, List.length_append]; omega
            have Hl0 : Hid (wc.ownsRow W.heap.size 61 3 vv ((X ++ Cir.hzK d x k) ++ Cir.hzO d x k 0).length (trips ((X ++ Cir.hzK d x k) ++ Cir.hzO d x k 0))) := Lib.hid (by
              rw [show (X ++ Cir.hzK d x k) ++ Cir.hzO d x k 0 = X ++ Cir.hzK d x k from List.append_nil _]
              exact own_below Hl.out Hb9.out)
            have HKn2 : Hid (X ++ Cir.hzK d x (k + 1) = (X ++ Cir.hzK d x k) ++ Cir.hzO d x k d.outs.length) := Lib.hid (by rw [HKn.out, List.append_assoc])
            have HZ : Hid (∀ o, Cir.hz d x k o = ((Cir.outsA d x).getD o false == (Cir.outsA d xp).getD o false && Cir.tlit (Cir.hzV d x k) (d.outs.getD o 0) == 2)) := Lib.hid (fun o => by rw [← Hxp.out, ← hp]; rfl)
            have HY : Hid (∀ o, Cir.hz d x k o = true → Cir.hzO d x k (o + 1) = Cir.hzO d x k o ++ [(x, xp, o)]) := Lib.hid (fun o h => by rw [← Hxp.out, ← hp]; exact Cir.hzO_yes h)
            have HNo : Hid (∀ o, Cir.hz d x k o = false → Cir.hzO d x k (o + 1) = Cir.hzO d x k o) := Lib.hid (fun o h => Cir.hzO_no h)
            have HLO := Lib.hid (fun o => Cir.hzO_len d x k o)
            generalize X ++ Cir.hzK d x k = Y at *
            generalize Cir.hzV d x k = V at *
            have HAl := Lib.hid (fun o (ho : o < d.outs.length) => Cir.outsA_get (d := d) (x := x) ho)
            have HBl := Lib.hid (fun o (ho : o < d.outs.length) => Cir.outsA_get (d := d) (x := xp) ho)
            have hLA := Cir.outsA_length d x
            have hLB := Cir.outsA_length d xp
            generalize Cir.outsA d x = OA at *
            generalize Cir.outsA d xp = OB at *
            obtain ⟨A7, c7, e7, -, -⟩ := NatsAt.shape (xs := V) HT.out.1
            subst e7
            clear hpI hwp hp hp8 HKn hK HCk hdk
            go_wp2_with fail
            clear z p0 p1 p2 p3
            go_loopw [3, 12] (fun v i wr => ∃ (vv : Value) (o : Nat), vv = v ∧ i = .int .i64 o ∧ o ≤ d.outs.length ∧ Hid (wr.ownsRow W.heap.size 61 3 v (Y ++ Cir.hzO d x k o).length (trips (Y ++ Cir.hzO d x k o))) ∧ Hid (∀ g, v.ownBlock = some g → W.heap.size ≤ g ∧ (g < Wk.heap.size ∨ wc.heap.size ≤ g)) ∧ Only (fun g => W.heap.size ≤ g ∧ g < Wk.heap.size) wc wr) (fun _ i _ => d.outs.length - (intOf i).toNat)
            case atStart => exact ⟨_, 0, rfl, rfl, Nat.zero_le _, Hl0, HP0, Only.refl _ _⟩
            case round =>
              obtain ⟨uu, o, huu, rfl, ho, Hu, HP, hb⟩ := hrel
              subst huu
              clear Hl0
              have Hbo := Lib.hid hb
              have zo := hb.size
              have PCo := Lib.hid (PCells.onlyH PC9.out hb (by omega))
              clear hb
              obtain ⟨z, p0, p1, p2, p3⟩ := PCo.out
              by_cases hlo : o < d.outs.length
              · have hdo : decide (o < d.outs.length) = true := decide_eq_true hlo
                obtain ⟨bA, oA, cA, eA, hbA, hcA⟩ := boolsAt_cell (HA.out.only Hbo.out (fun g h e => Nat.lt_irrefl _ (Nat.lt_of_lt_of_le e.2 h))).1 (HAl.out o hlo)
                obtain ⟨bB, oB, cB, eB, hbB, hcB⟩ := boolsAt_cell (HB.out.only Hbo.out (fun g h e => Nat.lt_irrefl _ (Nat.lt_of_lt_of_le e.2 h))).1 (HBl.out o hlo)
                rw [hLA] at eA
                rw [hLB] at eB
                subst eA eB
                obtain ⟨b', o', l, rfl, hbl', hx0, hs0⟩ := nats_cell (nats_row (show NatsAt _ (.slice Ao d.outs.length co) d.outs from (HO9.out.only Hbo.out (fun g h e => Nat.lt_irrefl _ (Nat.lt_of_lt_of_le h e.1))).1)) rfl hlo
                have hl2 := Hd.out.out l (List.mem_of_getElem? hx0.out)
                have hgl : d.outs.getD o 0 = l := by rw [List.getD_eq_getElem?_getD, hx0.out]; rfl
                have HZo := Lib.hid (HZ.out o)
                rw [hgl] at HZo
                have hlO := HLO.out o
                have hlen : (Y ++ Cir.hzO d x k o).length ≤ n0 + 3 := by rw [List.length_append]; omega
                have ht2 := Cir.tlit_le hvle.out l
                have HTr := Lib.hid (show NatsAt wr (.slice A7 V.length c7) V from (HT.out.only Hbo.out (fun g h e => Nat.lt_irrefl _ (Nat.lt_of_lt_of_le e.2 h))).1)
                have ga := gw_cell hcA hbA
                have gb := gw_cell hcB hbB
                have gs := gw_cell hs0 hbl'
                have g0 := gw_cell p0 z
                have g1 := gw_cell p1 z
                have g2 := gw_cell p2 z
                have g3 := gw_cell p3 z
                have HTC : Hid (∀ n : GW wr, Calls Try.prog 69 #[.slice A7 (Cir.nvars d) c7, .int .i64 (l : Nat)] (gw n) fun e w' => e = .returned (.int .i64 (Cir.tlit V l : Nat)) ∧ gw n = w') := Lib.hid fun n => (by rw [← hvl]; exact l27Lit_any _ V l (gw n) (Row.below HTr.out (gw_below n)) (by rw [hvl]; exact hl2) (by omega) hvle.out)
                obtain ⟨T, hTe⟩ : ∃ T, Cir.tlit V l = T := ⟨_, rfl⟩
                rw [hTe] at HTC HZo ht2
                clear hTe
                have HYo := Lib.hid (HY.out o)
                have HNoo := Lib.hid (HNo.out o)
                obtain ⟨ba, hba⟩ : ∃ ba, OA.getD o false = ba := ⟨_, rfl⟩
                rw [hba] at hcA ga HZo
                clear hba
                obtain ⟨bb, hbb⟩ : ∃ bb, OB.getD o false = bb := ⟨_, rfl⟩
                rw [hbb] at hcB gb HZo
                clear hbb
                clear hx0 hgl hl2 HZ HY HNo hlO
                rcases (Bool.eq_false_or_eq_true (ba == bb)).symm with hab | hab
                · have HR := Lib.hid (HNoo.out (hz_no1 HZo.out hab))
                  clear HYo HNoo HZo HTC
                  go_wp2_with fail
                  refine wp_region_grow (by kernel_rfl) (by kernel_rfl) ?_
                  repeat (go_big_quiet_step ((fail)))
                  refine wpQuiet_nil ?_
                  intro _ hw'
                  obtain ⟨nq, hw''⟩ := hw'
                  subst hw''
                  have hgq := gw_below nq
                  generalize gw nq = wq at *
                  clear nq
                  have Hb10 := Lib.hid (Hbo.out.trans (Only.of_below _ hgq))
                  have Hu10 := Lib.hid (own_below Hu.out hgq)
                  clear hgq ga gb gs g0 g1 g2 g3 hcA hcB hs0 z p0 p1 p2 p3
                  go_wp2_with fail
                  go_roundw
                  case rel => exact ⟨_, o + 1, rfl, by go_num, by omega, Lib.hid (by rw [HR.out]; exact Hu10.out), HP, Hb10.out⟩
                  case measure => simp [intOf] <;> omega
                · by_cases hT : T = 2
                  · have HR := Lib.hid (HYo.out (hz_yes HZo.out hab (by rw [hT]; rfl)))
                    subst hT
                    clear HYo HNoo HZo
                    go_wp2_with fail
                    refine wp_region_grow (by kernel_rfl) (by kernel_rfl) ?_
                    repeat (go_big_quiet_step ((go_at_call 69; exact grow_same (HTC.out _))))
                    refine wpQuiet_nil ?_
                    intro _ hw'
                    obtain ⟨nq, hw''⟩ := hw'
                    subst hw''
                    have hgq := gw_below nq
                    generalize gw nq = wq at *
                    clear nq
                    have Hb10 := Lib.hid (Hbo.out.trans (Only.of_below _ hgq))
                    have Hu10 := Lib.hid (own_below Hu.out hgq)
                    have z10 := Nat.le_trans zo hgq.size
                    clear hgq ga gb gs g0 g1 g2 g3 hcA hcB hs0 HTC z p0 p1 p2 p3
                    have Hlit := Lib.hid (Row.of_own (World.ownsRow_lit (base := wq.heap.size) (e := 61) (size := 3) wq #[.int .i64 x, .int .i64 (xp : Int), .int .i64 o] 1 (Nat.le_refl _) (by unfold maxLen; omega) rfl))
                    have HRt : Hid (trips (Y ++ Cir.hzO d x k (o + 1)) = trips (Y ++ Cir.hzO d x k o) ++ [.int .i64 x, .int .i64 (xp : Int), .int .i64 o]) := Lib.hid (by rw [HR.out]; exact trips_snoc' _ _ _)
                    have HRl : Hid ((Y ++ Cir.hzO d x k (o + 1)).length = (Y ++ Cir.hzO d x k o).length + 1) := Lib.hid (by rw [HR.out]; exact len_snoc' _ _ _)
                    clear HR
                    obtain ⟨TY, hTY⟩ : ∃ TY, trips (Y ++ Cir.hzO d x k o) = TY := ⟨_, rfl⟩
                    rw [hTY] at HRt Hu10
                    clear hTY
                    obtain ⟨nY, hnY⟩ : ∃ nY, (Y ++ Cir.hzO d x k o).length = nY := ⟨_, rfl⟩
                    rw [hnY] at HRl Hu10 hlen
                    clear hnY
                    have hWq : W.heap.size ≤ wq.heap.size := by omega
                    go_wp2_with (at_builtin; refine append_haz rfl (.tmp 111) (.tmp 116) rfl W.heap.size _ nY TY rfl (Hu10.out.alloc _) _ 1 _ rfl Hlit.out (by simp [Value.oneCell']) (by omega) (by simp; omega) ?_; intro v7 w7 hown7 hg7 hat7; have Ho7 := Lib.hid hown7; have Hg7 := Lib.hid hg7; have Hat7 := Lib.hid hat7; clear hown7 hg7 hat7)
                    go_roundw
                    case rel => exact ⟨_, o + 1, rfl, by go_num, by omega, Lib.hid (by rw [HRt.out, HRl.out]; exact Ho7.out), Lib.hid (fun g hg => by
                      rcases Hat7.out with h | h
                      · exact HP.out g (h ▸ hg)
                      · rw [h] at hg
                        have h1 := Option.some.inj hg
                        rw [World.size_alloc] at h1
                        exact ⟨by omega, .inr (by omega)⟩), (Hb10.out.trans (Only.of_below _ (bel_new _ _))).aftH (Only.grown Hg7.out fun g hg => hg) (fun g hg => (HP.out g hg).2.elim (fun h => .inr ⟨(HP.out g hg).1, h⟩) .inl)⟩
                    case measure => simp [intOf] <;> omega
                  · have hT2 : (T == 2) = false := by simpa using hT
                    have hT3 : ((T : Int) == 2) = false := by simp; omega
                    have HR := Lib.hid (HNoo.out (hz_no2 HZo.out hT2))
                    clear HYo HNoo HZo hT hT2
                    go_wp2_with fail
                    refine wp_region_grow (by kernel_rfl) (by kernel_rfl) ?_
                    repeat (go_big_quiet_step ((go_at_call 69; exact grow_same (HTC.out _))))
                    refine wpQuiet_nil ?_
                    intro _ hw'
                    obtain ⟨nq, hw''⟩ := hw'
                    subst hw''
                    have hgq := gw_below nq
                    generalize gw nq = wq at *
                    clear nq
                    have Hb10 := Lib.hid (Hbo.out.trans (Only.of_below _ hgq))
                    have Hu10 := Lib.hid (own_below Hu.out hgq)
                    clear hgq ga gb gs g0 g1 g2 g3 hcA hcB hs0 HTC z p0 p1 p2 p3
                    go_wp2_with fail
                    go_roundw
                    case rel => exact ⟨_, o + 1, rfl, by go_num, by omega, Lib.hid (by rw [HR.out]; exact Hu10.out), HP, Hb10.out⟩
                    case measure => simp [intOf] <;> omega
              · obtain rfl : o = d.outs.length := by omega
                have hdo : decide (d.outs.length < d.outs.length) = false := decide_eq_false (by omega)
                go_wp2_with fail
                go_roundw
                case rel => exact ⟨_, k + 1, rfl, by go_num, by omega, Lib.hid (by rw [HKn2.out]; exact Hu.out), Only.below HbW.out Hbo.out HbW.out.size (fun k hk => hk.1)⟩
                case measure => simp [intOf] <;> omega
          · have HKn := Lib.hid (HKs.out hbit)
            rw [hbit] at g2
            clear HKs HKa hbit
            go_wp2_with fail
            go_roundw
            case rel => exact ⟨_, k + 1, rfl, by go_num, by omega, Lib.hid (by rw [HKn.out]; exact Hl.out), Hb.out⟩
            case measure => simp [intOf] <;> omega
        · obtain rfl : k = d.ins := by omega
          have hdk : decide (d.ins < d.ins) = false := decide_eq_false (by omega)
          go_wp2_with fail
          go_roundw
          case rel => exact ⟨_, x + 1, rfl, by go_num, by omega, Lib.hid (by rw [HX1.out]; exact Hl.out), Hb.out⟩
          case measure => simp [intOf] <;> omega
    · obtain rfl : x = M := by omega
      have hdx : decide (x < x) = false := decide_eq_false (by omega)
      go_wp2_with fail
      go_ret
      exact ⟨_, rfl, own_mono Hl.out (by omega), B0.out.trans (Hb.out.mono B0.out.size)⟩
end Go.Proofs.Ytopimdakpnnbhaa

namespace Go.Proofs.Ytopimdakpnnbhaa
open Go.RowKit
/-! Things of a law in memory, and the blocks that they lie in. -/
/-- A thing that lies in the blocks from B up to T. -/
def Lives (B T : Nat) (K : World → Prop) : Prop := ∀ (E : Nat → Prop) (w w' : World), K w → T ≤ w.heap.size → Only E w w' → (∀ g, B ≤ g → g < T → ¬ E g) → K w'
structure Has (B T : Nat) (K : World → Prop) (w : World) : Prop where
  k : K w
  t : T ≤ w.heap.size
  l : Lives B T K
section
variable {B T : Nat} {K : World → Prop} {w w' : World}
theorem Has.only {E : Nat → Prop} (h : Has B T K w) (ho : Only E w w') (hE : ∀ g, B ≤ g → g < T → ¬ E g) : Has B T K w' := ⟨h.l E w w' h.k h.t ho hE, Nat.le_trans h.t ho.size, h.l⟩
theorem Has.below (h : Has B T K w) (hb : Below w.heap.size w w') : Has B T K w' := h.only (E := fun _ => False) ⟨hb.os, hb.tape, hb.output, hb.size, fun k hk _ => hb.block k hk⟩ (fun _ _ _ e => e)
theorem Has.apart {B' T' : Nat} (h : Has B T K w) (ho : Only (fun g => B' ≤ g ∧ g < T') w w') (hd : T ≤ B' ∨ T' ≤ B) : Has B T K w' := h.only ho (fun g h1 h2 h3 => by obtain ⟨h4, h5⟩ := h3; omega)
theorem Has.grown {r : Option Nat} {B' : Nat} (h : Has B T K w) (ho : w.grownBy w' r) (hr : ∀ g, r = some g → B' ≤ g) (hd : T ≤ B') : Has B T K w' := h.only (E := fun g => B' ≤ g) (Only.grown ho hr) (fun g h1 h2 h3 => by have h4 : B' ≤ g := h3; omega)
end
/-- What was so in a world of T blocks, and still is. -/
def Kept (A : World → Prop) (T : Nat) (w' : World) : Prop := ∃ w0, A w0 ∧ w0.heap.size = T ∧ Below w0.heap.size w0 w'
theorem lives_kept (A : World → Prop) (T : Nat) : Lives 0 T (Kept A T) := by
  rintro E w w' ⟨w0, hA, rfl, hb⟩ ht ho hE
  exact ⟨w0, hA, rfl, ho.os.trans hb.os, ho.tape.trans hb.tape, ho.output.trans hb.output, Nat.le_trans hb.size ho.size, fun k hk => (ho.block k (Nat.lt_of_lt_of_le hk ht) (hE k (Nat.zero_le _) hk)).trans (hb.block k hk)⟩
theorem has_kept {A : World → Prop} {w : World} (h : A w) : Has 0 w.heap.size (Kept A w.heap.size) w := ⟨⟨w, h, rfl, Below.refl _ _⟩, Nat.le_refl _, lives_kept _ _⟩
/-- A row of the call's own, below T. -/
def RowT (B T : Nat) (e : TypeId) (size : Nat) (v : Value) (n : Nat) (cs : List Value) (w : World) : Prop := w.ownsRow B e size v n cs ∧ ∀ g, v.ownBlock = some g → g < T
theorem lives_rowT (B T : Nat) (e : TypeId) (size : Nat) (v : Value) (n : Nat) (cs : List Value) : Lives B T (RowT B T e size v n cs) := by
  rintro E w w' ⟨h, hl⟩ ht ho hE
  exact ⟨own_only h ho fun g hg => hE g (h.lt g hg).1 (hl g hg), hl⟩
theorem has_row {B : Nat} {e : TypeId} {size n : Nat} {v : Value} {cs : List Value} {w : World} (h : w.ownsRow B e size v n cs) : Has B w.heap.size (RowT B w.heap.size e size v n cs) w :=
  ⟨⟨h, fun g hg => (h.lt g hg).2⟩, Nat.le_refl _, lives_rowT _ _ _ _ _ _ _⟩
theorem lives_ss {α : Type} (enc : List α → List Value) (to ti : TypeId) (B T : Nat) (v : Value) (xss : List (List α)) : Lives B T (fun w => OwnSS enc to ti B T w v xss) := fun _ _ _ h _ ho hE => OwnSS.only h ho hE
end Go.Proofs.Ytopimdakpnnbhaa

namespace Go.Proofs.Ytopimdakpnnbhaa
open Go.RowKit
set_option maxRecDepth 100000
/-! Hazards, by the reference: any circuit; HazardFree. -/
set_option maxHeartbeats 4000000 in
theorem specHaz_no (v : Value) (c : Cz) (w : World) (h : CircAt w v c) (hv : Cir.valid c = false) :
    Calls Try.prog 41 #[v] w (OwnHaz [] w) := by
  have HC := Lib.hid h
  obtain ⟨vn, vg, vo, rfl, r1, r2, r3⟩ := h
  have B0 := Lib.hid (bel_new w (.cells #[.int .i64 c.ins, vn, vg, vo] 26))
  have PC := Lib.hid (PCells.boxed w c.ins vn vg vo 26)
  have hsz : (w.alloc (.cells #[.int .i64 c.ins, vn, vg, vo] 26)).heap.size = w.heap.size + 1 := by simp
  have HC0 := Lib.hid (HC.out.below B0.out)
  have HV := Lib.hid (fun w' hb => specValid_any _ _ w' (HC0.out.below hb))
  rw [hv] at HV
  have HL0 : Hid (((w.alloc (.cells #[.int .i64 c.ins, vn, vg, vo] 26)).alloc (.cells #[] 61)).ownsRow (w.heap.size + 1) 61 3 (.slice (some ⟨w.heap.size + 1, 0, none⟩) 0 0) 0 (trips [])) := Lib.hid (by
    have := World.ownsRow_lit (base := w.heap.size + 1) (e := 61) (size := 3) (w.alloc (.cells #[.int .i64 c.ins, vn, vg, vo] 26)) #[] 0 (by simp) (by unfold maxLen; omega) rfl
    rwa [World.size_alloc] at this)
  have HB1 := Lib.hid (bel_new (w.alloc (.cells #[.int .i64 c.ins, vn, vg, vo] 26)) (.cells #[] 61))
  obtain ⟨z, p0, p1, p2, p3⟩ := PC.out.below HB1.out
  clear r1 r2 r3 hv HC
  go_enter Try.func41, Try.ntmps41
  go_wp2_with fail
  generalize w.alloc (.cells #[.int .i64 c.ins, vn, vg, vo] 26) = W at *
  refine (HV.out _ HB1.out).mono ?_
  rintro e w1 ⟨rfl, hb1⟩
  have Hb1 := Lib.hid (HB1.out.trans (hb1.mono HB1.out.size))
  have HL1 := Lib.hid (own_below HL0.out hb1)
  clear hb1 HB1 HL0 p0 p1 p2 p3 z HV
  go_wp2_with fail
  go_ret
  exact ⟨_, rfl, own_mono HL1.out (by omega), B0.out.trans (Hb1.out.mono B0.out.size)⟩
theorem specHaz_any (v : Value) (c : Cz) (w : World) (h : CircAt w v c) :
    Calls Try.prog 41 #[v] w (OwnHaz (Cir.hazI c) w) := by
  cases hv : Cir.valid c
  · rw [show Cir.hazI c = [] from by unfold Cir.hazI; rw [hv]; rfl]
    exact specHaz_no v c w h hv
  · rw [show Cir.hazI c = Cir.hazards (Cir.nat c) from by unfold Cir.hazI; rw [hv]; rfl]
    obtain ⟨d1, d2⟩ := Cir.nat_ok hv
    exact specHaz_ok v (Cir.nat c) w (by rw [← d1]; exact h) d2 (by rw [← d1]; exact hv)
theorem hazI_len (c : Cz) : (Cir.hazI c).length ≤ 1536 := by
  unfold Cir.hazI
  split
  · rename_i hv
    obtain ⟨-, hd⟩ := Cir.nat_ok hv
    have l1 := hd.ins
    have l2 := hd.nexts
    have := Cir.hzX_len (Cir.nat c) hd (2 ^ ((Cir.nat c).ins + (Cir.nat c).next.length))
    have h128 : 2 ^ ((Cir.nat c).ins + (Cir.nat c).next.length) ≤ 128 := Nat.pow_le_pow_right (show 0 < 2 by decide) (show _ ≤ 7 by omega)
    have : Cir.hazards (Cir.nat c) = Cir.hzX (Cir.nat c) (2 ^ ((Cir.nat c).ins + (Cir.nat c).next.length)) := rfl
    rw [this]
    omega
  · simp
def Cir.hazF (c : Cz) : Bool := Cir.valid c && ((Cir.hazI c).length == 0)
set_option maxHeartbeats 4000000 in
theorem implHazF_any (v : Value) (c : Cz) (w : World) (h : CircAt w v c) :
    Calls Try.prog 27 #[v] w fun e w' => e = .returned (.bool (Cir.hazF c)) ∧ Below w.heap.size w w' := by
  have HC := Lib.hid h
  obtain ⟨vn, vg, vo, rfl, r1, r2, r3⟩ := h
  have B0 := Lib.hid (bel_new w (.cells #[.int .i64 c.ins, vn, vg, vo] 26))
  have PC := Lib.hid (PCells.boxed w c.ins vn vg vo 26)
  have hsz : (w.alloc (.cells #[.int .i64 c.ins, vn, vg, vo] 26)).heap.size = w.heap.size + 1 := by simp
  have HC0 := Lib.hid (HC.out.below B0.out)
  have HV := Lib.hid (implValid_any _ _ _ HC0.out)
  obtain ⟨z, p0, p1, p2, p3⟩ := PC.out
  clear r1 r2 r3 HC
  cases hv : Cir.valid c
  · rw [hv] at HV
    have HR : Hid (Cir.hazF c = false) := Lib.hid (by unfold Cir.hazF; rw [hv]; rfl)
    rw [HR.out]
    clear HR hv
    go_enter Try.func27, Try.ntmps27
    go_wp2_with fail
    refine HV.out.mono ?_
    rintro e w1 ⟨rfl, hb1⟩
    have B1 := Lib.hid (B0.out.trans (hb1.mono B0.out.size))
    clear hb1
    go_wp2_with fail
    go_ret
    exact ⟨rfl, B1.out⟩
  · rw [hv] at HV
    have HR : Hid (Cir.hazF c = decide ((Cir.hazI c).length = 0)) := Lib.hid (by unfold Cir.hazF; rw [hv, Bool.true_and]; rfl)
    rw [HR.out]
    obtain ⟨n, hn⟩ : ∃ n, (Cir.hazI c).length = n := ⟨_, rfl⟩
    have HN := Lib.hid hn
    rw [hn]
    clear hn
    have hq : (((n : Nat) : Int) == 0) = decide (n = 0) := by rw [Bool.eq_iff_iff, beq_iff_eq, decide_eq_true_iff]; omega
    clear HR hv
    go_enter Try.func27, Try.ntmps27
    go_wp2_with fail
    refine HV.out.mono ?_
    rintro e w1 ⟨rfl, hb1⟩
    have Hb1 := Lib.hid hb1
    obtain ⟨z, p0, p1, p2, p3⟩ := PC.out.below hb1
    clear hb1
    go_wp2_with fail
    refine (implHaz_any _ c _ (HC0.out.below Hb1.out)).mono ?_
    rintro e w2 ⟨v2, rfl, hO, hb2⟩
    obtain ⟨A2, c2, e2, -, -⟩ := (Row.of_own hO).shape
    rw [HN.out] at e2
    subst e2
    have B2 := Lib.hid (B0.out.trans ((Hb1.out.trans (hb2.mono Hb1.out.size)).mono B0.out.size))
    clear hb2 hO Hb1 HC0
    go_wp2_with fail
    go_ret
    exact ⟨rfl, B2.out⟩
set_option maxHeartbeats 4000000 in
theorem specHazF_any (v : Value) (c : Cz) (w : World) (h : CircAt w v c) :
    Calls Try.prog 28 #[v] w fun e w' => e = .returned (.bool (Cir.hazF c)) ∧ Below w.heap.size w w' := by
  have HC := Lib.hid h
  obtain ⟨vn, vg, vo, rfl, r1, r2, r3⟩ := h
  have B0 := Lib.hid (bel_new w (.cells #[.int .i64 c.ins, vn, vg, vo] 26))
  have PC := Lib.hid (PCells.boxed w c.ins vn vg vo 26)
  have hsz : (w.alloc (.cells #[.int .i64 c.ins, vn, vg, vo] 26)).heap.size = w.heap.size + 1 := by simp
  have HC0 := Lib.hid (HC.out.below B0.out)
  have HV := Lib.hid (specValid_any _ _ _ HC0.out)
  obtain ⟨z, p0, p1, p2, p3⟩ := PC.out
  clear r1 r2 r3 HC
  cases hv : Cir.valid c
  · rw [hv] at HV
    have HR : Hid (Cir.hazF c = false) := Lib.hid (by unfold Cir.hazF; rw [hv]; rfl)
    rw [HR.out]
    clear HR hv
    go_enter Try.func28, Try.ntmps28
    go_wp2_with fail
    refine HV.out.mono ?_
    rintro e w1 ⟨rfl, hb1⟩
    have B1 := Lib.hid (B0.out.trans (hb1.mono B0.out.size))
    clear hb1
    go_wp2_with fail
    go_ret
    exact ⟨rfl, B1.out⟩
  · rw [hv] at HV
    have HR : Hid (Cir.hazF c = decide ((Cir.hazI c).length = 0)) := Lib.hid (by unfold Cir.hazF; rw [hv, Bool.true_and]; rfl)
    rw [HR.out]
    obtain ⟨n, hn⟩ : ∃ n, (Cir.hazI c).length = n := ⟨_, rfl⟩
    have HN := Lib.hid hn
    rw [hn]
    clear hn
    have hq : (((n : Nat) : Int) == 0) = decide (n = 0) := by rw [Bool.eq_iff_iff, beq_iff_eq, decide_eq_true_iff]; omega
    clear HR hv
    go_enter Try.func28, Try.ntmps28
    go_wp2_with fail
    refine HV.out.mono ?_
    rintro e w1 ⟨rfl, hb1⟩
    have Hb1 := Lib.hid hb1
    obtain ⟨z, p0, p1, p2, p3⟩ := PC.out.below hb1
    clear hb1
    go_wp2_with fail
    refine (specHaz_any _ c _ (HC0.out.below Hb1.out)).mono ?_
    rintro e w2 ⟨v2, rfl, hO, hb2⟩
    obtain ⟨A2, c2, e2, -, -⟩ := (Row.of_own hO).shape
    rw [HN.out] at e2
    subst e2
    have B2 := Lib.hid (B0.out.trans ((Hb1.out.trans (hb2.mono Hb1.out.size)).mono B0.out.size))
    clear hb2 hO Hb1 HC0
    go_wp2_with fail
    go_ret
    exact ⟨rfl, B2.out⟩
theorem trips_of_row {B T : Nat} {e : TypeId} {v : Value} {xs : List (Nat × Nat × Nat)} {w : World} (h : RowT B T e 3 v xs.length (trips xs) w) : TripsAt w v xs := Row.of_own h.1
theorem Kept.atH {v : Value} {xs : List (Nat × Nat × Nat)} {T : Nat} {w : World} (h : Kept (fun w' => TripsAt w' v xs) T w) : TripsAt w v xs := by
  obtain ⟨w0, h, _, hb⟩ := h
  exact Row.below h hb
end Go.Proofs.Ytopimdakpnnbhaa

namespace Go.Proofs.Ytopimdakpnnbhaa
open Go.RowKit Go.Op Go.Instr
set_option maxRecDepth 100000
namespace Cir
/-! What a hazard is, and that none is listed twice, plainly. -/
theorem mem_hzO {c : Ci} {x k : Nat} {e : Nat × Nat × Nat} : ∀ {n : Nat}, e ∈ hzO c x k n ↔ ∃ o, o < n ∧ hz c x k o = true ∧ e = (x, x + 2 ^ k, o)
  | 0 => by simp [hzO]
  | n + 1 => by
    rw [hzO, List.mem_append, mem_hzO (n := n)]
    constructor
    · rintro (⟨o, h1, h2, h3⟩ | h)
      · exact ⟨o, by omega, h2, h3⟩
      · split at h
        · exact ⟨n, by omega, by assumption, List.mem_singleton.1 h⟩
        · cases h
    · rintro ⟨o, h1, h2, h3⟩
      rcases Nat.lt_or_ge o n with h | h
      · exact .inl ⟨o, h, h2, h3⟩
      · obtain rfl : o = n := by omega
        rw [h2]
        exact .inr (by simp [h3])
theorem mem_hzK {c : Ci} {x : Nat} {e : Nat × Nat × Nat} : ∀ {n : Nat}, e ∈ hzK c x n ↔ ∃ k, k < n ∧ x.testBit k = false ∧ e ∈ hzO c x k c.outs.length
  | 0 => by simp [hzK]
  | n + 1 => by
    rw [hzK, List.mem_append, mem_hzK (n := n)]
    constructor
    · rintro (⟨k, h1, h2, h3⟩ | h)
      · exact ⟨k, by omega, h2, h3⟩
      · cases hb : x.testBit n
        · rw [hb] at h; exact ⟨n, by omega, hb, by simpa using h⟩
        · rw [hb] at h; simp at h
    · rintro ⟨k, h1, h2, h3⟩
      rcases Nat.lt_or_ge k n with h | h
      · exact .inl ⟨k, h, h2, h3⟩
      · obtain rfl : k = n := by omega
        rw [h2]
        exact .inr (by simpa using h3)
theorem mem_hzX {c : Ci} {e : Nat × Nat × Nat} : ∀ {n : Nat}, e ∈ hzX c n ↔ ∃ x, x < n ∧ e ∈ hzK c x c.ins
  | 0 => by simp [hzX]
  | n + 1 => by
    rw [hzX, List.mem_append, mem_hzX (n := n)]
    constructor
    · rintro (⟨x, h1, h2⟩ | h)
      · exact ⟨x, by omega, h2⟩
      · exact ⟨n, by omega, h⟩
    · rintro ⟨x, h1, h2⟩
      rcases Nat.lt_or_ge x n with h | h
      · exact .inl ⟨x, h, h2⟩
      · obtain rfl : x = n := by omega
        exact .inr h2
theorem hzO_nodup (c : Ci) (x k : Nat) : ∀ n, (hzO c x k n).Nodup
  | 0 => by simp [hzO]
  | n + 1 => by
    rw [hzO, List.nodup_append]
    refine ⟨hzO_nodup c x k n, by split <;> simp, fun a ha b hb e => ?_⟩
    obtain ⟨o, h1, _, h3⟩ := mem_hzO.1 ha
    split at hb
    · have := List.mem_singleton.1 hb
      rw [e, this] at h3
      injection h3 with _ h4
      injection h4 with _ h5
      omega
    · cases hb
theorem hzK_nodup (c : Ci) (x : Nat) : ∀ n, (hzK c x n).Nodup
  | 0 => by simp [hzK]
  | n + 1 => by
    rw [hzK, List.nodup_append]
    refine ⟨hzK_nodup c x n, by split <;> first | exact hzO_nodup _ _ _ _ | simp, fun a ha b hb e => ?_⟩
    obtain ⟨k, h1, _, h3⟩ := mem_hzK.1 ha
    obtain ⟨o, _, _, h4⟩ := mem_hzO.1 h3
    split at hb
    · cases hb
    · obtain ⟨o', _, _, h5⟩ := mem_hzO.1 hb
      rw [e, h5] at h4
      injection h4 with _ h6
      injection h6 with h7 _
      have : 2 ^ k < 2 ^ n := Nat.pow_lt_pow_right (by decide) h1
      omega
theorem hzX_nodup (c : Ci) : ∀ n, (hzX c n).Nodup
  | 0 => by simp [hzX]
  | n + 1 => by
    rw [hzX, List.nodup_append]
    refine ⟨hzX_nodup c n, hzK_nodup c n _, fun a ha b hb e => ?_⟩
    obtain ⟨x, h1, h2⟩ := mem_hzX.1 ha
    obtain ⟨k, _, _, h3⟩ := mem_hzK.1 h2
    obtain ⟨o, _, _, h4⟩ := mem_hzO.1 h3
    obtain ⟨k', _, _, h5⟩ := mem_hzK.1 hb
    obtain ⟨o', _, _, h6⟩ := mem_hzO.1 h5
    rw [e, h6] at h4
    injection h4 with h7 _
    omega
/-- What a hazard tells. -/
theorem hazard_facts {c : Ci} (hc : Ok c) {e : Nat × Nat × Nat} (h : e ∈ hazards c) : ∃ x k o l, e = (x, x + 2 ^ k, o) ∧ x < 128 ∧ k < c.ins ∧ x.testBit k = false ∧ c.outs[o]? = some l ∧ litA c l x = litA c l (x + 2 ^ k) := by
  obtain ⟨x, h1, h2⟩ := mem_hzX.1 h
  obtain ⟨k, h3, h4, h5⟩ := mem_hzK.1 h2
  obtain ⟨o, h6, h7, h8⟩ := mem_hzO.1 h5
  have h128 : 2 ^ (c.ins + c.next.length) ≤ 2 ^ 7 := Nat.pow_le_pow_right (by decide) (by have := hc.ins; have := hc.nexts; omega)
  have hl := List.getElem?_eq_getElem h6
  refine ⟨x, k, o, c.outs[o], h8, by omega, h3, h4, hl, ?_⟩
  unfold hz at h7
  rw [Bool.and_eq_true, beq_iff_eq] at h7
  have hg : ∀ y, (outsA c y).getD o false = litA c c.outs[o] y := fun y => by
    unfold outsA lits litA
    rw [List.getD_eq_getElem?_getD, List.getElem?_map, hl]
    rfl
  rw [← hg, ← hg]
  exact h7.1
theorem hazI_valid {c : Cz} (h : valid c = true) : hazI c = hazards (nat c) := by unfold hazI; rw [h]; rfl
theorem hazI_not {c : Cz} (h : valid c = false) : hazI c = [] := by unfold hazI; rw [h]; rfl
end Cir
theorem hazard_neq (w : World) (a b c a' b' c' : Int) : (binOp .neq 61 (.agg #[.int .i64 a, .int .i64 b, .int .i64 c]) (.agg #[.int .i64 a', .int .i64 b', .int .i64 c'])).run Try.prog w = .ok (.bool (!decide ((a, b, c) = (a', b', c')))) w := by
  have u3 := Try.underlying3
  have hS : Try.prog.underlying 61 = some (.struct (Try.prog.fieldsOf 61)) := by kernel_rfl
  have hp : Try.prog.stoodInHeld 61 = false := by kernel_rfl
  rw [run_neq_struct, show (10000 : Nat) = 9999 + 1 from rfl, run_equalIn_agg w 9999 61 _ _ hS hp]
  simp only [Program.fieldsOf, Try.underlying61]
  go_simp
  by_cases h1 : a = a' <;> by_cases h2 : b = b' <;> by_cases h3 : c = c' <;> simp [h1, h2, h3]
theorem hazard_eql (w : World) (a b c a' b' c' : Int) : (binOp .eql 61 (.agg #[.int .i64 a, .int .i64 b, .int .i64 c]) (.agg #[.int .i64 a', .int .i64 b', .int .i64 c'])).run Try.prog w = .ok (.bool (decide ((a, b, c) = (a', b', c')))) w := by
  have u3 := Try.underlying3
  have hS : Try.prog.underlying 61 = some (.struct (Try.prog.fieldsOf 61)) := by kernel_rfl
  have hp : Try.prog.stoodInHeld 61 = false := by kernel_rfl
  rw [run_eql_struct, show (10000 : Nat) = 9999 + 1 from rfl, run_equalIn_agg w 9999 61 _ _ hS hp]
  simp only [Program.fieldsOf, Try.underlying61]
  go_simp
  by_cases h1 : a = a' <;> by_cases h2 : b = b' <;> by_cases h3 : c = c' <;> simp [h1, h2, h3]
theorem hazard_guard : Try.prog.eqGuardType Try.prog.depth 61 = false := by kernel_rfl
theorem ones_pow (k : Nat) (w : World) (hk : k ≤ 3) : Calls Try.prog 42 #[.int .i64 ((2 ^ k : Nat) : Int)] w fun e w' => e = .returned (.int .i64 1) ∧ w = w' := by
  obtain ⟨P, hP⟩ : ∃ P, 2 ^ k = P := ⟨_, rfl⟩
  have HP := Lib.hid hP
  rw [hP]
  clear hP
  go_enter Try.func42, Try.ntmps42
  go_wp2_with fail
  go_loop [0, 3] (fun n c => (∃ q : Nat, q ≤ 3 ∧ n = .int .i64 ((2 ^ q : Nat) : Int) ∧ c = .int .i64 0) ∨ (n = .int .i64 0 ∧ c = .int .i64 1)) (fun n _ => (intOf n).toNat)
  case atStart => exact .inl ⟨k, hk, by rw [HP.out], rfl⟩
  case round =>
    rcases hrel with ⟨q, hq, rfl, rfl⟩ | ⟨rfl, rfl⟩
    · have hq4 : q = 0 ∨ q = 1 ∨ q = 2 ∨ q = 3 := by omega
      rcases hq4 with rfl | rfl | rfl | rfl
      · go_wp2_with fail
        go_round
        case rel => exact .inr ⟨rfl, rfl⟩
        case measure => simp [intOf]
      · go_wp2_with fail
        go_round
        case rel => exact .inl ⟨0, by omega, rfl, rfl⟩
        case measure => simp [intOf]
      · go_wp2_with fail
        go_round
        case rel => exact .inl ⟨1, by omega, rfl, rfl⟩
        case measure => simp [intOf]
      · go_wp2_with fail
        go_round
        case rel => exact .inl ⟨2, by omega, rfl, rfl⟩
        case measure => simp [intOf]
    · go_wp2_with fail
      go_ret
      exact ⟨rfl, rfl⟩
end Go.Proofs.Ytopimdakpnnbhaa
