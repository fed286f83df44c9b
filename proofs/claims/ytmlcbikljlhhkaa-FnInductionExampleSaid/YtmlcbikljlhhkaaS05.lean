import Derived.Test.YtmlcbikljlhhkaaS04
import Derived.Test.YtmlcbikljlhhkaaS02
import Derived.Test.YtmlcbikljlhhkaaS03
import Derived.Test.YtmlcbikljlhhkaaS01
import Derived.Test.YtmlcbikljlhhkaaProg
import Derived.Lib.SmallJoins
import Derived.ProofKit
import Derived.Deep.Slices
import Derived.Deep.Fields
import Derived.ChangeSame
namespace Go.Proofs.Ytmlcbikljlhhkaa
open Go.RowKit
/-! Rows that lie in blocks of a set: they stay while only other blocks are written. -/
def RowIn (F : Nat → Prop) (w : World) (size : Nat) (v : Value) (n : Nat) (cs : List Value) : Prop := Row w size v n cs ∧ (0 < n → ∀ g, v.ownBlock = some g → F g)
/-- The blocks from B on. -/
def From (B : Nat) : Nat → Prop := fun g => B ≤ g
theorem RowIn.only {F E : Nat → Prop} {w w' : World} {size n : Nat} {v : Value} {cs : List Value} (h : RowIn F w size v n cs) (ho : Only E w w') (hE : ∀ g, F g → ¬ E g) : RowIn F w' size v n cs := by
  obtain ⟨⟨h1, A, c, rfl, h2, h3, h4⟩, h5⟩ := h
  refine ⟨⟨h1, A, c, rfl, h2, h3, fun hn => ?_⟩, h5⟩
  obtain ⟨b, o, rfl, hb, hc⟩ := h4 hn
  refine ⟨b, o, rfl, Nat.lt_of_lt_of_le hb ho.size, fun j u hu => ?_⟩
  rw [World.cell?_of_block (ho.block b hb (hE b (h5 hn b rfl)))]
  exact hc j u hu
theorem RowIn.mono {F F' : Nat → Prop} {w : World} {size n : Nat} {v : Value} {cs : List Value} (h : RowIn F w size v n cs) (hF : ∀ g, F g → F' g) : RowIn F' w size v n cs := ⟨h.1, fun hn g hg => hF g (h.2 hn g hg)⟩
theorem RowIn.below {F : Nat → Prop} {w w' : World} {size n : Nat} {v : Value} {cs : List Value} (h : RowIn F w size v n cs) (hb : Below w.heap.size w w') : RowIn F w' size v n cs := ⟨h.1.below hb, h.2⟩
theorem RowIn.of_own {w : World} {B size n : Nat} {e : TypeId} {v : Value} {cs : List Value} (h : w.ownsRow B e size v n cs) : RowIn (fun g => B ≤ g ∧ g < w.heap.size) w size v n cs := ⟨Row.of_own h, fun _ g hg => h.lt g hg⟩
def SSIn {α : Type} (enc : List α → List Value) (F : Nat → Prop) (w : World) (v : Value) (xss : List (List α)) : Prop :=
  ∃ vs : List Value, vs.length = xss.length ∧ RowIn F w 1 v xss.length vs ∧ ∀ (i : Nat) (x : List α) (u : Value), xss[i]? = some x → vs[i]? = some u → RowIn F w 1 u x.length (enc x)
variable {α : Type} {enc : List α → List Value} {F : Nat → Prop} {w w' : World} {v : Value} {xss : List (List α)}
theorem SSIn.at (h : SSIn enc F w v xss) : SSAt enc w v xss := by
  obtain ⟨vs, h1, h2, h3⟩ := h
  exact ⟨vs, h1, h2.1, fun i x u hx hu => (h3 i x u hx hu).1⟩
theorem SSIn.only {E : Nat → Prop} (h : SSIn enc F w v xss) (ho : Only E w w') (hE : ∀ g, F g → ¬ E g) : SSIn enc F w' v xss := by
  obtain ⟨vs, h1, h2, h3⟩ := h
  exact ⟨vs, h1, h2.only ho hE, fun i x u hx hu => (h3 i x u hx hu).only ho hE⟩
theorem SSIn.below (h : SSIn enc F w v xss) (hb : Below w.heap.size w w') : SSIn enc F w' v xss := by
  obtain ⟨vs, h1, h2, h3⟩ := h
  exact ⟨vs, h1, h2.below hb, fun i x u hx hu => (h3 i x u hx hu).below hb⟩
theorem SSIn.mono {F' : Nat → Prop} (h : SSIn enc F w v xss) (hF : ∀ g, F g → F' g) : SSIn enc F' w v xss := by
  obtain ⟨vs, h1, h2, h3⟩ := h
  exact ⟨vs, h1, h2.mono hF, fun i x u hx hu => (h3 i x u hx hu).mono hF⟩
theorem SSIn.nil (enc : List α → List Value) (F : Nat → Prop) (w : World) : SSIn enc F w (.slice none 0 0) [] := ⟨[], rfl, ⟨Row.nil w 1, fun h => absurd h (Nat.lt_irrefl 0)⟩, fun i x u hx _ => by simp at hx⟩
/-- A row that was copied, and one more row behind it. -/
theorem SSIn.snoc {B : Nat} {e ti : TypeId} {v' u : Value} {x : List α} {vs : List Value} (h1 : vs.length = xss.length) (h3 : ∀ (i : Nat) (x : List α) (u : Value), xss[i]? = some x → vs[i]? = some u → RowIn F w 1 u x.length (enc x))
    (hu : w.ownsRow B ti 1 u x.length (enc x)) (hv : w.ownsRow B e 1 v' (xss.length + 1) (vs ++ [u])) : SSIn enc (fun g => F g ∨ (B ≤ g ∧ g < w.heap.size)) w v' (xss ++ [x]) := by
  refine ⟨vs ++ [u], by simp [h1], ?_, fun i y z hy hz => ?_⟩
  · rw [List.length_append, List.length_singleton]
    exact (RowIn.of_own hv).mono fun g hg => .inr hg
  · rcases Nat.lt_or_ge i xss.length with hi | hi
    · rw [List.getElem?_append_left hi] at hy
      rw [List.getElem?_append_left (by omega)] at hz
      exact (h3 i y z hy hz).mono fun g hg => .inl hg
    · have hil : i = xss.length := by
        rcases Nat.lt_or_ge xss.length i with h | h
        · rw [List.getElem?_eq_none (by simp; omega)] at hy; cases hy
        · omega
      subst hil
      rw [List.getElem?_append_right (Nat.le_refl _), Nat.sub_self] at hy
      rw [List.getElem?_append_right (by omega), h1, Nat.sub_self] at hz
      obtain rfl := Option.some.inj hy
      obtain rfl := Option.some.inj hz
      exact (RowIn.of_own hu).mono fun g hg => .inr hg
end Go.Proofs.Ytmlcbikljlhhkaa

namespace Go.Proofs.Ytmlcbikljlhhkaa
open Go.RowKit
set_option maxRecDepth 100000
/-! MachineOf, by the reference. -/
/-- A row of single cells in blocks of a set. -/
def TIn (F : Nat → Prop) (cs : List Value) : Ty := fun w v => RowIn F w 1 v cs.length cs
theorem stb_in {E F : Nat → Prop} (hE : ∀ g, F g → ¬ E g) (cs : List Value) : Stb E (TIn F cs) := fun _ _ _ h ho => h.only ho hE
theorem stb_in_none (F : Nat → Prop) (cs : List Value) : Stb (fun _ => False) (TIn F cs) := stb_in (fun _ _ h => h) cs
def TStepIn (B : Nat) (so st : List Bool) : Ty := fun w v => ∃ a b, v = .agg #[a, b] ∧ RowIn (From B) w 1 a so.length (bools so) ∧ BoolsAt w b st
theorem stb_stepIn (B : Nat) (so st : List Bool) : Stb (fun _ => False) (TStepIn B so st) := by
  rintro v w w' ⟨a, b, rfl, h1, h2⟩ ho
  exact ⟨a, b, rfl, h1.below (only_below ho), stb_bools _ _ _ _ h2 ho⟩
set_option maxHeartbeats 4000000 in
theorem l16OutsIn_any (v : Value) (d : Ci) (s x : Nat) (w : World) (h : CircAt w v (Cir.toCz d)) (hd : Cir.Ok d) (hs : s ≤ 1000) (hx : x ≤ 1000) :
    Calls Try.prog 97 #[v, .int .i64 s, .int .i64 x] w fun e w' => (∃ u, e = .returned u ∧ RowIn (From w.heap.size) w' 1 u (Cir.outsOf d s x).length (bools (Cir.outsOf d s x))) ∧ Below w.heap.size w w' := by
  have l1 := hd.ins
  have l2 := hd.nexts
  have HC := Lib.hid h
  obtain ⟨vn, vg, vo, rfl, r1, r2, r3⟩ := h
  obtain ⟨An, cn, rfl, hcn, hcmn⟩ := NatsAt.shape (xs := d.next) r1
  have hins : (Cir.toCz d).ins = (d.ins : Int) := rfl
  rw [hins] at HC ⊢
  have B0 := Lib.hid (bel_new w (.cells #[.int .i64 d.ins, .slice An d.next.length cn, vg, vo] 30))
  obtain ⟨z, p0, p1, p2, p3⟩ := PCells.boxed w d.ins (.slice An d.next.length cn) vg vo 30
  have HC := Lib.hid (HC.out.below B0.out)
  have Hd := Lib.hid hd
  clear r1 r2 r3 hd hins
  go_enter Try.func97, Try.ntmps97
  go_wp2_with fail
  generalize w.alloc (.cells #[.int .i64 d.ins, .slice An d.next.length cn, vg, vo] 30) = W at *
  refine wp_region_rs (quietRS Try.prog _ W _) quietRS_ok (by kernel_rfl) (by kernel_rfl) (by kernel_rfl) (Nat.le_of_ble_eq_true rfl) trivial trivial ?_
  apply rs_eq quietRS_ok quiet_any
  · intro ρ w' ho hK
    have ho : Only _ W w' := ho
    obtain ⟨h0, -⟩ := hK
    have h0' : ρ (.tmp 3) = _ := h0
    have hb := only_below ho
    have q0 := (hb.cell (p := ⟨w.heap.size, 0, none⟩) z).trans p0
    have q1 := (hb.cell (p := ⟨w.heap.size, 1, none⟩) z).trans p1
    have q2 := (hb.cell (p := ⟨w.heap.size, 2, none⟩) z).trans p2
    have q3 := (hb.cell (p := ⟨w.heap.size, 3, none⟩) z).trans p3
    go_simp
    try exact rfl
  refine rs_old quietRS_ok quiet_any _ (.inl rfl) _ rfl rfl ?_
  apply rs_eq quietRS_ok quiet_any
  · intro ρ w' ho hK
    have ho : Only _ W w' := ho
    obtain ⟨h0, -⟩ := hK
    have h0' : ρ (.tmp 3) = _ := h0
    go_simp
    try exact rfl
  apply rs_eq quietRS_ok quiet_any
  · intro ρ w' ho hK
    have ho : Only _ W w' := ho
    obtain ⟨h0, -⟩ := hK
    have h0' : ρ (.tmp 9) = _ := h0
    have hb := only_below ho
    have q0 := (hb.cell (p := ⟨w.heap.size, 0, none⟩) z).trans p0
    have q1 := (hb.cell (p := ⟨w.heap.size, 1, none⟩) z).trans p1
    have q2 := (hb.cell (p := ⟨w.heap.size, 2, none⟩) z).trans p2
    have q3 := (hb.cell (p := ⟨w.heap.size, 3, none⟩) z).trans p3
    go_simp
    try exact rfl
  apply rs_eq quietRS_ok quiet_any
  · intro ρ w' ho hK
    have ho : Only _ W w' := ho
    obtain ⟨h0, -⟩ := hK
    have h0' : ρ (.tmp 10) = _ := h0
    go_simp
    try exact rfl
  refine rs_call quietRS_ok quiet_any (TBools (Cir.bits s d.next.length)) (stb_bools _) 64 _ _ rfl (fun ρ w' ho hK => by
    have ho : Only _ W w' := ho
    obtain ⟨h0, h1, h2, -⟩ := hK
    have h0' : ρ (.func 64) = .func (.func 64) #[] #[] := h0
    have h1' : ρ (.tmp 8) = _ := h1
    have h2' : ρ (.tmp 11) = _ := h2
    refine ⟨#[ρ (.tmp 8), ρ (.tmp 11)], ?_, ?_⟩
    · go_simp
    · rw [h1', h2']
      refine (l4Bits_any s d.next.length w' (by omega) (by omega)).mono ?_
      rintro e w2 ⟨v2, rfl, hO, hb⟩
      exact ⟨v2, rfl, Row.of_own hO, hb⟩) ?_
  refine rs_old quietRS_ok quiet_any _ (.inl rfl) _ rfl rfl ?_
  apply rs_eq quietRS_ok quiet_any
  · intro ρ w' ho hK
    have ho : Only _ W w' := ho
    obtain ⟨h0, -⟩ := hK
    have h0' : ρ (.tmp 3) = _ := h0
    go_simp
    try exact rfl
  apply rs_eq quietRS_ok quiet_any
  · intro ρ w' ho hK
    have ho : Only _ W w' := ho
    obtain ⟨h0, -⟩ := hK
    have h0' : ρ (.tmp 14) = _ := h0
    have hb := only_below ho
    have q0 := (hb.cell (p := ⟨w.heap.size, 0, none⟩) z).trans p0
    have q1 := (hb.cell (p := ⟨w.heap.size, 1, none⟩) z).trans p1
    have q2 := (hb.cell (p := ⟨w.heap.size, 2, none⟩) z).trans p2
    have q3 := (hb.cell (p := ⟨w.heap.size, 3, none⟩) z).trans p3
    go_simp
    try exact rfl
  refine rs_call quietRS_ok quiet_any (TBools (Cir.bits x d.ins)) (stb_bools _) 64 _ _ rfl (fun ρ w' ho hK => by
    have ho : Only _ W w' := ho
    obtain ⟨h0, h1, h2, -⟩ := hK
    have h0' : ρ (.func 64) = .func (.func 64) #[] #[] := h0
    have h1' : ρ (.tmp 13) = _ := h1
    have h2' : ρ (.tmp 15) = _ := h2
    refine ⟨#[ρ (.tmp 13), ρ (.tmp 15)], ?_, ?_⟩
    · go_simp
    · rw [h1', h2']
      refine (l4Bits_any x d.ins w' (by omega) (by omega)).mono ?_
      rintro e w2 ⟨v2, rfl, hO, hb⟩
      exact ⟨v2, rfl, Row.of_own hO, hb⟩) ?_
  refine rs_call quietRS_ok quiet_any (TStepIn w.heap.size (Cir.outsOf d s x) (Cir.lits (Cir.vals d (Cir.bits s d.next.length) (Cir.bits x d.ins)) d.next)) (stb_stepIn _ _ _) 87 _ _ rfl (fun ρ w' ho hK => by
    have ho : Only _ W w' := ho
    obtain ⟨h0, h1, h2, h3, -⟩ := hK
    have h0' : ρ (.func 87) = .func (.func 87) #[] #[] := h0
    have h1' : ρ (.tmp 7) = _ := h1
    have h2' : (TBools (Cir.bits s d.next.length)) w' (ρ (.tmp 12)) := h2
    have h3' : (TBools (Cir.bits x d.ins)) w' (ρ (.tmp 16)) := h3
    refine ⟨#[ρ (.tmp 7), ρ (.tmp 12), ρ (.tmp 16)], ?_, ?_⟩
    · go_simp
    · rw [h1']
      refine (l2Step_any _ _ _ d _ _ w' (HC.out.below (only_below ho)) Hd.out h2' h3' (Cir.bits_length _ _) (Cir.bits_length _ _)).mono ?_
      rintro e w2 ⟨a, b, rfl, oa, ob, hb⟩
      exact ⟨_, rfl, ⟨a, b, rfl, (RowIn.of_own oa).mono (fun g hg => by have := hg.1; have := B0.out.size; have := ho.size; unfold From; omega), Row.of_own ob⟩, hb⟩) ?_
  refine rs_look quietRS_ok quiet_any (TIn (From w.heap.size) (bools (Cir.outsOf d s x))) (stb_in_none _ _) (fun ρ w' ho hK => by
    obtain ⟨h0, -⟩ := hK
    obtain ⟨a, b, e0, ha, hb⟩ : (TStepIn w.heap.size (Cir.outsOf d s x) (Cir.lits (Cir.vals d (Cir.bits s d.next.length) (Cir.bits x d.ins)) d.next)) w' (ρ (.tmp 17)) := h0
    obtain ⟨Aa, ca, rfl, -⟩ := Row.shape ha.1
    obtain ⟨Ab, cb, rfl, -⟩ := Row.shape hb
    have hf := fun n m => step_field0 Aa Ab n m ca cb w'
    refine ⟨_, ?_, by unfold TIn; rw [bools_length]; exact ha⟩
    go_simp) ?_
  refine rs_same quietRS_ok quiet_any 18 11 (.inr rfl) rfl _ rfl ?_
  intro f w9 k9 hk9 hI9 ht9 hcp9
  have E0 : f 0 = _ := ht9 0 (Nat.le_of_ble_eq_true rfl)
  have E1 : f 1 = _ := ht9 1 (Nat.le_of_ble_eq_true rfl)
  have E2 : f 2 = _ := ht9 2 (Nat.le_of_ble_eq_true rfl)
  have E3 : f 3 = _ := ht9 3 (Nat.le_of_ble_eq_true rfl)
  have E4 : f 4 = _ := ht9 4 (Nat.le_of_ble_eq_true rfl)
  have E5 : (TBools (Cir.bits s d.next.length)) w9 (f 5) := ht9 5 (Nat.le_of_ble_eq_true rfl)
  have E6 : f 6 = _ := ht9 6 (Nat.le_of_ble_eq_true rfl)
  have E7 : f 7 = _ := ht9 7 (Nat.le_of_ble_eq_true rfl)
  have E8 : f 8 = _ := ht9 8 (Nat.le_of_ble_eq_true rfl)
  have E9 : (TBools (Cir.bits x d.ins)) w9 (f 9) := ht9 9 (Nat.le_of_ble_eq_true rfl)
  have E10 : (TStepIn w.heap.size (Cir.outsOf d s x) (Cir.lits (Cir.vals d (Cir.bits s d.next.length) (Cir.bits x d.ins)) d.next)) w9 (f 10) := ht9 10 (Nat.le_of_ble_eq_true rfl)
  have E11 : (TIn (From w.heap.size) (bools (Cir.outsOf d s x))) w9 (f 11) := ht9 11 (Nat.le_of_ble_eq_true rfl)
  have E12 : (TIn (From w.heap.size) (bools (Cir.outsOf d s x))) w9 (f 12) := ht9 12 (Nat.le_of_ble_eq_true rfl)
  have Ho9 : Only _ W w9 := hI9.2.1
  have C12 : f 12 = f 11 := (hcp9 12 _ 18 11 rfl rfl rfl rfl).2
  simp only [putAll, E0, E1, E2, E3, E4, E6, E7, E8, C12, Nat.zero_add, Nat.reduceAdd, Act.put, List.setIfInBounds_toArray, List.set_cons_succ, List.set_cons_zero]
  clear E0 E1 E2 E3 E4 E6 E7 E8
  clear hI9 ht9 hcp9 hk9
  generalize f 5 = r5 at *
  generalize f 9 = r9 at *
  generalize f 10 = r10 at *
  generalize f 11 = r11 at *
  have B := Lib.hid (B0.out.trans ((only_below Ho9).mono B0.out.size))
  have HU := Lib.hid E11
  clear Ho9 E5 E9 E10 E11 p0 p1 p2 p3
  go_wp2_with fail
  go_ret
  exact ⟨⟨_, rfl, by have := HU.out; unfold TIn at this; rwa [bools_length] at this⟩, B.out⟩
theorem Only.after {E F : Nat → Prop} {a b c : World} (h : Only E a b) (h' : Only F b c) (hF : ∀ g, F g → a.heap.size ≤ g ∨ E g) : Only E a c :=
  ⟨h'.os.trans h.os, h'.tape.trans h.tape, h'.output.trans h.output, Nat.le_trans h.size h'.size, fun k hk hn => (h'.block k (Nat.lt_of_lt_of_le hk h.size) fun hf => by
    rcases hF k hf with e | e
    · omega
    · exact hn e).trans (h.block k hk hn)⟩
/-- A machine, as a result to read. -/
def ReadMach (m : Mz) (w : World) (e : Ending) (w' : World) : Prop := (∃ v, e = .returned v ∧ MachAt w' v m) ∧ Below w.heap.size w w'
theorem rowI_snoc {d : Ci} {s j : Nat} (h : j < 2 ^ d.ins) : (Cir.rowI d s).take (j + 1) = (Cir.rowI d s).take j ++ [idxOf (Cir.reach d) (Cir.nextOf d s j)] := by
  refine take_snoc ?_
  unfold Cir.rowI Cir.rowN
  simp [h]
theorem rowO_snoc {d : Ci} {s j : Nat} (h : j < 2 ^ d.ins) : (nats (Cir.rowO d s)).take (j + 1) = (nats (Cir.rowO d s)).take j ++ [((Cir.num (Cir.outsOf d s j) : Nat) : Int)] := by
  refine take_snoc ?_
  unfold nats Cir.rowO
  simp [h]
set_option maxHeartbeats 16000000 in
theorem specMof_ok (v : Value) (d : Ci) (w : World) (h : CircAt w v (Cir.toCz d)) (hd : Cir.Ok d) (hv : Cir.valid (Cir.toCz d) = true) :
    Calls Try.prog 48 #[v] w (ReadMach (Cir.machN d) w) := by
  have l1 := hd.ins
  have l2 := hd.nexts
  have l4 := hd.outss
  have HC := Lib.hid h
  obtain ⟨vn, vg, vo, rfl, r1, r2, r3⟩ := h
  have hins : (Cir.toCz d).ins = (d.ins : Int) := rfl
  rw [hins] at HC ⊢
  have hb0 := bel_new w (.cells #[.int .i64 d.ins, vn, vg, vo] 30)
  have hb00 := bel_new (w.alloc (.cells #[.int .i64 d.ins, vn, vg, vo] 30)) (.cells #[.int .i64 0, .slice none 0 0, .slice none 0 0] 61)
  have B0 := Lib.hid (hb0.trans (hb00.mono hb0.size))
  have PC := Lib.hid ((PCells.boxed w d.ins vn vg vo 30).below hb00)
  have hsz : ((w.alloc (.cells #[.int .i64 d.ins, vn, vg, vo] 30)).alloc (.cells #[.int .i64 0, .slice none 0 0, .slice none 0 0] 61)).heap.size = w.heap.size + 2 := by simp
  have hR : ((w.alloc (.cells #[.int .i64 d.ins, vn, vg, vo] 30)).alloc (.cells #[.int .i64 0, .slice none 0 0, .slice none 0 0] 61)).heap[w.heap.size + 1]? = some (.cells #[.int .i64 0, .slice none 0 0, .slice none 0 0] 61 (0, 0)) := by
    have := heap_alloc_new (w.alloc (.cells #[.int .i64 d.ins, vn, vg, vo] 30)) (.cells #[.int .i64 0, .slice none 0 0, .slice none 0 0] 61)
    rwa [World.size_alloc] at this
  have HRes := Lib.hid hR
  obtain ⟨z, p0, p1, p2, p3⟩ := PC.out
  have HC0 := Lib.hid (HC.out.below B0.out)
  have HV := Lib.hid (specValid_any _ _ _ HC0.out)
  rw [hv] at HV
  have Hv := Lib.hid hv
  have Hd := Lib.hid hd
  obtain ⟨M, e, hM⟩ : ∃ M : Nat, (2 : Int) ^ d.ins = (M : Int) ∧ M = 2 ^ d.ins := ⟨2 ^ d.ins, two_pow d.ins, rfl⟩
  have hM16 : M ≤ 16 := by rw [hM]; exact Nat.pow_le_pow_right (show 0 < 2 by decide) l1
  have hM1 : 1 ≤ M := by rw [hM]; exact Nat.pow_pos (by decide)
  have hwM := IntWalk.i64_in (M : Int) (by omega)
  have HM := Lib.hid hM
  have hL8 := (Cir.reach_sts d).len hd
  have HSt := Lib.hid (Cir.reach_sts d)
  clear r1 r2 r3 hd hins hM hv HC hb0 hb00 hR
  go_enter Try.func48, Try.ntmps48
  go_wp2_with fail
  generalize (w.alloc (.cells #[.int .i64 d.ins, vn, vg, vo] 30)).alloc (.cells #[.int .i64 0, .slice none 0 0, .slice none 0 0] 61) = W at *
  refine HV.out.mono ?_
  rintro e w1 ⟨rfl, hb1⟩
  have hbm := bel_new w1 (.cells #[.int .i64 d.ins, .slice none 0 0, .slice none 0 0] 61)
  have B1 := Lib.hid (B0.out.trans (hb1.mono B0.out.size))
  have z1 := hb1.size
  have PC1 := Lib.hid ((PC.out.below hb1))
  have HC1 := Lib.hid (HC0.out.below hb1)
  have HRes1 := Lib.hid ((hb1.block _ (by omega)).trans HRes.out)
  have HMB := Lib.hid (MB.start (ins := (d.ins : Int)) (w := w1) trivial)
  clear hb1 p0 p1 p2 p3 z HV HC0 HRes PC
  have PCm := Lib.hid (PC1.out.below hbm)
  obtain ⟨z, p0, p1, p2, p3⟩ := PC1.out
  obtain ⟨_, s0, s1, s2, s3⟩ := PCm.out
  have HBm := Lib.hid hbm
  clear hbm
  go_wp2_with fail
  refine (specReach_ok _ d _ (HC1.out.below HBm.out) Hd.out Hv.out).mono ?_
  rintro e w2 ⟨vs, rfl, hO2, hb2⟩
  have hb12 := HBm.out.trans (hb2.mono HBm.out.size)
  have B2 := Lib.hid (B1.out.trans (hb12.mono B1.out.size))
  have HRes2 := Lib.hid ((hb12.block _ (by omega)).trans HRes1.out)
  have PC2 := Lib.hid (PCm.out.below hb2)
  have HMB2 := Lib.hid (HMB.out.below hb2)
  have z2 := hb12.size
  have HS2 := Lib.hid (own_nats (v := vs) (xs := Cir.reach d) (by rw [nats_length] at hO2; exact hO2))
  have zs2 : w1.heap.size < w2.heap.size := mb_lt HMB2.out
  have HO2 : Hid (w2.ownsRow (w1.heap.size + 1) 3 1 vs (Cir.reach d).length (nints (Cir.reach d))) := Lib.hid (by rw [nats_length] at hO2; exact own_mono hO2 (by simp))
  have Hb12 := Lib.hid hb12
  clear hb2 hO2 p0 p1 p2 p3 z hb12 HBm s0 s1 s2 s3 PCm HMB
  obtain ⟨As, cs, rfl, hcs, hcsm⟩ := NatsAt.shape HS2.out
  unfold maxLen at hcsm
  go_wp2_with fail
  clear hcs hcsm
  obtain ⟨Ws, hWs⟩ : ∃ Ws, Ws = w2 := ⟨_, rfl⟩
  subst hWs
  go_loopw [5] (fun i wr => ∃ (k : Nat) (E1 E2 : Nat → Prop) (vN vO : Value), k ≤ (Cir.reach d).length ∧ i = .int .i64 k ∧ Hid (MB w1.heap.size d.ins E1 E2 vN vO ((Cir.machN d).next.take k) ((Cir.machN d).out.take k) wr) ∧ Hid (∀ g, E1 g → Ws.heap.size ≤ g) ∧ Hid (∀ g, E2 g → Ws.heap.size ≤ g) ∧ Only (fun g => g = w1.heap.size) Ws wr) (fun i _ => (Cir.reach d).length - (intOf i).toNat)
  case atStart => exact ⟨0, _, _, _, _, Nat.zero_le _, rfl, HMB2, Lib.hid (fun g h => h.elim), Lib.hid (fun g h => h.elim), Only.refl _ _⟩
  case round =>
    obtain ⟨k, E1, E2, vN, vO, hk, rfl, HMB, HE1, HE2, ho⟩ := hrel
    clear HMB2
    have hbW := Only.below (B := w1.heap.size) Hb12.out ho (by omega) (fun g hg => by omega)
    have Ho := Lib.hid ho
    have Hb := Lib.hid hbW
    have hzb := ho.size
    have hgm := mb_lt HMB.out
    have PCk := Lib.hid (PC1.out.below (w := w1) hbW)
    have HCk := Lib.hid (HC1.out.below hbW)
    have HSk : Hid (NatsAt wr (.slice As (Cir.reach d).length cs) (Cir.reach d)) := Lib.hid (own_nats (own_only HO2.out ho (fun g hg e => by have := (HO2.out.lt g hg).1; omega)))
    clear hbW ho
    by_cases hlt : k < (Cir.reach d).length
    · obtain ⟨b, o, s, rfl, hbl, hx, hs0⟩ := nats_cell (nats_row HSk.out) rfl hlt
      have hs8 : s < 8 := by
        have h1 := HSt.out.lt s (List.mem_of_getElem? hx.out)
        have h2 : 2 ^ d.next.length ≤ 2 ^ 3 := Nat.pow_le_pow_right (show 0 < 2 by decide) l2
        omega
      have HX1 : Hid ((Cir.machN d).next.take (k + 1) = (Cir.machN d).next.take k ++ [Cir.rowI d s]) := Lib.hid (take_snoc (by unfold Cir.machN; simp only [List.getElem?_map, hx.out]; rfl))
      have HX2 : Hid ((Cir.machN d).out.take (k + 1) = (Cir.machN d).out.take k ++ [nats (Cir.rowO d s)]) := Lib.hid (take_snoc (by unfold Cir.machN; simp only [List.getElem?_map, hx.out]; rfl))
      have hN1 : (Cir.rowI d s).length = M := by unfold Cir.rowI Cir.rowN; rw [List.length_map, List.length_map, List.length_range, HM.out]
      have hO1 : (nats (Cir.rowO d s)).length = M := by rw [nats_length, Cir.rowO, List.length_map, List.length_range, HM.out]
      have HN1 := Lib.hid hN1
      have HO1 := Lib.hid hO1
      have hdl : decide (k < (Cir.reach d).length) = true := decide_eq_true hlt
      clear hN1 hO1
      obtain ⟨z, p0, p1, p2, p3⟩ := PCk.out
      have hA1 : Hid (((wr.alloc (.cells #[] 3)).alloc (.cells #[] 3)).ownsRow wr.heap.size 3 1 (.slice (some ⟨wr.heap.size, 0, none⟩) 0 0) 0 (ints ((Cir.rowI d s).take 0))) := Lib.hid ((World.ownsRow_lit (base := wr.heap.size) (e := 3) (size := 1) wr #[] 0 (Nat.le_refl _) (by unfold maxLen; omega) rfl).alloc _)
      have hA2 : Hid (((wr.alloc (.cells #[] 3)).alloc (.cells #[] 3)).ownsRow wr.heap.size 3 1 (.slice (some ⟨wr.heap.size + 1, 0, none⟩) 0 0) 0 (ints ((nats (Cir.rowO d s)).take 0))) := Lib.hid (by
        have := World.ownsRow_lit (base := wr.heap.size) (e := 3) (size := 1) (wr.alloc (.cells #[] 3)) #[] 0 (by simp) (by unfold maxLen; omega) rfl
        rwa [World.size_alloc] at this)
      have hAp : Hid (Apart (.slice (some ⟨wr.heap.size, 0, none⟩) 0 0) (.slice (some ⟨wr.heap.size + 1, 0, none⟩) 0 0)) := Lib.hid (fun g h1 h2 => by have h3 := Option.some.inj h1; have h4 := Option.some.inj h2; simp only at h3 h4; omega)
      have HBa : Hid (Below wr.heap.size wr ((wr.alloc (.cells #[] 3)).alloc (.cells #[] 3))) := Lib.hid (((Below.refl _ _).alloc (Nat.le_refl _) _).alloc (by simp) _)
      go_wp2_with fail
      obtain ⟨Wk, hWk⟩ : ∃ Wk, Wk = wr := ⟨_, rfl⟩
      subst hWk
      go_loopw [6, 7, 8] (fun v u i wr => ∃ (vv uu : Value) (j : Nat), vv = v ∧ uu = u ∧ i = .int .i64 j ∧ j ≤ M ∧ Hid (wr.ownsRow Wk.heap.size 3 1 v j (ints ((Cir.rowI d s).take j))) ∧ Hid (wr.ownsRow Wk.heap.size 3 1 u j (ints ((nats (Cir.rowO d s)).take j))) ∧ Hid (Apart v u) ∧ Below Wk.heap.size Wk wr) (fun _ _ i _ => M - (intOf i).toNat)
      case atStart => exact ⟨_, _, 0, rfl, rfl, rfl, Nat.zero_le _, hA1, hA2, hAp, HBa.out⟩
      case round =>
        obtain ⟨vv, uu, j, hvv, huu, rfl, hj, Hv6, Hu6, Hap, hb⟩ := hrel
        subst hvv huu
        clear hA1 hA2 hAp HBa p0 p1 p2 p3
        have Hbk := Lib.hid hb
        have hzk := hb.size
        have PCr := Lib.hid (PCk.out.below hb)
        have hs1 := (hb.cell (p := ⟨b, o + k, none⟩) hbl).trans hs0
        obtain ⟨zz, p0, p1, p2, p3⟩ := PCr.out
        clear hb
        by_cases hlj : j < M
        · have HSn1 := Lib.hid (rowI_snoc (d := d) (s := s) (j := j) (by rw [← HM.out]; exact hlj))
          have HSn2 := Lib.hid (rowO_snoc (d := d) (s := s) (j := j) (by rw [← HM.out]; exact hlj))
          have hN8 : Cir.nextOf d s j < 8 := by
            have h1 := Cir.nextOf_lt d s j
            have h2 : 2 ^ d.next.length ≤ 2 ^ 3 := Nat.pow_le_pow_right (show 0 < 2 by decide) l2
            omega
          have hdj : decide (j < M) = true := decide_eq_true hlj
          go_wp2_with fail
          obtain ⟨w4, hw4⟩ : ∃ w4, w4 = wr := ⟨_, rfl⟩
          subst hw4
          obtain ⟨cs1, hcs1⟩ : ∃ cs1, ints ((Cir.rowI d s).take j) = cs1 := ⟨_, rfl⟩
          rw [hcs1] at Hv6
          have HC1s := Lib.hid hcs1
          clear hcs1
          have HBx : ∀ w', Only (fun g => vv.ownBlock = some g) w4 w' → Below Wk.heap.size Wk w' := fun w' ho => Only.below Hbk.out ho hzk (fun g hg => (Hv6.out.lt g hg).1)
          obtain ⟨i0, hi0, hz0, hz1, hz2⟩ := info_parts info_int
          have hO := fun ops a => appRS2_ok (Pg := Try.prog) (ops := ops) (a := a) (news := [.int .i64 (idxOf (Cir.reach d) (Cir.nextOf d s j))]) (d := 11) (Hv6.out)
          refine wp_region_rs (appRS2 Try.prog _ w4 _ (Wk.heap.size) 3 1 (vv) (j) (cs1) [.int .i64 (idxOf (Cir.reach d) (Cir.nextOf d s j))] 11) (hO _ _) (by kernel_rfl) (by kernel_rfl) (by kernel_rfl) (Nat.le_of_ble_eq_true rfl) trivial Hv6.out ?_
          refine rs_old (hO _ _) (.inl (Nat.ne_of_beq_eq_false rfl)) _ (.inl rfl) _ rfl rfl ?_
          refine rs_old (hO _ _) (.inl (Nat.ne_of_beq_eq_false rfl)) _ (.inl rfl) _ rfl rfl ?_
          apply rs_eq (hO _ _) (.inl (Nat.ne_of_beq_eq_false rfl))
          · intro ρ w' ho hK
            have ho : Only _ w4 w' := ho
            obtain ⟨h0, -⟩ := hK
            have h0' : ρ (.tmp 1) = _ := h0
            have hb := HBx w' ho
            obtain ⟨_, q0, q1, q2, q3⟩ := PCk.out.below hb
            have q4 := (hb.cell (p := ⟨b, o + k, none⟩) hbl).trans hs0
            go_simp
            try exact rfl
          refine rs_old (hO _ _) (.inl (Nat.ne_of_beq_eq_false rfl)) _ (.inl rfl) _ rfl rfl ?_
          refine rs_old (hO _ _) (.inl (Nat.ne_of_beq_eq_false rfl)) _ (.inl rfl) _ rfl rfl ?_
          apply rs_eq (hO _ _) (.inl (Nat.ne_of_beq_eq_false rfl))
          · intro ρ w' ho hK
            have ho : Only _ w4 w' := ho
            obtain ⟨h0, h1, -⟩ := hK
            have h0' : ρ (.tmp 36) = _ := h0
            have h1' : ρ (.tmp 37) = _ := h1
            go_simp
            try exact rfl
          apply rs_eq (hO _ _) (.inl (Nat.ne_of_beq_eq_false rfl))
          · intro ρ w' ho hK
            have ho : Only _ w4 w' := ho
            obtain ⟨h0, -⟩ := hK
            have h0' : ρ (.tmp 38) = _ := h0
            have hb := HBx w' ho
            obtain ⟨_, q0, q1, q2, q3⟩ := PCk.out.below hb
            have q4 := (hb.cell (p := ⟨b, o + k, none⟩) hbl).trans hs0
            go_simp
            try exact rfl
          refine rs_old (hO _ _) (.inl (Nat.ne_of_beq_eq_false rfl)) _ (.inl rfl) _ rfl rfl ?_
          refine rs_call (hO _ _) (.inl (Nat.ne_of_beq_eq_false rfl)) (TEq (.int .i64 (Cir.nextOf d s j : Nat))) (stb_eq _ _) 99 _ _ rfl (fun ρ w' ho hK => by
            have ho : Only _ w4 w' := ho
            obtain ⟨h0, h1, h2, h3, -⟩ := hK
            have h0' : ρ (.func 99) = .func (.func 99) #[] #[] := h0
            have h1' : ρ (.tmp 35) = _ := h1
            have h2' : ρ (.tmp 39) = _ := h2
            have h3' : ρ (.tmp 40) = _ := h3
            refine ⟨#[ρ (.tmp 35), ρ (.tmp 39), ρ (.tmp 40)], ?_, ?_⟩
            · go_simp
            · rw [h1', h2', h3']
              refine (l16Next_any _ d s j w' (HCk.out.below (HBx w' ho)) Hd.out (by omega) (by omega)).mono ?_
              rintro e w2 ⟨rfl, hb⟩
              exact ⟨_, rfl, rfl, hb⟩) ?_
          refine rs_call (hO _ _) (.inl (Nat.ne_of_beq_eq_false rfl)) (TEq (.int .i64 (idxOf (Cir.reach d) (Cir.nextOf d s j)))) (stb_eq _ _) 107 _ _ rfl (fun ρ w' ho hK => by
            have ho : Only _ w4 w' := ho
            obtain ⟨h0, h1, h2, -⟩ := hK
            have h0' : ρ (.func 107) = .func (.func 107) #[] #[] := h0
            have h1' : ρ (.tmp 34) = _ := h1
            have h2' : ρ (.tmp 41) = _ := h2
            refine ⟨#[ρ (.tmp 34), ρ (.tmp 41)], ?_, ?_⟩
            · go_simp
            · rw [h1', h2']
              refine (l29At_any _ (Cir.reach d) (Cir.nextOf d s j) w' (HSk.out.below (HBx w' ho)) (by omega)).mono ?_
              rintro e w2 ⟨rfl, rfl⟩
              exact ⟨_, rfl, rfl, Below.refl _ _⟩) ?_
          refine rs_build1 (hO _ _) (.inl (Nat.ne_of_beq_eq_false rfl)) 1 [.int .i64 (idxOf (Cir.reach d) (Cir.nextOf d s j))] 3 rfl (fun ρ w' ho hK => by
            have ho : Only _ w4 w' := ho
            obtain ⟨h0, -⟩ := hK
            have h0' : ρ (.tmp 42) = _ := h0
            go_simp) ?_
          refine rs_append2 rfl (Wk.heap.size) 3 22 1 (vv) (j) (cs1) _ rfl rfl (fun g hg => hg) (show Wk.heap.size ≤ w4.heap.size by omega) _ _ rfl _ _ rfl rfl rfl rfl i0 _ 8 Try.underlying22 hi0 hz0 hz1 hz2 rfl (by decide) (by omega) (by decide) (by simp [Value.oneCell']) ?_
          refine rs_same (hO _ _) (.inl (Nat.ne_of_beq_eq_false rfl)) 44 11 (.inr rfl) rfl _ rfl ?_
          intro f w9 k9 hk9 hI9 ht9 hcp9
          have E0 : f 0 = _ := ht9 0 (Nat.le_of_ble_eq_true rfl)
          have E1 : f 1 = _ := ht9 1 (Nat.le_of_ble_eq_true rfl)
          have E2 : f 2 = _ := ht9 2 (Nat.le_of_ble_eq_true rfl)
          have E3 : f 3 = _ := ht9 3 (Nat.le_of_ble_eq_true rfl)
          have E4 : f 4 = _ := ht9 4 (Nat.le_of_ble_eq_true rfl)
          have E5 : f 5 = _ := ht9 5 (Nat.le_of_ble_eq_true rfl)
          have E6 : f 6 = _ := ht9 6 (Nat.le_of_ble_eq_true rfl)
          have E7 : f 7 = _ := ht9 7 (Nat.le_of_ble_eq_true rfl)
          have E8 : f 8 = _ := ht9 8 (Nat.le_of_ble_eq_true rfl)
          have E9 : f 9 = _ := ht9 9 (Nat.le_of_ble_eq_true rfl)
          have E10 : (TNew _ 1 1 [.int .i64 (idxOf (Cir.reach d) (Cir.nextOf d s j))]) w9 (f 10) := ht9 10 (Nat.le_of_ble_eq_true rfl)
          have E11 : (TAny) w9 (f 11) := ht9 11 (Nat.le_of_ble_eq_true rfl)
          have E12 : (TAny) w9 (f 12) := ht9 12 (Nat.le_of_ble_eq_true rfl)
          have Ho9 : Only _ w4 w9 := hI9.2.1
          have hown9 : w9.ownsRow (Wk.heap.size) 3 1 (f 11) (j + 1) (cs1 ++ [.int .i64 (idxOf (Cir.reach d) (Cir.nextOf d s j))]) := hI9.2.2.1
          have hat9 : ∀ g, (f 11).ownBlock = some g → (vv).ownBlock = some g ∨ w4.heap.size ≤ g := hI9.2.2.2
          have C12 : f 12 = f 11 := (hcp9 12 _ 44 11 rfl rfl rfl rfl).2
          simp only [putAll, E0, E1, E2, E3, E4, E5, E6, E7, E8, E9, C12, Nat.zero_add, Nat.reduceAdd, Act.put, List.setIfInBounds_toArray, List.set_cons_succ, List.set_cons_zero]
          clear E0 E1 E2 E3 E4 E5 E6 E7 E8 E9
          clear hI9 ht9 hcp9 hk9
          generalize f 10 = r10 at *
          generalize f 11 = r11 at *
          have hA13 := apart_loc Hap.out hat9 (fun g hg => (Hu6.out.lt g hg).2)
          have Hu13 := Lib.hid (own_only Hu6.out Ho9 (fun g h1 h2 => Hap.out g h2 h1))
          have Hv13 := Lib.hid hown9
          have Hap13 := Lib.hid hA13
          have Hb13 := Lib.hid (HBx w9 Ho9)
          have hz13 := Nat.le_trans hzk Ho9.size
          clear Ho9 hown9 hat9 hA13 HBx hO Hv6 Hu6 Hap p0 p1 p2 p3 zz hs1
          obtain ⟨w5, hw5⟩ : ∃ w5, w5 = w9 := ⟨_, rfl⟩
          subst hw5
          obtain ⟨cs2, hcs2⟩ : ∃ cs2, ints ((nats (Cir.rowO d s)).take j) = cs2 := ⟨_, rfl⟩
          rw [hcs2] at Hu13
          have HC2s := Lib.hid hcs2
          clear hcs2
          go_wp2_with fail
          have HBy : ∀ w', Only (fun g => uu.ownBlock = some g) w5 w' → Below Wk.heap.size Wk w' := fun w' ho => Only.below Hb13.out ho hz13 (fun g hg => (Hu13.out.lt g hg).1)
          have hol : (Cir.outsOf d s j).length ≤ 16 := by unfold Cir.outsOf; rw [lits_length]; omega
          obtain ⟨i0, hi0, hz0, hz1, hz2⟩ := info_parts info_int
          have hO := fun ops a => appRS2_ok (Pg := Try.prog) (ops := ops) (a := a) (news := [.int .i64 (Cir.num (Cir.outsOf d s j) : Nat)]) (d := 10) (Hu13.out)
          refine wp_region_rs (appRS2 Try.prog _ w5 _ (Wk.heap.size) 3 1 (uu) (j) (cs2) [.int .i64 (Cir.num (Cir.outsOf d s j) : Nat)] 10) (hO _ _) (by kernel_rfl) (by kernel_rfl) (by kernel_rfl) (Nat.le_of_ble_eq_true rfl) trivial Hu13.out ?_
          refine rs_old (hO _ _) (.inl (Nat.ne_of_beq_eq_false rfl)) _ (.inl rfl) _ rfl rfl ?_
          apply rs_eq (hO _ _) (.inl (Nat.ne_of_beq_eq_false rfl))
          · intro ρ w' ho hK
            have ho : Only _ w5 w' := ho
            obtain ⟨h0, -⟩ := hK
            have h0' : ρ (.tmp 1) = _ := h0
            have hb := HBy w' ho
            obtain ⟨_, q0, q1, q2, q3⟩ := PCk.out.below hb
            have q4 := (hb.cell (p := ⟨b, o + k, none⟩) hbl).trans hs0
            go_simp
            try exact rfl
          refine rs_old (hO _ _) (.inl (Nat.ne_of_beq_eq_false rfl)) _ (.inl rfl) _ rfl rfl ?_
          refine rs_old (hO _ _) (.inl (Nat.ne_of_beq_eq_false rfl)) _ (.inl rfl) _ rfl rfl ?_
          apply rs_eq (hO _ _) (.inl (Nat.ne_of_beq_eq_false rfl))
          · intro ρ w' ho hK
            have ho : Only _ w5 w' := ho
            obtain ⟨h0, h1, -⟩ := hK
            have h0' : ρ (.tmp 47) = _ := h0
            have h1' : ρ (.tmp 48) = _ := h1
            go_simp
            try exact rfl
          apply rs_eq (hO _ _) (.inl (Nat.ne_of_beq_eq_false rfl))
          · intro ρ w' ho hK
            have ho : Only _ w5 w' := ho
            obtain ⟨h0, -⟩ := hK
            have h0' : ρ (.tmp 49) = _ := h0
            have hb := HBy w' ho
            obtain ⟨_, q0, q1, q2, q3⟩ := PCk.out.below hb
            have q4 := (hb.cell (p := ⟨b, o + k, none⟩) hbl).trans hs0
            go_simp
            try exact rfl
          refine rs_old (hO _ _) (.inl (Nat.ne_of_beq_eq_false rfl)) _ (.inl rfl) _ rfl rfl ?_
          refine rs_call (hO _ _) (.inl (Nat.ne_of_beq_eq_false rfl)) (TIn (From w5.heap.size) (bools (Cir.outsOf d s j))) (stb_in (fun g h e => by have := (Hu13.out.lt g e).2; unfold From at h; omega) _) 97 _ _ rfl (fun ρ w' ho hK => by
            have ho : Only _ w5 w' := ho
            obtain ⟨h0, h1, h2, h3, -⟩ := hK
            have h0' : ρ (.func 97) = .func (.func 97) #[] #[] := h0
            have h1' : ρ (.tmp 46) = _ := h1
            have h2' : ρ (.tmp 50) = _ := h2
            have h3' : ρ (.tmp 51) = _ := h3
            refine ⟨#[ρ (.tmp 46), ρ (.tmp 50), ρ (.tmp 51)], ?_, ?_⟩
            · go_simp
            · rw [h1', h2', h3']
              refine (l16OutsIn_any _ d s j w' (HCk.out.below (HBy w' ho)) Hd.out (by omega) (by omega)).mono ?_
              rintro e w2 ⟨⟨u, rfl, hO⟩, hb⟩
              exact ⟨u, rfl, by unfold TIn; rw [bools_length]; exact hO.mono (fun g hg => Nat.le_trans ho.size hg), hb⟩) ?_
          refine rs_call (hO _ _) (.inl (Nat.ne_of_beq_eq_false rfl)) (TEq (.int .i64 (Cir.num (Cir.outsOf d s j) : Nat))) (stb_eq _ _) 108 _ _ rfl (fun ρ w' ho hK => by
            have ho : Only _ w5 w' := ho
            obtain ⟨h0, h1, -⟩ := hK
            have h0' : ρ (.func 108) = .func (.func 108) #[] #[] := h0
            have h1' : (TIn (From w5.heap.size) (bools (Cir.outsOf d s j))) w' (ρ (.tmp 52)) := h1
            refine ⟨#[ρ (.tmp 52)], ?_, ?_⟩
            · go_simp
            · skip
              refine (l16Number_any _ (Cir.outsOf d s j) w' (by have := h1'; unfold TIn at this; rw [bools_length] at this; exact this.1) hol).mono ?_
              rintro e w2 ⟨rfl, rfl⟩
              exact ⟨_, rfl, rfl, Below.refl _ _⟩) ?_
          refine rs_build1 (hO _ _) (.inl (Nat.ne_of_beq_eq_false rfl)) 1 [.int .i64 (Cir.num (Cir.outsOf d s j) : Nat)] 3 rfl (fun ρ w' ho hK => by
            have ho : Only _ w5 w' := ho
            obtain ⟨h0, -⟩ := hK
            have h0' : ρ (.tmp 53) = _ := h0
            go_simp) ?_
          refine rs_append2 rfl (Wk.heap.size) 3 22 1 (uu) (j) (cs2) _ rfl rfl (fun g hg => hg) (show Wk.heap.size ≤ w5.heap.size by omega) _ _ rfl _ _ rfl rfl rfl rfl i0 _ 8 Try.underlying22 hi0 hz0 hz1 hz2 rfl (by decide) (by omega) (by decide) (by simp [Value.oneCell']) ?_
          refine rs_same (hO _ _) (.inl (Nat.ne_of_beq_eq_false rfl)) 55 10 (.inr rfl) rfl _ rfl ?_
          intro f w9 k9 hk9 hI9 ht9 hcp9
          have E0 : f 0 = _ := ht9 0 (Nat.le_of_ble_eq_true rfl)
          have E1 : f 1 = _ := ht9 1 (Nat.le_of_ble_eq_true rfl)
          have E2 : f 2 = _ := ht9 2 (Nat.le_of_ble_eq_true rfl)
          have E3 : f 3 = _ := ht9 3 (Nat.le_of_ble_eq_true rfl)
          have E4 : f 4 = _ := ht9 4 (Nat.le_of_ble_eq_true rfl)
          have E5 : f 5 = _ := ht9 5 (Nat.le_of_ble_eq_true rfl)
          have E6 : f 6 = _ := ht9 6 (Nat.le_of_ble_eq_true rfl)
          have E7 : (TIn (From w5.heap.size) (bools (Cir.outsOf d s j))) w9 (f 7) := ht9 7 (Nat.le_of_ble_eq_true rfl)
          have E8 : f 8 = _ := ht9 8 (Nat.le_of_ble_eq_true rfl)
          have E9 : (TNew _ 1 1 [.int .i64 (Cir.num (Cir.outsOf d s j) : Nat)]) w9 (f 9) := ht9 9 (Nat.le_of_ble_eq_true rfl)
          have E10 : (TAny) w9 (f 10) := ht9 10 (Nat.le_of_ble_eq_true rfl)
          have E11 : (TAny) w9 (f 11) := ht9 11 (Nat.le_of_ble_eq_true rfl)
          have Ho9 : Only _ w5 w9 := hI9.2.1
          have hown9 : w9.ownsRow (Wk.heap.size) 3 1 (f 10) (j + 1) (cs2 ++ [.int .i64 (Cir.num (Cir.outsOf d s j) : Nat)]) := hI9.2.2.1
          have hat9 : ∀ g, (f 10).ownBlock = some g → (uu).ownBlock = some g ∨ w5.heap.size ≤ g := hI9.2.2.2
          have C11 : f 11 = f 10 := (hcp9 11 _ 55 10 rfl rfl rfl rfl).2
          simp only [putAll, E0, E1, E2, E3, E4, E5, E6, E8, C11, Nat.zero_add, Nat.reduceAdd, Act.put, List.setIfInBounds_toArray, List.set_cons_succ, List.set_cons_zero]
          clear E0 E1 E2 E3 E4 E5 E6 E8
          clear hI9 ht9 hcp9 hk9
          generalize f 7 = r7 at *
          generalize f 9 = r9 at *
          generalize f 10 = r10 at *
          have hA14 := (apart_loc Hap13.out.symm hat9 (fun g hg => (Hv13.out.lt g hg).2)).symm
          have Hv14 := Lib.hid (own_only Hv13.out Ho9 (fun g h1 h2 => Hap13.out g h1 h2))
          have Hu14 := Lib.hid hown9
          have Hap14 := Lib.hid hA14
          have Hb14 := Lib.hid (HBy w9 Ho9)
          clear Ho9 hown9 hat9 hA14 HBy hO Hv13 Hu13 Hap13 hol
          obtain ⟨w6, hw6⟩ : ∃ w6, w6 = w9 := ⟨_, rfl⟩
          subst hw6
          obtain ⟨zz, p0, p1, p2, p3⟩ := PCk.out.below Hb14.out
          go_wp2_with fail
          go_roundw
          case rel => exact ⟨_, _, j + 1, rfl, rfl, by go_num, by omega, Lib.hid (by rw [HSn1.out, ints_snoc, HC1s.out]; exact Hv14.out), Lib.hid (by rw [HSn2.out, ints_snoc, HC2s.out]; exact Hu14.out), Hap14, Hb14.out⟩
          case measure => simp [intOf] <;> omega
        · obtain rfl : j = M := by omega
          obtain ⟨ga, ca, hva, hga, hga2, hca, hcam⟩ := own_open Hv6.out (by omega)
          obtain ⟨gb, cb, hvb, hgb, hgb2, hcb, hcbm⟩ := own_open Hu6.out (by omega)
          subst hva hvb
          unfold maxLen at hcam hcbm
          have Hab := Hap
          have Na1 : Hid (∀ g, (Value.slice (some ⟨ga, 0, none⟩) j ca).ownBlock = some g → ¬ E1 g ∧ ¬ E2 g) := Lib.hid fun g hg => ⟨fun he => by have h1 := HMB.out.l1 g he; have h2 := (Hv6.out.lt g hg).1; omega, fun he => by have h1 := HMB.out.l2 g he; have h2 := (Hv6.out.lt g hg).1; omega⟩
          have Nb1 : Hid (∀ g, (Value.slice (some ⟨gb, 0, none⟩) j cb).ownBlock = some g → ¬ E1 g ∧ ¬ E2 g) := Lib.hid fun g hg => ⟨fun he => by have h1 := HMB.out.l1 g he; have h2 := (Hu6.out.lt g hg).1; omega, fun he => by have h1 := HMB.out.l2 g he; have h2 := (Hu6.out.lt g hg).1; omega⟩
          have hRl : (Cir.rowI d s).length = j := HN1.out
          have Oa5 : Hid (wr.ownsRow (w1.heap.size + 1) 3 1 (.slice (some ⟨ga, 0, none⟩) j ca) (Cir.rowI d s).length (ints (Cir.rowI d s))) := Lib.hid (by
            have := Hv6.out
            rw [List.take_of_length_le (by omega)] at this
            rw [hRl]
            exact own_mono this (by omega))
          have Ob5 : Hid (wr.ownsRow (w1.heap.size + 1) 3 1 (.slice (some ⟨gb, 0, none⟩) j cb) (nats (Cir.rowO d s)).length (ints (nats (Cir.rowO d s)))) := Lib.hid (by
            have := Hu6.out
            rw [List.take_of_length_le (by have := HO1.out; omega)] at this
            rw [HO1.out]
            exact own_mono this (by omega))
          have HMB5 := Lib.hid (HMB.out.below Hbk.out)
          have hgw : Wk.heap.size ≤ ga := hga
          have hgw2 : Wk.heap.size ≤ gb := hgb
          clear Hap Hv6 Hu6
          have Hk8 : k ≤ 8 := by omega
          have HMl := HMB5.out.below (bel_new wr (.cells #[.slice (some ⟨ga, 0, none⟩) j ca] 22))
          obtain ⟨us, q1, q2, q3, q4, q5, q6, q7⟩ := HMl.n
          have hl1 : ((Cir.machN d).next.take k).length = k := by rw [List.length_take]; unfold Cir.machN; rw [List.length_map]; omega
          have hl2 : ((Cir.machN d).out.take k).length = k := by rw [List.length_take]; unfold Cir.machN; rw [List.length_map]; omega
          rw [hl1] at q1 q2
          have Q2 := Lib.hid q2
          have HML := Lib.hid HMl
          have Q := Lib.hid (And.intro q1 (And.intro q3 (And.intro q4 (And.intro q5 (And.intro q6 q7)))))
          have Hl1 := Lib.hid hl1
          have Hl2 := Lib.hid hl2
          have Oal := Lib.hid (Oa5.out.alloc (.cells #[.slice (some ⟨ga, 0, none⟩) j ca] 22))
          have Obl := Lib.hid (Ob5.out.alloc (.cells #[.slice (some ⟨ga, 0, none⟩) j ca] 22))
          have Hlit := Lib.hid (Row.of_own (World.ownsRow_lit (base := wr.heap.size) (e := 22) (size := 1) wr #[.slice (some ⟨ga, 0, none⟩) j ca] 1 (Nat.le_refl _) (by unfold maxLen; omega) rfl))
          have hgm5 := mb_lt HMB5.out
          have hsl : (wr.alloc (.cells #[.slice (some ⟨ga, 0, none⟩) j ca] 22)).heap.size = wr.heap.size + 1 := by simp
          have Nb2 : Hid (∀ v7 : Value, (v7.ownBlock = vN.ownBlock ∨ v7.ownBlock = some (wr.alloc (.cells #[.slice (some ⟨ga, 0, none⟩) j ca] 22)).heap.size) → ∀ g, (Value.slice (some ⟨gb, 0, none⟩) j cb).ownBlock = some g → ¬ (E1 g ∨ (Value.slice (some ⟨ga, 0, none⟩) j ca).ownBlock = some g ∨ v7.ownBlock = some g)) := Lib.hid fun v7 hat g hg he => by
            have hgb : gb = g := by simpa [Value.ownBlock] using hg
            subst hgb
            rcases he with he | he | he
            · exact (Nb1.out gb rfl).1 he
            · exact Hab.out gb he rfl
            · rcases hat with h | h
              · exact (Nb1.out gb rfl).1 (q6 gb (by rw [← h]; exact he))
              · rw [h] at he
                have h2 := Option.some.inj he
                have h3 := (Ob5.out.lt gb rfl).2
                omega
          obtain ⟨k0, k1, k2, k3, k4⟩ := HMB5.out.cells
          clear hRl HMl q1 q2 q3 q4 q5 q6 q7 hl1 hl2
          go_wp2_with (first
            | (at_builtin; refine append_intss rfl (.tmp 57) (.tmp 59) rfl (w1.heap.size + 1) vN k us rfl Q2.out _ 1 [.slice (some ⟨ga, 0, none⟩) j ca] rfl Hlit.out (by simp [Value.oneCell']) (by omega) (by first | omega | (simp <;> omega)) ?_; intro v7 w7 hown7 hg7 hat7; obtain ⟨A7, c7, hv7⟩ := slice_of_own hown7; subst hv7; have HMB7 := Lib.hid (MB.addN HML.out (Q.out.1.trans Hl1.out.symm) Q.out.2.1 Q.out.2.2.1 Q.out.2.2.2.1 Q.out.2.2.2.2.1 Q.out.2.2.2.2.2 Oal.out (fun g hg => (Na1.out g hg).1) (fun g hg => (Na1.out g hg).2) (by rw [Hl1.out]; exact hown7) hg7 hat7); have hbx := (hg7.block w1.heap.size (mb_lt HML.out) (fun e => by obtain ⟨_, _, p2, _⟩ := HML.out.n; have := (p2.lt _ e.symm).1; omega)).trans HML.out.box; have x1 := blk_cell hbx 1; have y1 := blk_free hbx 1; have x22 : w7.cell? ⟨w1.heap.size, 2, none⟩ = some vO := (blk_cell hbx 2); have y22 := blk_free hbx 2; obtain ⟨j0, j1, j2, j3, j4⟩ := HMB7.out.cells; have HMl8 := HMB7.out.below (bel_new _ (.cells #[.slice (some ⟨gb, 0, none⟩) j cb] 22)); obtain ⟨us2, t1, t2, t3, t4, t5, t6, t7⟩ := HMl8.o; rw [Hl2.out] at t1 t2; have T2 := Lib.hid t2; have HML8 := Lib.hid HMl8; have TQ := Lib.hid (And.intro t1 (And.intro t3 (And.intro t4 (And.intro t5 (And.intro t6 t7))))); have Ob8 := Lib.hid ((own_set (own_kept Obl.out hg7 (fun g h1 h2 => (Nb1.out g h1).1 (Q.out.2.2.2.2.1 g h2))) (show w1.heap.size < w1.heap.size + 1 by omega) (i := 1) (u := (Value.slice A7 (k + 1) c7))).alloc (.cells #[.slice (some ⟨gb, 0, none⟩) j cb] 22)); have Hlit2 := Lib.hid (Row.of_own (World.ownsRow_lit (base := (w7.setCell ⟨w1.heap.size, 1, none⟩ (Value.slice A7 (k + 1) c7)).heap.size) (e := 22) (size := 1) (w7.setCell ⟨w1.heap.size, 1, none⟩ (Value.slice A7 (k + 1) c7)) #[.slice (some ⟨gb, 0, none⟩) j cb] 1 (Nat.le_refl _) (by unfold maxLen; omega) rfl)); have Hg7 := Lib.hid hg7; have Hat7 := Lib.hid hat7; have hz7 := hg7.size; have hz8 : (w7.setCell ⟨w1.heap.size, 1, none⟩ (Value.slice A7 (k + 1) c7)).heap.size = w7.heap.size := (by simp [World.setCell]); have Hlit2 := Lib.hid (by have hh := Hlit2.out; rw [hz8] at hh; exact hh); clear hown7 hg7 hat7 hbx HMl8 t1 t2 t3 t4 t5 t6 t7 k0 k1 k2 k3 k4)
            | (at_builtin; refine append_intss rfl (.tmp 63) (.tmp 65) rfl (w1.heap.size + 1) vO k us2 rfl T2.out _ 1 [.slice (some ⟨gb, 0, none⟩) j cb] rfl Hlit2.out (by simp [Value.oneCell']) (by omega) (by first | omega | (simp <;> omega)) ?_; intro v9 w9 hown9 hg9 hat9; obtain ⟨A9, c9, hv9⟩ := slice_of_own hown9; subst hv9; have HMB9 := Lib.hid (MB.addO HML8.out (TQ.out.1.trans Hl2.out.symm) TQ.out.2.1 TQ.out.2.2.1 TQ.out.2.2.2.1 TQ.out.2.2.2.2.1 TQ.out.2.2.2.2.2 Ob8.out (Nb2.out _ Hat7.out) (fun g hg => (Nb1.out g hg).2) (by rw [Hl2.out]; exact hown9) hg9 hat9); have hbx := (hg9.block w1.heap.size (mb_lt HML8.out) (fun e => by obtain ⟨_, _, p2, _⟩ := HML8.out.o; have := (p2.lt _ e.symm).1; omega)).trans HML8.out.box; have x2 := blk_cell hbx 2; have y2 := blk_free hbx 2; have Hg9 := Lib.hid hg9; have Hat9 := Lib.hid hat9; clear hown9 hg9 hat9 hbx j0 j1 j2 j3 j4 x1 y1))
          go_roundw
          case rel => exact ⟨k + 1, _, _, _, _, by omega, by go_num, Lib.hid (by rw [HX1.out, HX2.out]; exact HMB9.out), Lib.hid (fun g hg => by
              rcases hg with hg | hg | hg
              · exact HE1.out g hg
              · have := Option.some.inj hg; simp only at this; omega
              · rcases Hat7.out with h | h
                · exact HE1.out g (Q.out.2.2.2.2.1 g (by rw [← h]; exact hg))
                · have := Option.some.inj (hg.symm.trans h); rw [World.size_alloc] at this; omega), Lib.hid (fun g hg => by
              rcases hg with hg | hg | hg
              · exact HE2.out g hg
              · have := Option.some.inj hg; simp only at this; omega
              · rcases Hat9.out with h | h
                · exact HE2.out g (TQ.out.2.2.2.2.1 g (by rw [← h]; exact hg))
                · have := Option.some.inj (hg.symm.trans h); rw [World.size_alloc, hz8] at this; omega), by
            have a0 : Only (fun g => g = w1.heap.size) Wk wr := Only.of_below _ Hbk.out
            have a1 := Ho.out.trans (a0.trans (Only.of_below _ (bel_new wr (.cells #[.slice (some ⟨ga, 0, none⟩) j ca] 22))))
            have a2 := a1.after (Only.grown (E := fun g => vN.ownBlock = some g) Hg7.out (fun q hq => hq)) (fun g hg => .inl (HE1.out g (Q.out.2.2.2.2.1 g hg)))
            have a3 := a2.trans (Only.grown (E := fun g => g = w1.heap.size) (set_grown _ _ 1 (Value.slice A7 (k + 1) c7)) (fun q hq => (Option.some.inj hq).symm))
            have a4 := a3.trans (Only.of_below _ (bel_new _ (.cells #[.slice (some ⟨gb, 0, none⟩) j cb] 22)))
            have a5 := a4.after (Only.grown (E := fun g => vO.ownBlock = some g) Hg9.out (fun q hq => hq)) (fun g hg => .inl (HE2.out g (TQ.out.2.2.2.2.1 g hg)))
            exact a5.trans (Only.grown (E := fun g => g = w1.heap.size) (set_grown _ _ 2 (Value.slice A9 (k + 1) c9)) (fun q hq => (Option.some.inj hq).symm))⟩
          case measure => simp [intOf] <;> omega
    · obtain rfl : k = (Cir.reach d).length := by omega
      have HMf : Hid (MB w1.heap.size d.ins E1 E2 vN vO (Cir.machN d).next (Cir.machN d).out wr) := Lib.hid (by
        have := HMB.out
        rwa [List.take_of_length_le (by unfold Cir.machN; simp), List.take_of_length_le (by unfold Cir.machN; simp)] at this)
      obtain ⟨k0, k1, k2, k3, k4⟩ := HMf.out.cells
      have hR := (Hb.out.block (w.heap.size + 1) (by omega)).trans HRes1.out
      have o0 := blk_cell hR 0
      have o1 := blk_cell hR 1
      have o2 := blk_cell hR 2
      have b0 := blk_free hR 0
      have b1 := blk_free hR 1
      have b2 := blk_free hR 2
      simp at o0 o1 o2
      have HB := Lib.hid (B1.out.trans (Hb.out.mono B1.out.size))
      have hlN := HMf.out.l1
      have hlO := HMf.out.l2
      obtain ⟨An, cn, hvN, -, -⟩ := SSAt.shape (OwnSE.at HMf.out.n)
      obtain ⟨Ao, co, hvO, -, -⟩ := SSAt.shape (OwnSE.at HMf.out.o)
      have HMF2 := Lib.hid (And.intro HMf.out.n (And.intro HMf.out.o HMf.out.d))
      have HlN := Lib.hid hlN
      have HlO := Lib.hid hlO
      clear hR HMf HMB hlN hlO
      subst hvN hvO
      go_wp2_with fail
      refine bodyPost_ret (v := .agg #[.int .i64 d.ins, .slice An (Cir.machN d).next.length cn, .slice Ao (Cir.machN d).out.length co]) (by simp [results, Try.results48, go_sem, o0, o1, o2]) rfl ⟨⟨_, rfl, ⟨_, _, rfl, OwnSE.at (OwnSE.set (OwnSE.set (OwnSE.set HMF2.out.1 (by omega)) (by omega)) (by omega)), OwnSE.at (OwnSE.set (OwnSE.set (OwnSE.set HMF2.out.2.1 (by omega)) (by omega)) (by omega))⟩⟩, ?_⟩
      exact ((HB.out.setCell (by simp only; omega) _).setCell (by simp only; omega) _).setCell (by simp only; omega) _
end Go.Proofs.Ytmlcbikljlhhkaa

namespace Go.Proofs.Ytmlcbikljlhhkaa
open Go.RowKit
set_option maxRecDepth 100000
/-! MachineOf, both, for all circuits. -/
def Cir.mach0 : Mz := { ins := 0, next := [], out := [] }
theorem implMof_no (v : Value) (c : Cz) (w : World) (h : CircAt w v c) (hv : Cir.valid c = false) :
    Calls Try.prog 49 #[v] w (OwnMachR Cir.mach0 w) := by
  have HC := Lib.hid h
  obtain ⟨vn, vg, vo, rfl, -⟩ := h
  have hb0 := bel_new w (.cells #[.int .i64 c.ins, vn, vg, vo] 30)
  have hb00 := bel_new (w.alloc (.cells #[.int .i64 c.ins, vn, vg, vo] 30)) (.cells #[.int .i64 0, .slice none 0 0, .slice none 0 0] 61)
  have B0 := Lib.hid (hb0.trans (hb00.mono hb0.size))
  have PC := Lib.hid ((PCells.boxed w c.ins vn vg vo 30).below hb00)
  have hsz : ((w.alloc (.cells #[.int .i64 c.ins, vn, vg, vo] 30)).alloc (.cells #[.int .i64 0, .slice none 0 0, .slice none 0 0] 61)).heap.size = w.heap.size + 2 := by simp
  have hR : ((w.alloc (.cells #[.int .i64 c.ins, vn, vg, vo] 30)).alloc (.cells #[.int .i64 0, .slice none 0 0, .slice none 0 0] 61)).heap[w.heap.size + 1]? = some (.cells #[.int .i64 0, .slice none 0 0, .slice none 0 0] 61 (0, 0)) := by
    have := heap_alloc_new (w.alloc (.cells #[.int .i64 c.ins, vn, vg, vo] 30)) (.cells #[.int .i64 0, .slice none 0 0, .slice none 0 0] 61)
    rwa [World.size_alloc] at this
  have HRes := Lib.hid hR
  obtain ⟨z, p0, p1, p2, p3⟩ := PC.out
  have HV := Lib.hid (implValid_any _ _ _ (HC.out.below B0.out))
  rw [hv] at HV
  clear hv HC hb0 hb00 hR
  go_enter Try.func49, Try.ntmps49
  go_wp2_with fail
  generalize (w.alloc (.cells #[.int .i64 c.ins, vn, vg, vo] 30)).alloc (.cells #[.int .i64 0, .slice none 0 0, .slice none 0 0] 61) = W at *
  refine HV.out.mono ?_
  rintro e w1 ⟨rfl, hb1⟩
  have B1 := Lib.hid (B0.out.trans (hb1.mono B0.out.size))
  have hR1 := (hb1.block _ (by omega)).trans HRes.out
  have o0 := blk_cell hR1 0
  have o1 := blk_cell hR1 1
  have o2 := blk_cell hR1 2
  have b0 := blk_free hR1 0
  have b1 := blk_free hR1 1
  have b2 := blk_free hR1 2
  simp at o0 o1 o2
  have z1 := hb1.size
  clear hb1 hR1 p0 p1 p2 p3 z HV HRes PC
  go_wp2_with fail
  refine bodyPost_ret (v := .agg #[.int .i64 0, .slice none 0 0, .slice none 0 0]) (by simp [results, Try.results49, go_sem, o0, o1, o2]) rfl ⟨_, rfl, ⟨_, _, fun _ => False, fun _ => False, rfl, fun g h => h.elim, fun g h => h.elim, fun g h => h.elim, OwnSE.nil _ _ _ _ _ _, OwnSE.nil _ _ _ _ _ _⟩, ((B1.out.setCell (by simp only; omega) _).setCell (by simp only; omega) _).setCell (by simp only; omega) _⟩
theorem specMof_no (v : Value) (c : Cz) (w : World) (h : CircAt w v c) (hv : Cir.valid c = false) :
    Calls Try.prog 48 #[v] w (ReadMach Cir.mach0 w) := by
  have HC := Lib.hid h
  obtain ⟨vn, vg, vo, rfl, -⟩ := h
  have hb0 := bel_new w (.cells #[.int .i64 c.ins, vn, vg, vo] 30)
  have hb00 := bel_new (w.alloc (.cells #[.int .i64 c.ins, vn, vg, vo] 30)) (.cells #[.int .i64 0, .slice none 0 0, .slice none 0 0] 61)
  have B0 := Lib.hid (hb0.trans (hb00.mono hb0.size))
  have PC := Lib.hid ((PCells.boxed w c.ins vn vg vo 30).below hb00)
  have hsz : ((w.alloc (.cells #[.int .i64 c.ins, vn, vg, vo] 30)).alloc (.cells #[.int .i64 0, .slice none 0 0, .slice none 0 0] 61)).heap.size = w.heap.size + 2 := by simp
  have hR : ((w.alloc (.cells #[.int .i64 c.ins, vn, vg, vo] 30)).alloc (.cells #[.int .i64 0, .slice none 0 0, .slice none 0 0] 61)).heap[w.heap.size + 1]? = some (.cells #[.int .i64 0, .slice none 0 0, .slice none 0 0] 61 (0, 0)) := by
    have := heap_alloc_new (w.alloc (.cells #[.int .i64 c.ins, vn, vg, vo] 30)) (.cells #[.int .i64 0, .slice none 0 0, .slice none 0 0] 61)
    rwa [World.size_alloc] at this
  have HRes := Lib.hid hR
  obtain ⟨z, p0, p1, p2, p3⟩ := PC.out
  have HV := Lib.hid (specValid_any _ _ _ (HC.out.below B0.out))
  rw [hv] at HV
  clear hv HC hb0 hb00 hR
  go_enter Try.func48, Try.ntmps48
  go_wp2_with fail
  generalize (w.alloc (.cells #[.int .i64 c.ins, vn, vg, vo] 30)).alloc (.cells #[.int .i64 0, .slice none 0 0, .slice none 0 0] 61) = W at *
  refine HV.out.mono ?_
  rintro e w1 ⟨rfl, hb1⟩
  have B1 := Lib.hid (B0.out.trans (hb1.mono B0.out.size))
  have hR1 := (hb1.block _ (by omega)).trans HRes.out
  have o0 := blk_cell hR1 0
  have o1 := blk_cell hR1 1
  have o2 := blk_cell hR1 2
  have b0 := blk_free hR1 0
  have b1 := blk_free hR1 1
  have b2 := blk_free hR1 2
  simp at o0 o1 o2
  have z1 := hb1.size
  clear hb1 hR1 p0 p1 p2 p3 z HV HRes PC
  go_wp2_with fail
  refine bodyPost_ret (v := .agg #[.int .i64 0, .slice none 0 0, .slice none 0 0]) (by simp [results, Try.results48, go_sem, o0, o1, o2]) rfl ⟨⟨_, rfl, ⟨_, _, rfl, SSAt.nil _ _, SSAt.nil _ _⟩⟩, ((B1.out.setCell (by simp only; omega) _).setCell (by simp only; omega) _).setCell (by simp only; omega) _⟩
theorem implMof_any (v : Value) (c : Cz) (w : World) (h : CircAt w v c) : Calls Try.prog 49 #[v] w (OwnMachR (Cir.machI c) w) := by
  cases hv : Cir.valid c
  · have hr : Cir.machI c = Cir.mach0 := by unfold Cir.machI; rw [hv]; rfl
    rw [hr]
    exact implMof_no v c w h hv
  · obtain ⟨d1, d2⟩ := Cir.nat_ok hv
    have hr : Cir.machI c = Cir.machN (Cir.nat c) := by unfold Cir.machI; rw [hv]; rfl
    rw [hr]
    exact implMof_ok v (Cir.nat c) w (by rw [← d1]; exact h) d2 (by rw [← d1]; exact hv)
theorem specMof_any (v : Value) (c : Cz) (w : World) (h : CircAt w v c) : Calls Try.prog 48 #[v] w (ReadMach (Cir.machI c) w) := by
  cases hv : Cir.valid c
  · have hr : Cir.machI c = Cir.mach0 := by unfold Cir.machI; rw [hv]; rfl
    rw [hr]
    exact specMof_no v c w h hv
  · obtain ⟨d1, d2⟩ := Cir.nat_ok hv
    have hr : Cir.machI c = Cir.machN (Cir.nat c) := by unfold Cir.machI; rw [hv]; rfl
    rw [hr]
    exact specMof_ok v (Cir.nat c) w (by rw [← d1]; exact h) d2 (by rw [← d1]; exact hv)
end Go.Proofs.Ytmlcbikljlhhkaa

namespace Go.Proofs.Ytmlcbikljlhhkaa
open Go.RowKit
/-! Things of a law in memory, and the blocks that they lie in. -/
/-- A thing that lies in the blocks from B up to T. -/
def Lives (B T : Nat) (K : World → Prop) : Prop := ∀ (E : Nat → Prop) (w w' : World), K w → T ≤ w.heap.size → Only E w w' → (∀ g, B ≤ g → g < T → ¬ E g) → K w'
structure Has (B T : Nat) (K : World → Prop) (w : World) : Prop where
  k : K w
  t : T ≤ w.heap.size
  l : Lives B T K
section
variable {B T : Nat} {K : World → Prop} {w w' : World}
theorem Has.only {E : Nat → Prop} (h : Has B T K w) (ho : Only E w w') (hE : ∀ g, B ≤ g → g < T → ¬ E g) : Has B T K w' := ⟨h.l E w w' h.k h.t ho hE, Nat.le_trans h.t ho.size, h.l⟩
theorem Has.below (h : Has B T K w) (hb : Below w.heap.size w w') : Has B T K w' := h.only (E := fun _ => False) ⟨hb.os, hb.tape, hb.output, hb.size, fun k hk _ => hb.block k hk⟩ (fun _ _ _ e => e)
theorem Has.apart {B' T' : Nat} (h : Has B T K w) (ho : Only (fun g => B' ≤ g ∧ g < T') w w') (hd : T ≤ B' ∨ T' ≤ B) : Has B T K w' := h.only ho (fun g h1 h2 h3 => by obtain ⟨h4, h5⟩ := h3; omega)
theorem Has.grown {r : Option Nat} {B' : Nat} (h : Has B T K w) (ho : w.grownBy w' r) (hr : ∀ g, r = some g → B' ≤ g) (hd : T ≤ B') : Has B T K w' := h.only (E := fun g => B' ≤ g) (Only.grown ho hr) (fun g h1 h2 h3 => by have h4 : B' ≤ g := h3; omega)
end
/-- What was so in a world of T blocks, and still is. -/
def Kept (A : World → Prop) (T : Nat) (w' : World) : Prop := ∃ w0, A w0 ∧ w0.heap.size = T ∧ Below w0.heap.size w0 w'
theorem lives_kept (A : World → Prop) (T : Nat) : Lives 0 T (Kept A T) := by
  rintro E w w' ⟨w0, hA, rfl, hb⟩ ht ho hE
  exact ⟨w0, hA, rfl, ho.os.trans hb.os, ho.tape.trans hb.tape, ho.output.trans hb.output, Nat.le_trans hb.size ho.size, fun k hk => (ho.block k (Nat.lt_of_lt_of_le hk ht) (hE k (Nat.zero_le _) hk)).trans (hb.block k hk)⟩
theorem has_kept {A : World → Prop} {w : World} (h : A w) : Has 0 w.heap.size (Kept A w.heap.size) w := ⟨⟨w, h, rfl, Below.refl _ _⟩, Nat.le_refl _, lives_kept _ _⟩
/-- A row of the call's own, below T. -/
def RowT (B T : Nat) (e : TypeId) (size : Nat) (v : Value) (n : Nat) (cs : List Value) (w : World) : Prop := w.ownsRow B e size v n cs ∧ ∀ g, v.ownBlock = some g → g < T
theorem lives_rowT (B T : Nat) (e : TypeId) (size : Nat) (v : Value) (n : Nat) (cs : List Value) : Lives B T (RowT B T e size v n cs) := by
  rintro E w w' ⟨h, hl⟩ ht ho hE
  exact ⟨own_only h ho fun g hg => hE g (h.lt g hg).1 (hl g hg), hl⟩
theorem has_row {B : Nat} {e : TypeId} {size n : Nat} {v : Value} {cs : List Value} {w : World} (h : w.ownsRow B e size v n cs) : Has B w.heap.size (RowT B w.heap.size e size v n cs) w :=
  ⟨⟨h, fun g hg => (h.lt g hg).2⟩, Nat.le_refl _, lives_rowT _ _ _ _ _ _ _⟩
theorem lives_ss {α : Type} (enc : List α → List Value) (to ti : TypeId) (B T : Nat) (v : Value) (xss : List (List α)) : Lives B T (fun w => OwnSS enc to ti B T w v xss) := fun _ _ _ h _ ho hE => OwnSS.only h ho hE
end Go.Proofs.Ytmlcbikljlhhkaa

namespace Go.Proofs.Ytmlcbikljlhhkaa
open Go.RowKit
set_option maxRecDepth 100000
theorem Kept.atN {v : Value} {xs : List Int} {T : Nat} {w : World} (h : Kept (fun w' => IntsAt w' v xs) T w) : IntsAt w v xs := by
  obtain ⟨w0, h, _, hb⟩ := h
  exact Row.below h hb
theorem Kept.atB {v : Value} {xs : List Bool} {T : Nat} {w : World} (h : Kept (fun w' => BoolsAt w' v xs) T w) : BoolsAt w v xs := by
  obtain ⟨w0, h, _, hb⟩ := h
  exact Row.below h hb
theorem ints_of_row {B T : Nat} {e : TypeId} {v : Value} {xs : List Int} {w : World} (h : RowT B T e 1 v xs.length (ints xs) w) : IntsAt w v xs := Row.of_own h.1
theorem bools_of_row {B T : Nat} {e : TypeId} {v : Value} {xs : List Bool} {w : World} (h : RowT B T e 1 v xs.length (bools xs) w) : BoolsAt w v xs := Row.of_own h.1
theorem has_true (w : World) : Has 0 0 (fun _ => True) w := ⟨trivial, Nat.zero_le _, fun _ _ _ _ _ _ _ => trivial⟩
theorem markIntS_only (B T : Nat) (v : Value) (n k : Nat) (cs : List Value) (w : World) (h : RowT B T 3 1 v n cs w) (hn : n ≤ 1048576) (hk : k ≤ 100000000) :
    Calls Try.prog 25 #[v, .int .i64 k] w fun e w' => (∃ k' : Nat, e = .returned (.int .i64 (k' : Nat)) ∧ k' ≤ k + 1048576) ∧ Only (fun g => B ≤ g ∧ g < T) w w' :=
  (markIntS_any B v n k cs w h.1 hn hk).mono fun _ _ ⟨h1, _, h3⟩ => ⟨⟨_, h1, by omega⟩, Only.grown h3 fun g hg => ⟨(h.1.lt g hg).1, h.2 g hg⟩⟩
theorem markIntS_own (B T : Nat) (v : Value) (n k : Nat) (cs : List Value) (w : World) (h : RowT B T 3 1 v n cs w) (hn : n ≤ 1048576) (hk : k ≤ 100000000) :
    Calls Try.prog 25 #[v, .int .i64 k] w fun e w' => e = .returned (.int .i64 ((k + n : Nat) : Int)) ∧ Only (fun g => B ≤ g ∧ g < T) w w' ∧ Has B w'.heap.size (RowT B w'.heap.size 3 1 v n (runI k n)) w' :=
  (markIntS_any B v n k cs w h.1 hn hk).mono fun _ _ ⟨h1, h2, h3⟩ => ⟨h1, Only.grown h3 fun g hg => ⟨(h.1.lt g hg).1, h.2 g hg⟩, has_row h2⟩
end Go.Proofs.Ytmlcbikljlhhkaa

namespace Go.Proofs.Ytmlcbikljlhhkaa
set_option maxRecDepth 100000
open Go.RowKit Go.Joins Go.ChangeShapes Go.WideShapes Go.ChangeAt Go.Deep
/-! Arguments that are slices, whatever their elements. -/
theorem flat_at {α : Type} {size : Nat} : ∀ {els : List (List α)}, (∀ e ∈ els, e.length = size) → ∀ {j : Nat} {u : α}, els.flatten[j]? = some u → ∃ (i r : Nat) (e : List α), j = i * size + r ∧ r < size ∧ els[i]? = some e ∧ e[r]? = some u
  | [], _, j, u, h => by simp at h
  | e :: els, hl, j, u, h => by
    have he := hl e (by simp)
    rw [List.flatten_cons, List.getElem?_append] at h
    split at h
    · rename_i hlt
      exact ⟨0, j, e, by omega, by omega, rfl, h⟩
    · rename_i hge
      obtain ⟨i, r, e', hj, hr, hi, hu⟩ := flat_at (fun e' h' => hl e' (List.mem_cons_of_mem _ h')) h
      refine ⟨i + 1, r, e', ?_, hr, by simpa using hi, hu⟩
      rw [Nat.add_mul]
      omega
theorem flat_length {α : Type} {size : Nat} : ∀ {els : List (List α)}, (∀ e ∈ els, e.length = size) → els.flatten.length = els.length * size
  | [], _ => by simp
  | e :: els, h => by
    rw [List.flatten_cons, List.length_append, flat_length (fun e' h' => h e' (List.mem_cons_of_mem _ h')), h e (by simp), List.length_cons, Nat.add_mul]
    omega
section
variable {H : Type} {enc : TypeId × Value → H} {P : Program} {w : World} {base : Nat} {spare : Nat → Bool} {held : Bool}
theorem slice_rd {t e : TypeId} {size fuel : Nat} {cs : List Value} {x : DataW H × List MemPlace} (ht : P.underlying t = some (.slice e)) (hc : P.cellsOf e = size) (hs : 0 < size) (G : List Value → Prop)
    (hG : ∀ n cs' y, cs'.length = size → DataW.trod enc P w base spare held n e cs' = some y → G cs') (h : DataW.trod enc P w base spare held fuel t cs = some x) :
    ∃ (A : Option Addr) (n c : Nat) (els : List (List Value)), cs = [.slice A n c] ∧ Row w size (.slice A n c) n els.flatten ∧ els.length = n ∧ (∀ e ∈ els, e.length = size) ∧ ∀ e ∈ els, G e := by
  rcases open_slice ht h with ⟨rfl, _⟩ | ⟨a, len, cap, m, n, D, Pl, rfl, hb, hl, hm, hmm, _, hx⟩
  · exact ⟨none, 0, 0, [], rfl, Row.nil w size, rfl, by simp, by simp⟩
  · have hx' : ∀ i, i < len → ∃ cs', cs'.length = size ∧ (∀ j, j < size → w.cell? (a.add (i * size + j)) = cs'[j]?) ∧ G cs' := by
      intro i hi
      have him : i < m := by rw [hmm]; split <;> omega
      obtain ⟨cs', h1, h2⟩ := hx i him
      rw [hc] at h1
      obtain ⟨_, h3, h4⟩ := World.cells?_some h1
      refine ⟨cs', h3, fun j hj => ?_, hG _ _ _ h3 h2⟩
      rw [← Go.Deep.add_add]
      exact h4 j hj
    let f : Nat → List Value := fun i => if h : i < len then (hx' i h).choose else []
    have hf : ∀ i, i < len → (f i).length = size ∧ (∀ j, j < size → w.cell? (a.add (i * size + j)) = (f i)[j]?) ∧ G (f i) := by
      intro i hi
      have := (hx' i hi).choose_spec
      simp only [f, hi, dite_true]
      exact this
    have hel : ∀ e ∈ (List.range len).map f, e.length = size := by
      intro e he
      obtain ⟨i, hi, rfl⟩ := List.mem_map.1 he
      exact (hf i (List.mem_range.1 hi)).1
    refine ⟨some a, len, cap, (List.range len).map f, rfl, ⟨by rw [flat_length hel]; simp, some a, cap, rfl, hl, hm, fun hn => ?_⟩, by simp, hel, fun e he => ?_⟩
    · obtain ⟨b, off, spot⟩ := a
      obtain ⟨h5, h6, _⟩ := hf 0 hn
      have h0 := h6 0 hs
      rw [List.getElem?_eq_getElem (by omega)] at h0
      have hspot : spot = none := by simpa [Addr.add] using World.cell?_spot h0
      subst hspot
      refine ⟨b, off, rfl, ?_, fun j u hu => ?_⟩
      · rcases Nat.lt_or_ge b w.heap.size with hl | hl
        · exact hl
        · simp [World.cell?, Addr.add, Array.getElem?_eq_none hl] at h0
      · obtain ⟨i, r, e', rfl, hr, hi, hu'⟩ := flat_at hel hu
        have hil : i < len := by
          obtain ⟨hi', _⟩ := List.getElem?_eq_some_iff.1 hi
          simpa using hi'
        have : e' = f i := by simpa [hil] using hi.symm
        subst this
        rw [← Go.WideShapes.add_plain, (hf i hil).2.1 r hr]
        exact hu'
    · obtain ⟨i, hi, rfl⟩ := List.mem_map.1 he
      exact (hf i (List.mem_range.1 hi)).2.2
end
def WfI (x : Int) : Prop := -9223372036854775808 ≤ x ∧ x ≤ 9223372036854775807
theorem wf_i {x : Int} (h : (Lit.int .i64 x).wf = true) : WfI x := by
  have := Go.bounds_i64 h
  unfold WfI
  omega
/-- What the cells of the elements come to. -/
theorem els_of {α : Type} (f : α → List Value) (G : α → Prop) : ∀ {els : List (List Value)}, (∀ e ∈ els, ∃ x, e = f x ∧ G x) → ∃ xs : List α, els.flatten = xs.flatMap f ∧ xs.length = els.length ∧ ∀ x ∈ xs, G x
  | [], _ => ⟨[], rfl, rfl, by simp⟩
  | e :: els, h => by
    obtain ⟨xs, h1, h2, h3⟩ := els_of f G (fun e' h' => h e' (List.mem_cons_of_mem _ h'))
    obtain ⟨x, rfl, hx⟩ := h e (by simp)
    refine ⟨x :: xs, by simp [h1], by simp [h2], ?_⟩
    intro y hy
    rcases List.mem_cons.1 hy with e | hy
    · exact e ▸ hx
    · exact h3 y hy
theorem flatMap_one {α : Type} (f : α → Value) : ∀ xs : List α, (xs.flatMap fun x => [f x]) = xs.map f
  | [] => rfl
  | x :: xs => by rw [List.flatMap_cons, flatMap_one f xs]; rfl
/-- What is known of an argument's cells. -/
def GInts (w : World) (cs : List Value) : Prop := ∃ (A : Option Addr) (n c : Nat) (xs : List Int), cs = [.slice A n c] ∧ IntsAt w (.slice A n c) xs ∧ xs.length = n ∧ ∀ x ∈ xs, WfI x
def GBools (w : World) (cs : List Value) : Prop := ∃ (A : Option Addr) (n c : Nat) (xs : List Bool), cs = [.slice A n c] ∧ BoolsAt w (.slice A n c) xs ∧ xs.length = n
def GPairs (w : World) (cs : List Value) : Prop := ∃ (A : Option Addr) (n c : Nat) (xs : List (Int × Int)), cs = [.slice A n c] ∧ CubesAt w (.slice A n c) xs ∧ xs.length = n ∧ ∀ x ∈ xs, WfI x.1 ∧ WfI x.2
section
variable {H : Type} {enc : TypeId × Value → H} {w : World} {base : Nat} {spare : Nat → Bool} {held : Bool}
theorem rd_int {n : Nat} {cs : List Value} {y : DataW H × List MemPlace} (h : DataW.trod enc Try.prog w base spare held n 3 cs = some y) : ∃ x, cs = [.int .i64 x] ∧ WfI x := by
  obtain ⟨x, e, _, hw⟩ := DataW.trod_int Try.underlying3 h
  exact ⟨x, e, wf_i hw⟩
theorem rd_bool {n : Nat} {cs : List Value} {y : DataW H × List MemPlace} (h : DataW.trod enc Try.prog w base spare held n 4 cs = some y) : ∃ x, cs = [.bool x] := by
  obtain ⟨x, e, _⟩ := DataW.trod_bool Try.underlying4 h
  exact ⟨x, e⟩
theorem rd_ints {n : Nat} {cs : List Value} {y : DataW H × List MemPlace} (h : DataW.trod enc Try.prog w base spare held n 22 cs = some y) : GInts w cs := by
  obtain ⟨A, n, c, els, rfl, hr, rfl, _, hg⟩ := slice_rd (size := 1) Try.underlying22 (by kernel_rfl) (by decide) (fun cs => ∃ x, cs = [.int .i64 x] ∧ WfI x) (fun _ _ _ _ h => rd_int h) h
  obtain ⟨xs, h1, h2, h3⟩ := els_of (fun x : Int => [Value.int .i64 x]) WfI hg
  rw [flatMap_one] at h1
  exact ⟨A, _, c, xs, rfl, by rw [h1, ← h2] at hr; rw [← h2]; exact hr, h2, h3⟩
theorem rd_bools {n : Nat} {cs : List Value} {y : DataW H × List MemPlace} (h : DataW.trod enc Try.prog w base spare held n 78 cs = some y) : GBools w cs := by
  obtain ⟨A, n, c, els, rfl, hr, rfl, _, hg⟩ := slice_rd (size := 1) Try.underlying78 (by kernel_rfl) (by decide) (fun cs => ∃ x, cs = [.bool x]) (fun _ _ _ _ h => rd_bool h) h
  obtain ⟨xs, h1, h2, _⟩ := els_of (fun x : Bool => [Value.bool x]) (fun _ => True) (fun e he => by obtain ⟨x, hx⟩ := hg e he; exact ⟨x, hx, trivial⟩)
  rw [flatMap_one] at h1
  exact ⟨A, _, c, xs, rfl, by rw [h1, ← h2] at hr; rw [← h2]; exact hr, h2⟩
theorem rd_pair {t : TypeId} {f0 f1 : Field} (hs : Try.prog.underlying t = some (.struct #[f0, f1])) (h0 : f0.type = 3) (h1 : f1.type = 3) (hone : oneCellFields Try.prog #[f0, f1] = true) (hC : Try.prog.cellsOf t = 2) {n : Nat} {cs : List Value} {y : DataW H × List MemPlace} (hl : cs.length = 2) (h : DataW.trod enc Try.prog w base spare held n t cs = some y) : ∃ x : Int × Int, cs = [.int .i64 x.1, .int .i64 x.2] ∧ WfI x.1 ∧ WfI x.2 := by
  match cs, hl with
  | [c0, c1], _ =>
    obtain ⟨xs, n, _, hx, _, hlen, hg⟩ := DataW.trod_struct hs h
    obtain ⟨o0, k0⟩ := hone_of hone 0 f0 rfl
    obtain ⟨o1, k1⟩ := hone_of hone 1 f1 rfl
    match xs, hlen with
    | [y0, y1], _ =>
      have g0 : DataW.trod enc Try.prog w base spare held n f0.type [c0] = some y0 := by simpa [Value.cells, o0, k0] using hg 0 f0 rfl
      have g1 : DataW.trod enc Try.prog w base spare held n f1.type [c1] = some y1 := by simpa [Value.cells, o1, k1] using hg 1 f1 rfl
      rw [h0] at g0
      rw [h1] at g1
      obtain ⟨a, e0, w0⟩ := rd_int g0
      obtain ⟨b, e1, w1⟩ := rd_int g1
      injection e0 with e0
      injection e1 with e1
      subst e0 e1
      exact ⟨(a, b), rfl, w0, w1⟩
theorem rd_pairs {t e : TypeId} {f0 f1 : Field} (ht : Try.prog.underlying t = some (.slice e)) (hs : Try.prog.underlying e = some (.struct #[f0, f1])) (h0 : f0.type = 3) (h1 : f1.type = 3) (hone : oneCellFields Try.prog #[f0, f1] = true) (hC : Try.prog.cellsOf e = 2) {n : Nat} {cs : List Value} {y : DataW H × List MemPlace} (h : DataW.trod enc Try.prog w base spare held n t cs = some y) : GPairs w cs := by
  obtain ⟨A, n, c, els, rfl, hr, rfl, _, hg⟩ := slice_rd (size := 2) ht hC (by decide) (fun cs => ∃ x : Int × Int, cs = [.int .i64 x.1, .int .i64 x.2] ∧ WfI x.1 ∧ WfI x.2) (fun _ _ _ hl h => rd_pair hs h0 h1 hone hC hl h) h
  obtain ⟨xs, g1, g2, g3⟩ := els_of (fun x : Int × Int => [Value.int .i64 x.1, Value.int .i64 x.2]) (fun x => WfI x.1 ∧ WfI x.2) hg
  exact ⟨A, _, c, xs, rfl, by rw [g1, ← g2] at hr; rw [← g2]; exact hr, g2, g3⟩
end
theorem slice_val {P : Program} {w : World} {r : Reach} {b0 : Nat} {t e : TypeId} {v : Value} (ht : P.underlying t = some (.slice e)) (hv : Value.okWide P w r b0 t v) : ∃ A n c, v = .slice A n c := by
  simp only [Value.okWide, ht, Cell.okWide] at hv
  cases v <;> simp_all [Cell.ok]
section
variable {H : Type} {enc : TypeId × Value → H} {w : World} {r : Reach} {b0 base : Nat} {spare : Nat → Bool} {held : Bool} {v : Value} {d : DataW H} {p : List MemPlace}
/-- Arguments: an int, a slice of ints, of booleans, of pairs of ints. -/
def AInt (_ : World) (v : Value) : Prop := ∃ x : Int, v = .int .i64 x ∧ WfI x
theorem open_aint (hv : Value.okWide Try.prog w r b0 3 v) (h : DataW.Trod enc Try.prog w base spare held 3 v d p) : AInt w v := by
  obtain ⟨x, rfl, rfl, rfl, hw⟩ := open_int Try.underlying3 hv h
  exact ⟨x, rfl, wf_i hw⟩
def AInts (w : World) (v : Value) : Prop := ∃ xs : List Int, IntsAt w v xs ∧ ∀ x ∈ xs, WfI x
theorem open_aints (hv : Value.okWide Try.prog w r b0 22 v) (h : DataW.Trod enc Try.prog w base spare held 22 v d p) : AInts w v := by
  obtain ⟨A, n, c, rfl⟩ := slice_val Try.underlying22 hv
  obtain ⟨m, hm⟩ := h
  obtain ⟨A', n', c', xs, e, h1, h2, h3⟩ := rd_ints hm
  simp [Value.cells] at e
  obtain ⟨rfl, rfl, rfl⟩ := e
  exact ⟨xs, h1, h3⟩
def ABools (w : World) (v : Value) : Prop := ∃ xs : List Bool, BoolsAt w v xs
theorem open_abools (hv : Value.okWide Try.prog w r b0 78 v) (h : DataW.Trod enc Try.prog w base spare held 78 v d p) : ABools w v := by
  obtain ⟨A, n, c, rfl⟩ := slice_val Try.underlying78 hv
  obtain ⟨m, hm⟩ := h
  obtain ⟨A', n', c', xs, e, h1, h2⟩ := rd_bools hm
  simp [Value.cells] at e
  obtain ⟨rfl, rfl, rfl⟩ := e
  exact ⟨xs, h1⟩
def APairs (w : World) (v : Value) : Prop := ∃ xs : List (Int × Int), CubesAt w v xs ∧ ∀ x ∈ xs, WfI x.1 ∧ WfI x.2
end
end Go.Proofs.Ytmlcbikljlhhkaa

namespace Go.Proofs.Ytmlcbikljlhhkaa
set_option maxRecDepth 100000
open Go.RowKit Go.Joins Go.ChangeShapes Go.WideShapes Go.ChangeAt Go.Deep
section
variable {H : Type} {enc : TypeId × Value → H} {w : World} {r : Reach} {b0 base : Nat} {spare : Nat → Bool} {held : Bool} {v : Value} {d : DataW H} {p : List MemPlace}
theorem rd_gates {n : Nat} {cs : List Value} {y : DataW H × List MemPlace} (h : DataW.trod enc Try.prog w base spare held n 23 cs = some y) : GPairs w cs :=
  rd_pairs Try.underlying23 Try.underlying141 rfl rfl (by kernel_rfl) (by kernel_rfl) h
/-- A circuit, as an argument. -/
def ACirc (w : World) (v : Value) : Prop := ∃ c : Cz, CircAt w v c ∧ WfI c.ins ∧ (∀ x ∈ c.next, WfI x) ∧ (∀ x ∈ c.gates, WfI x.1 ∧ WfI x.2) ∧ (∀ x ∈ c.outs, WfI x)
theorem open_acirc (hv : Value.okWide Try.prog w r b0 25 v) (h : DataW.Trod enc Try.prog w base spare held 25 v d p) : ACirc w v := by
  obtain ⟨v0, v1, v2, v3, y0, y1, y2, y3, n, rfl, rfl, rfl, h0, h1, h2, h3⟩ := open_agg4 Try.underlying25 (by kernel_rfl) (by kernel_rfl) hv h
  obtain ⟨x, e0, w0⟩ := rd_int h0
  obtain ⟨A1, n1, c1, xs, e1, i1, l1, w1⟩ := rd_ints h1
  obtain ⟨A2, n2, c2, gs, e2, i2, l2, w2⟩ := rd_gates h2
  obtain ⟨A3, n3, c3, os, e3, i3, l3, w3⟩ := rd_ints h3
  simp only [List.cons.injEq, and_true] at e0 e1 e2 e3
  subst e0 e1 e2 e3
  exact ⟨{ ins := x, next := xs, gates := gs, outs := os }, ⟨_, _, _, rfl, i1, i2, i3⟩, w0, w1, w2, w3⟩
end
theorem CircAt.shape {w : World} {v : Value} {c : Cz} (h : CircAt w v c) : ∃ An cn Ag cg Ao co, v = .agg #[.int .i64 c.ins, .slice An c.next.length cn, .slice Ag c.gates.length cg, .slice Ao c.outs.length co] := by
  obtain ⟨vn, vg, vo, rfl, r1, r2, r3⟩ := h
  obtain ⟨An, cn, rfl, -⟩ := Row.shape r1
  obtain ⟨Ag, cg, rfl, -⟩ := Row.shape r2
  obtain ⟨Ao, co, rfl, -⟩ := Row.shape r3
  exact ⟨An, cn, Ag, cg, Ao, co, rfl⟩
def TCirc (c : Cz) : Ty := fun w v => CircAt w v c
theorem stb_circ (c : Cz) : Stb (fun _ => False) (TCirc c) := fun _ _ _ h ho => h.below (only_below ho)
/-- A circuit in a box of the law's. -/
structure BoxC (w : World) (g : Nat) (c : Cz) (vn vg vo : Value) : Prop where
  pc : PCells w g c.ins vn vg vo
  at_ : CircAt w (.agg #[.int .i64 c.ins, vn, vg, vo]) c
theorem BoxC.below {w w' : World} {g : Nat} {c : Cz} {vn vg vo : Value} (h : BoxC w g c vn vg vo) (hb : Below w.heap.size w w') : BoxC w' g c vn vg vo := ⟨h.pc.below hb, h.at_.below hb⟩
theorem BoxC.made {w : World} {c : Cz} {vn vg vo : Value} (t : TypeId) (h : CircAt w (.agg #[.int .i64 c.ins, vn, vg, vo]) c) : BoxC (w.alloc (.cells #[.int .i64 c.ins, vn, vg, vo] t)) w.heap.size c vn vg vo :=
  ⟨PCells.boxed _ _ _ _ _ _, h.below ((Below.refl _ _).alloc (Nat.le_refl _) _)⟩
end Go.Proofs.Ytmlcbikljlhhkaa

namespace Go.Proofs.Ytmlcbikljlhhkaa
open Go.RowKit
/-- What marking a slice comes to. -/
def MarkedGates (B : Nat) (v : Value) (n k : Nat) (w : World) (e : Ending) (w' : World) : Prop :=
  e = .returned (.int .i64 ((k + n * 2 : Nat) : Int)) ∧ w'.ownsRow B 71 2 v n (runI k (n * 2)) ∧ w.grownBy w' v.ownBlock
theorem markGateS_any (B : Nat) (v : Value) (n k : Nat) (cs : List Value) (w : World) (h : w.ownsRow B 71 2 v n cs) (hn : n ≤ 1048576) (hk : k ≤ 100000000) :
    Calls Try.prog 76 #[v, .int .i64 k] w (MarkedGates B v n k w) := by
  have hlc := h.1
  obtain ⟨A, c, hv, hc, hcm⟩ := (Row.of_own h).shape
  subst hv
  have H := Lib.hid h
  clear h
  go_enter Try.func76, Try.ntmps76
  go_wp2_with fail
  go_loopw [1, 5] (fun q i wr => ∃ (j : Nat) (ds : List Value), j ≤ n ∧ i = .int .i64 j ∧ q = .int .i64 ((k + j * 2 : Nat) : Int) ∧ wr.ownsRow B 71 2 (.slice A n c) n ds ∧ ds.take (j * 2) = runI k (j * 2) ∧ w.grownBy wr (Value.slice A n c).ownBlock) (fun _ i _ => n - (intOf i).toNat)
  case atStart => exact ⟨0, cs, Nat.zero_le _, rfl, rfl, H.out, rfl, World.grownBy.refl w _⟩
  case round =>
    obtain ⟨j, ds, hj, rfl, rfl, hown, htk, hg⟩ := hrel
    by_cases hlt : j < n
    · obtain ⟨g, c', hv, _, hgl, _⟩ := own_open hown (by omega)
      injection hv with hA _ hcc
      subst hA hcc
      have hl := hown.1
      obtain ⟨u0, _, hd0, hf0⟩ := own_slot hown (j := j * 2) (by omega)
      obtain ⟨u1, _, hd1, hf1⟩ := own_slot hown (j := j * 2 + 1) (by omega)
      have s1 := hown.stored (j * 2) (.int .i64 ((k : Int) + (j : Int) * 2))
      have s2 := Lib.hid (s1.1.stored (j * 2 + 1) (.int .i64 ((k : Int) + (j : Int) * 2 + 1)))
      have t1 := set_run_at (m := n * 2) (x := (k : Int) + (j : Int) * 2) (by omega) hl (by omega) htk
      have t2 := Lib.hid (set_run_at (m := n * 2) (j := j * 2 + 1) (x := (k : Int) + (j : Int) * 2 + 1) (by omega) (by simp [hl]) (by omega) t1)
      have G := Lib.hid (grownBy_comp hg s1.2)
      clear hown htk hl hg s1 t1 H
      go_wp2_with fail
      go_roundw
      case rel => exact ⟨j + 1, _, by omega, by go_num, by rw [show k + (j + 1) * 2 = k + j * 2 + 2 from by omega]; go_num, s2.out.1, by rw [show (j + 1) * 2 = j * 2 + 1 + 1 from by omega]; exact t2.out, grownBy_comp G.out s2.out.2⟩
      case measure => simp [intOf]; omega
    · obtain rfl : j = n := by omega
      go_wp2
      go_ret
      exact ⟨rfl, own_of_take hown htk, hg⟩
end Go.Proofs.Ytmlcbikljlhhkaa

namespace Go.Proofs.Ytmlcbikljlhhkaa
open Go.RowKit
set_option maxRecDepth 100000
theorem bel_ck (w : World) (o : Obj) : Below w.heap.size w (w.alloc o) := (Below.refl _ _).alloc (Nat.le_refl _) o
/-- A circuit of the call's own, in blocks between B and T. -/
def OwnCT (B T : Nat) (v : Value) (c : Cz) (w : World) : Prop :=
  ∃ vn vg vo b2 b3, v = .agg #[.int .i64 c.ins, vn, vg, vo] ∧ B ≤ b2 ∧ b2 ≤ b3 ∧ b3 ≤ T ∧ (∀ g, vn.ownBlock = some g → g < b2) ∧ (∀ g, vg.ownBlock = some g → g < b3) ∧ (∀ g, vo.ownBlock = some g → g < T) ∧
    w.ownsRow B 3 1 vn c.next.length (ints c.next) ∧ w.ownsRow b2 71 2 vg c.gates.length (cubes c.gates) ∧ w.ownsRow b3 3 1 vo c.outs.length (ints c.outs)
theorem OwnCirc.ct {b T : Nat} {v : Value} {c : Cz} {w : World} (h : OwnCirc b v c w) (hT : w.heap.size ≤ T) (hb : b ≤ w.heap.size) : OwnCT b T v c w := by
  obtain ⟨vn, vg, vo, b2, b3, hv, e1, e2, e3, e4, h1, h2, h3⟩ := h
  refine ⟨vn, vg, vo, min b2 w.heap.size, min b3 w.heap.size, hv, by omega, by omega, by omega, fun g hg => ?_, fun g hg => ?_, fun g hg => ?_, h1, own_mono h2 (by omega), own_mono h3 (by omega)⟩
  · have := (h1.lt g hg).2; have := e3 g hg; omega
  · have := (h2.lt g hg).2; have := e4 g hg; omega
  · have := (h3.lt g hg).2; omega
theorem OwnCT.below {B T : Nat} {v : Value} {c : Cz} {w w' : World} (h : OwnCT B T v c w) (hb : Below w.heap.size w w') : OwnCT B T v c w' := by
  obtain ⟨vn, vg, vo, b2, b3, hv, e1, e2, e3, f1, f2, f3, h1, h2, h3⟩ := h
  exact ⟨vn, vg, vo, b2, b3, hv, e1, e2, e3, f1, f2, f3, own_below h1 hb, own_below h2 hb, own_below h3 hb⟩
theorem OwnCT.only {E : Nat → Prop} {B T : Nat} {v : Value} {c : Cz} {w w' : World} (h : OwnCT B T v c w) (ho : Only E w w') (hE : ∀ g, B ≤ g → g < T → ¬ E g) : OwnCT B T v c w' := by
  obtain ⟨vn, vg, vo, b2, b3, hv, e1, e2, e3, f1, f2, f3, h1, h2, h3⟩ := h
  exact ⟨vn, vg, vo, b2, b3, hv, e1, e2, e3, f1, f2, f3, own_only h1 ho (fun g hg => hE g (h1.lt g hg).1 (by have := f1 g hg; omega)), own_only h2 ho (fun g hg => hE g (by have := (h2.lt g hg).1; omega) (by have := f2 g hg; omega)), own_only h3 ho (fun g hg => hE g (by have := (h3.lt g hg).1; omega) (f3 g hg))⟩
theorem OwnCT.at {B T : Nat} {v : Value} {c : Cz} {w : World} (h : OwnCT B T v c w) : CircAt w v c := by
  obtain ⟨vn, vg, vo, b2, b3, hv, _, _, _, _, _, _, h1, h2, h3⟩ := h
  exact ⟨vn, vg, vo, hv, Row.of_own h1, Row.of_own h2, Row.of_own h3⟩
set_option maxHeartbeats 4000000 in
theorem markCircuit_any (B T : Nat) (v : Value) (c : Cz) (k : Nat) (w : World) (h : OwnCT B T v c w) (hT : T ≤ w.heap.size) (l1 : c.next.length ≤ 1048576) (l2 : c.gates.length ≤ 1048576) (l3 : c.outs.length ≤ 1048576) (hk : k ≤ 1000000) :
    Calls Try.prog 24 #[v, .int .i64 k] w fun e w' => (∃ k' : Nat, e = .returned (.int .i64 (k' : Nat)) ∧ k' ≤ k + 5000000) ∧ Only (fun g => B ≤ g ∧ g < T) w w' := by
  obtain ⟨vn, vg, vo, b2, b3, rfl, e1, e2, e3, f1, f2, f3, h1, h2, h3⟩ := h
  have hb0 := bel_ck w (.cells #[.int .i64 c.ins, vn, vg, vo] 30)
  have H1 := Lib.hid (own_below h1 hb0)
  have H2 := Lib.hid (own_below h2 hb0)
  have H3 := Lib.hid (own_below h3 hb0)
  have F1 := Lib.hid f1
  have F2 := Lib.hid f2
  have F3 := Lib.hid f3
  have B0 := Lib.hid hb0
  have hz : (w.alloc (.cells #[.int .i64 c.ins, vn, vg, vo] 30)).heap.size = w.heap.size + 1 := by simp
  obtain ⟨z, p0, p1, p2, p3⟩ := PCells.boxed w c.ins vn vg vo 30
  clear h1 h2 h3 f1 f2 f3 hb0
  go_enter Try.func24, Try.ntmps24
  go_wp2_with fail
  generalize w.alloc (.cells #[.int .i64 c.ins, vn, vg, vo] 30) = W at *
  refine (markIntS_any B vn _ k _ _ H1.out l1 (by omega)).mono ?_
  rintro e w1 ⟨rfl, ho1, hg1⟩
  have hon1 : Only (fun g => B ≤ g ∧ g < b2) W w1 := Only.grown hg1 (fun g hg => ⟨(H1.out.lt g hg).1, F1.out g hg⟩)
  have Hon1 := Lib.hid hon1
  have H2 := Lib.hid (own_only H2.out hon1 (fun g hg h => by have := (H2.out.lt g hg).1; omega))
  have H3 := Lib.hid (own_only H3.out hon1 (fun g hg h => by have := (H3.out.lt g hg).1; omega))
  have q2 := cell_on hon1 (by omega) z p2
  have q3 := cell_on hon1 (by omega) z p3
  have z1 := Nat.lt_of_lt_of_le z hon1.size
  clear ho1 hg1 hon1 p0 p1 p2 p3
  go_wp2_with fail
  refine (markGateS_any b2 vg _ (k + c.next.length) _ _ H2.out l2 (by omega)).mono ?_
  rintro e w2 ⟨rfl, ho2, hg2⟩
  have hon2 : Only (fun g => b2 ≤ g ∧ g < b3) w1 w2 := Only.grown hg2 (fun g hg => ⟨(H2.out.lt g hg).1, F2.out g hg⟩)
  have Hon2 := Lib.hid hon2
  have H3 := Lib.hid (own_only H3.out hon2 (fun g hg h => by have := (H3.out.lt g hg).1; omega))
  have r3 := cell_on hon2 (by omega) z1 q3
  clear ho2 hg2 hon2 q2 q3
  go_wp2_with fail
  refine (markIntS_any b3 vo _ (k + c.next.length + c.gates.length * 2) _ _ H3.out l3 (by omega)).mono ?_
  rintro e w3 ⟨rfl, ho3, hg3⟩
  have hon3 : Only (fun g => b3 ≤ g ∧ g < T) w2 w3 := Only.grown hg3 (fun g hg => ⟨(H3.out.lt g hg).1, F3.out g hg⟩)
  have Hon3 := Lib.hid hon3
  clear ho3 hg3 hon3
  go_wp2_with fail
  go_ret
  refine ⟨⟨k + c.next.length + c.gates.length * 2 + c.outs.length, rfl, by omega⟩, ?_⟩
  exact (Only.of_below _ B0.out).trans ((Hon1.out.mono fun g h => ⟨h.1, by omega⟩).trans ((Hon2.out.mono fun g h => ⟨by omega, by omega⟩).trans (Hon3.out.mono fun g h => ⟨by omega, h.2⟩)))
end Go.Proofs.Ytmlcbikljlhhkaa

namespace Go.Proofs.Ytmlcbikljlhhkaa
open Go.RowKit
set_option maxRecDepth 100000
theorem Kept.atC {v : Value} {c : Cz} {T : Nat} {w : World} (h : Kept (fun w' => CircAt w' v c) T w) : CircAt w v c := by
  obtain ⟨w0, h, _, hb⟩ := h
  exact CircAt.below h hb
theorem Kept.boxC {g : Nat} {vn vg vo : Value} {c : Cz} {T : Nat} {w : World} (h : Kept (fun w' => BoxC w' g c vn vg vo) T w) : BoxC w g c vn vg vo := by
  obtain ⟨w0, h, _, hb⟩ := h
  exact BoxC.below h hb
theorem hasCT {B : Nat} {v : Value} {c : Cz} {w : World} (h : OwnCT B w.heap.size v c w) : Has B w.heap.size (OwnCT B w.heap.size v c) w := ⟨h, Nat.le_refl _, fun _ _ _ h _ ho hE => h.only ho hE⟩
end Go.Proofs.Ytmlcbikljlhhkaa

namespace Go.Proofs.Ytmlcbikljlhhkaa
open Go.RowKit
set_option maxRecDepth 100000
/-! What laws do with machines that they made. -/
theorem Kept.atMr {v : Value} {m : Mz} {T : Nat} {w : World} (h : Kept (fun w' => MachAt w' v m) T w) : MachAt w v m := by
  obtain ⟨w0, h1, _, h3⟩ := h
  exact MachAt.below h1 h3
theorem lives_mE (B T : Nat) (v : Value) (m : Mz) : Lives B T (OwnMachE B T v m) := fun E w w' h _ ho hE => h.only ho hE
theorem has_mE {B : Nat} {v : Value} {m : Mz} {w : World} (h : OwnMachE B w.heap.size v m w) : Has B w.heap.size (OwnMachE B w.heap.size v m) w := ⟨h, Nat.le_refl _, lives_mE B _ v m⟩
theorem has_run {B T : Nat} {i : Int} {v : Value} {ns os : List Nat} {k : Nat} {w : World} (h : RunMach B T i v ns os k w) (ht : T ≤ w.heap.size) : Has B T (RunMach B T i v ns os k) w := ⟨h, ht, fun E w w' h _ ho hE => h.only ho hE⟩
theorem has_blockM {w : World} {g : Nat} {o : Obj} (h : w.heap[g]? = some o) : Has g (g + 1) (fun w' => w'.heap[g]? = some o) w := by
  refine ⟨h, by have := heap_lt h; omega, fun E w1 w2 h1 ht ho hE => ?_⟩
  exact (ho.block g (by omega) (hE g (Nat.le_refl _) (by omega))).trans h1
theorem sum_map_leM {α : Type} (f : α → Nat) (b : Nat) : ∀ l : List α, (∀ x ∈ l, f x ≤ b) → (l.map f).sum ≤ b * l.length
  | [], _ => by simp
  | x :: l, h => by
    have h1 := sum_map_leM f b l fun y hy => h y (List.mem_cons_of_mem _ hy)
    have h2 := h x (by simp)
    rw [List.map_cons, List.sum_cons, List.length_cons, Nat.mul_succ]
    omega
theorem mach_len (c : Cz) : (Cir.machI c).next.length + total (Cir.machI c).next + (Cir.machI c).out.length + total (Cir.machI c).out ≤ 1048576 := by
  unfold Cir.machI
  split
  · rename_i hv
    have hd := (Cir.nat_ok hv).2
    have h8 := (Cir.reach_sts (Cir.nat c)).len hd
    have h16 : 2 ^ (Cir.nat c).ins ≤ 2 ^ 4 := Nat.pow_le_pow_right (show 0 < 2 by decide) hd.ins
    have e1 : (Cir.machN (Cir.nat c)).next.length = (Cir.reach (Cir.nat c)).length := by unfold Cir.machN; simp
    have e2 : (Cir.machN (Cir.nat c)).out.length = (Cir.reach (Cir.nat c)).length := by unfold Cir.machN; simp
    have t1 := sum_map_leM List.length 16 (Cir.machN (Cir.nat c)).next (fun x hx => by
      unfold Cir.machN at hx
      obtain ⟨s, _, rfl⟩ := List.mem_map.1 hx
      unfold Cir.rowI Cir.rowN
      rw [List.length_map, List.length_map, List.length_range]; omega)
    have t2 := sum_map_leM List.length 16 (Cir.machN (Cir.nat c)).out (fun x hx => by
      unfold Cir.machN at hx
      obtain ⟨s, _, rfl⟩ := List.mem_map.1 hx
      rw [nats_length]
      unfold Cir.rowO
      rw [List.length_map, List.length_range]; omega)
    unfold total
    omega
  · simp [total]
end Go.Proofs.Ytmlcbikljlhhkaa
