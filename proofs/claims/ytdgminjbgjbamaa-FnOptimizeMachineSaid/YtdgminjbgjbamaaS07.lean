import Derived.Test.YtdgminjbgjbamaaS06
import Derived.Test.YtdgminjbgjbamaaS05
import Derived.Test.YtdgminjbgjbamaaS02
import Derived.Test.YtdgminjbgjbamaaS03
import Derived.Test.YtdgminjbgjbamaaS04
import Derived.Test.YtdgminjbgjbamaaS01
set_option linter.unusedVariables false
set_option linter.unusedSimpArgs false
namespace Go.Proofs.Ytdgminjbgjbamaa
open Go.RowKit
set_option maxRecDepth 100000
/-! MachineOf, by the reference. -/
/-- A row of single cells in blocks of a set. -/
def TIn (F : Nat → Prop) (cs : List Value) : Ty := fun w v => RowIn F w 1 v cs.length cs
theorem stb_in {E F : Nat → Prop} (hE : ∀ g, F g → ¬ E g) (cs : List Value) : Stb E (TIn F cs) := fun _ _ _ h ho => h.only ho hE
theorem stb_in_none (F : Nat → Prop) (cs : List Value) : Stb (fun _ => False) (TIn F cs) := stb_in (fun _ _ h => h) cs
def TStepIn (B : Nat) (so st : List Bool) : Ty := fun w v => ∃ a b, v = .agg #[a, b] ∧ RowIn (From B) w 1 a so.length (bools so) ∧ BoolsAt w b st
theorem stb_stepIn (B : Nat) (so st : List Bool) : Stb (fun _ => False) (TStepIn B so st) := by
  rintro v w w' ⟨a, b, rfl, h1, h2⟩ ho
  exact ⟨a, b, rfl, h1.below (only_below ho), stb_bools _ _ _ _ h2 ho⟩
set_option maxHeartbeats 4000000 in
theorem l16OutsIn_any (v : Value) (d : Ci) (s x : Nat) (w : World) (h : CircAt w v (Cir.toCz d)) (hd : Cir.Ok d) (hs : s ≤ 1000) (hx : x ≤ 1000) :
    Calls Try.prog 39 #[v, .int .i64 s, .int .i64 x] w fun e w' => (∃ u, e = .returned u ∧ RowIn (From w.heap.size) w' 1 u (Cir.outsOf d s x).length (bools (Cir.outsOf d s x))) ∧ Below w.heap.size w w' := by
  have l1 := hd.ins
  have l2 := hd.nexts
  have HC := Lib.hid h
  obtain ⟨vn, vg, vo, rfl, r1, r2, r3⟩ := h
  obtain ⟨An, cn, rfl, hcn, hcmn⟩ := NatsAt.shape (xs := d.next) r1
  have hins : (Cir.toCz d).ins = (d.ins : Int) := rfl
  rw [hins] at HC ⊢
  have B0 := Lib.hid (bel_new w (.cells #[.int .i64 d.ins, .slice An d.next.length cn, vg, vo] 26))
  obtain ⟨z, p0, p1, p2, p3⟩ := PCells.boxed w d.ins (.slice An d.next.length cn) vg vo 26
  have HC := Lib.hid (HC.out.below B0.out)
  have Hd := Lib.hid hd
  clear r1 r2 r3 hd hins
  go_enter Try.func39, Try.ntmps39
  go_wp2_with fail
  generalize w.alloc (.cells #[.int .i64 d.ins, .slice An d.next.length cn, vg, vo] 26) = W at *
  refine wp_region_rs (quietRS Try.prog _ W _) quietRS_ok (by kernel_rfl) (by kernel_rfl) (by kernel_rfl) (Nat.le_of_ble_eq_true rfl) trivial trivial ?_
  apply rs_eq quietRS_ok quiet_any
  · intro ρ w' ho hK
    have ho : Only _ W w' := ho
    obtain ⟨h0, -⟩ := hK
    have h0' : ρ (.tmp 3) = _ := h0
    have hb := only_below ho
    have q0 := (hb.cell (p := ⟨w.heap.size, 0, none⟩) z).trans p0
    have q1 := (hb.cell (p := ⟨w.heap.size, 1, none⟩) z).trans p1
    have q2 := (hb.cell (p := ⟨w.heap.size, 2, none⟩) z).trans p2
    have q3 := (hb.cell (p := ⟨w.heap.size, 3, none⟩) z).trans p3
    go_simp
    try exact rfl
  refine rs_old quietRS_ok quiet_any _ (.inl rfl) _ rfl rfl ?_
  apply rs_eq quietRS_ok quiet_any
  · intro ρ w' ho hK
    have ho : Only _ W w' := ho
    obtain ⟨h0, -⟩ := hK
    have h0' : ρ (.tmp 3) = _ := h0
    go_simp
    try exact rfl
  apply rs_eq quietRS_ok quiet_any
  · intro ρ w' ho hK
    have ho : Only _ W w' := ho
    obtain ⟨h0, -⟩ := hK
    have h0' : ρ (.tmp 9) = _ := h0
    have hb := only_below ho
    have q0 := (hb.cell (p := ⟨w.heap.size, 0, none⟩) z).trans p0
    have q1 := (hb.cell (p := ⟨w.heap.size, 1, none⟩) z).trans p1
    have q2 := (hb.cell (p := ⟨w.heap.size, 2, none⟩) z).trans p2
    have q3 := (hb.cell (p := ⟨w.heap.size, 3, none⟩) z).trans p3
    go_simp
    try exact rfl
  apply rs_eq quietRS_ok quiet_any
  · intro ρ w' ho hK
    have ho : Only _ W w' := ho
    obtain ⟨h0, -⟩ := hK
    have h0' : ρ (.tmp 10) = _ := h0
    go_simp
    try exact rfl
  refine rs_call quietRS_ok quiet_any (TBools (Cir.bits s d.next.length)) (stb_bools _) 89 _ _ rfl (fun ρ w' ho hK => by
    have ho : Only _ W w' := ho
    obtain ⟨h0, h1, h2, -⟩ := hK
    have h0' : ρ (.func 89) = .func (.func 89) #[] #[] := h0
    have h1' : ρ (.tmp 8) = _ := h1
    have h2' : ρ (.tmp 11) = _ := h2
    refine ⟨#[ρ (.tmp 8), ρ (.tmp 11)], ?_, ?_⟩
    · go_simp
    · rw [h1', h2']
      refine (l4Bits_any s d.next.length w' (by omega) (by omega)).mono ?_
      rintro e w2 ⟨v2, rfl, hO, hb⟩
      exact ⟨v2, rfl, Row.of_own hO, hb⟩) ?_
  refine rs_old quietRS_ok quiet_any _ (.inl rfl) _ rfl rfl ?_
  apply rs_eq quietRS_ok quiet_any
  · intro ρ w' ho hK
    have ho : Only _ W w' := ho
    obtain ⟨h0, -⟩ := hK
    have h0' : ρ (.tmp 3) = _ := h0
    go_simp
    try exact rfl
  apply rs_eq quietRS_ok quiet_any
  · intro ρ w' ho hK
    have ho : Only _ W w' := ho
    obtain ⟨h0, -⟩ := hK
    have h0' : ρ (.tmp 14) = _ := h0
    have hb := only_below ho
    have q0 := (hb.cell (p := ⟨w.heap.size, 0, none⟩) z).trans p0
    have q1 := (hb.cell (p := ⟨w.heap.size, 1, none⟩) z).trans p1
    have q2 := (hb.cell (p := ⟨w.heap.size, 2, none⟩) z).trans p2
    have q3 := (hb.cell (p := ⟨w.heap.size, 3, none⟩) z).trans p3
    go_simp
    try exact rfl
  refine rs_call quietRS_ok quiet_any (TBools (Cir.bits x d.ins)) (stb_bools _) 89 _ _ rfl (fun ρ w' ho hK => by
    have ho : Only _ W w' := ho
    obtain ⟨h0, h1, h2, -⟩ := hK
    have h0' : ρ (.func 89) = .func (.func 89) #[] #[] := h0
    have h1' : ρ (.tmp 13) = _ := h1
    have h2' : ρ (.tmp 15) = _ := h2
    refine ⟨#[ρ (.tmp 13), ρ (.tmp 15)], ?_, ?_⟩
    · go_simp
    · rw [h1', h2']
      refine (l4Bits_any x d.ins w' (by omega) (by omega)).mono ?_
      rintro e w2 ⟨v2, rfl, hO, hb⟩
      exact ⟨v2, rfl, Row.of_own hO, hb⟩) ?_
  refine rs_call quietRS_ok quiet_any (TStepIn w.heap.size (Cir.outsOf d s x) (Cir.lits (Cir.vals d (Cir.bits s d.next.length) (Cir.bits x d.ins)) d.next)) (stb_stepIn _ _ _) 88 _ _ rfl (fun ρ w' ho hK => by
    have ho : Only _ W w' := ho
    obtain ⟨h0, h1, h2, h3, -⟩ := hK
    have h0' : ρ (.func 88) = .func (.func 88) #[] #[] := h0
    have h1' : ρ (.tmp 7) = _ := h1
    have h2' : (TBools (Cir.bits s d.next.length)) w' (ρ (.tmp 12)) := h2
    have h3' : (TBools (Cir.bits x d.ins)) w' (ρ (.tmp 16)) := h3
    refine ⟨#[ρ (.tmp 7), ρ (.tmp 12), ρ (.tmp 16)], ?_, ?_⟩
    · go_simp
    · rw [h1']
      refine (l2Step_any _ _ _ d _ _ w' (HC.out.below (only_below ho)) Hd.out h2' h3' (Cir.bits_length _ _) (Cir.bits_length _ _)).mono ?_
      rintro e w2 ⟨a, b, rfl, oa, ob, hb⟩
      exact ⟨_, rfl, ⟨a, b, rfl, (RowIn.of_own oa).mono (fun g hg => by have := hg.1; have := B0.out.size; have := ho.size; unfold From; omega), Row.of_own ob⟩, hb⟩) ?_
  refine rs_look quietRS_ok quiet_any (TIn (From w.heap.size) (bools (Cir.outsOf d s x))) (stb_in_none _ _) (fun ρ w' ho hK => by
    obtain ⟨h0, -⟩ := hK
    obtain ⟨a, b, e0, ha, hb⟩ : (TStepIn w.heap.size (Cir.outsOf d s x) (Cir.lits (Cir.vals d (Cir.bits s d.next.length) (Cir.bits x d.ins)) d.next)) w' (ρ (.tmp 17)) := h0
    obtain ⟨Aa, ca, rfl, -⟩ := Row.shape ha.1
    obtain ⟨Ab, cb, rfl, -⟩ := Row.shape hb
    have hf := fun n m => step_field0 Aa Ab n m ca cb w'
    refine ⟨_, ?_, by unfold TIn; rw [bools_length]; exact ha⟩
    go_simp) ?_
  refine rs_same quietRS_ok quiet_any 18 11 (.inr rfl) rfl _ rfl ?_
  intro f w9 k9 hk9 hI9 ht9 hcp9
  have E0 : f 0 = _ := ht9 0 (Nat.le_of_ble_eq_true rfl)
  have E1 : f 1 = _ := ht9 1 (Nat.le_of_ble_eq_true rfl)
  conv at E1 => rhs; whnf
  have E2 : f 2 = _ := ht9 2 (Nat.le_of_ble_eq_true rfl)
  have E3 : f 3 = _ := ht9 3 (Nat.le_of_ble_eq_true rfl)
  have E4 : f 4 = _ := ht9 4 (Nat.le_of_ble_eq_true rfl)
  have E5 : (TBools (Cir.bits s d.next.length)) w9 (f 5) := ht9 5 (Nat.le_of_ble_eq_true rfl)
  have E6 : f 6 = _ := ht9 6 (Nat.le_of_ble_eq_true rfl)
  conv at E6 => rhs; whnf
  have E7 : f 7 = _ := ht9 7 (Nat.le_of_ble_eq_true rfl)
  have E8 : f 8 = _ := ht9 8 (Nat.le_of_ble_eq_true rfl)
  have E9 : (TBools (Cir.bits x d.ins)) w9 (f 9) := ht9 9 (Nat.le_of_ble_eq_true rfl)
  have E10 : (TStepIn w.heap.size (Cir.outsOf d s x) (Cir.lits (Cir.vals d (Cir.bits s d.next.length) (Cir.bits x d.ins)) d.next)) w9 (f 10) := ht9 10 (Nat.le_of_ble_eq_true rfl)
  have E11 : (TIn (From w.heap.size) (bools (Cir.outsOf d s x))) w9 (f 11) := ht9 11 (Nat.le_of_ble_eq_true rfl)
  have E12 : (TIn (From w.heap.size) (bools (Cir.outsOf d s x))) w9 (f 12) := ht9 12 (Nat.le_of_ble_eq_true rfl)
  have Ho9 : Only _ W w9 := hI9.2.1
  have C12 : f 12 = f 11 := (hcp9 12 _ 18 11 rfl rfl rfl rfl).2
  simp only [putAll, E0, E1, E2, E3, E4, E6, E7, E8, C12, Nat.zero_add, Nat.reduceAdd, Act.put, List.setIfInBounds_toArray, List.set_cons_succ, List.set_cons_zero]
  clear E0 E1 E2 E3 E4 E6 E7 E8
  clear hI9 ht9 hcp9 hk9
  generalize f 5 = r5 at *
  generalize f 9 = r9 at *
  generalize f 10 = r10 at *
  generalize f 11 = r11 at *
  have B := Lib.hid (B0.out.trans ((only_below Ho9).mono B0.out.size))
  have HU := Lib.hid E11
  clear Ho9 E5 E9 E10 E11 p0 p1 p2 p3
  go_wp2_with fail
  go_ret
  exact ⟨⟨_, rfl, by have := HU.out; unfold TIn at this; rwa [bools_length] at this⟩, B.out⟩
theorem Only.after {E F : Nat → Prop} {a b c : World} (h : Only E a b) (h' : Only F b c) (hF : ∀ g, F g → a.heap.size ≤ g ∨ E g) : Only E a c :=
  ⟨h'.os.trans h.os, h'.tape.trans h.tape, h'.output.trans h.output, Nat.le_trans h.size h'.size, fun k hk hn => (h'.block k (Nat.lt_of_lt_of_le hk h.size) fun hf => by
    rcases hF k hf with e | e
    · omega
    · exact hn e).trans (h.block k hk hn)⟩
/-- A machine, as a result to read. -/
def ReadMach (m : Mz) (w : World) (e : Ending) (w' : World) : Prop := (∃ v, e = .returned v ∧ MachAt w' v m) ∧ Below w.heap.size w w'
/-- A machine whose rows lie in new memory. -/
def MachIn (B : Nat) (w : World) (v : Value) (m : Mz) : Prop := ∃ vn vo, v = .agg #[.int .i64 m.ins, vn, vo] ∧ SSIn ints (From B) w vn m.next ∧ SSIn ints (From B) w vo m.out
theorem MachIn.at {B : Nat} {w : World} {v : Value} {m : Mz} (h : MachIn B w v m) : MachAt w v m := by
  obtain ⟨vn, vo, rfl, h1, h2⟩ := h
  exact ⟨vn, vo, rfl, h1.at, h2.at⟩
theorem MachIn.only {B : Nat} {w w' : World} {v : Value} {m : Mz} {E : Nat → Prop} (h : MachIn B w v m) (ho : Only E w w') (hE : ∀ g, B ≤ g → ¬ E g) : MachIn B w' v m := by
  obtain ⟨vn, vo, rfl, h1, h2⟩ := h
  exact ⟨vn, vo, rfl, h1.only ho hE, h2.only ho hE⟩
theorem MachIn.mono {B B' : Nat} {w : World} {v : Value} {m : Mz} (h : MachIn B w v m) (hB : B' ≤ B) : MachIn B' w v m := by
  obtain ⟨vn, vo, rfl, h1, h2⟩ := h
  exact ⟨vn, vo, rfl, h1.mono fun g hg => Nat.le_trans hB hg, h2.mono fun g hg => Nat.le_trans hB hg⟩
theorem OwnSE.innM {α : Type} {enc : List α → List Value} {tO ti : TypeId} {B : Nat} {E : Nat → Prop} {w : World} {v : Value} {xss : List (List α)} (h : OwnSE enc tO ti B E w v xss) : SSIn enc (From B) w v xss := by
  obtain ⟨vs, h1, h2, h3, -⟩ := h
  exact ⟨vs, h1, (RowIn.of_own h2).mono fun g hg => hg.1, fun i x u hx hu => (RowIn.of_own (h3 i x u hx hu)).mono fun g hg => hg.1⟩
def ReadMachF (m : Mz) (w : World) (e : Ending) (w' : World) : Prop := (∃ v, e = .returned v ∧ MachIn (w.heap.size + 1) w' v m) ∧ Below w.heap.size w w'
theorem ReadMachF.read {m : Mz} {w : World} {e : Ending} {w' : World} (h : ReadMachF m w e w') : ReadMach m w e w' := by
  obtain ⟨⟨v, h1, h2⟩, h3⟩ := h
  exact ⟨⟨v, h1, h2.at⟩, h3⟩
theorem rowI_snoc {d : Ci} {s j : Nat} (h : j < 2 ^ d.ins) : (Cir.rowI d s).take (j + 1) = (Cir.rowI d s).take j ++ [idxOf (Cir.reach d) (Cir.nextOf d s j)] := by
  refine take_snoc ?_
  unfold Cir.rowI Cir.rowN
  simp [h]
theorem rowO_snoc {d : Ci} {s j : Nat} (h : j < 2 ^ d.ins) : (nats (Cir.rowO d s)).take (j + 1) = (nats (Cir.rowO d s)).take j ++ [((Cir.num (Cir.outsOf d s j) : Nat) : Int)] := by
  refine take_snoc ?_
  unfold nats Cir.rowO
  simp [h]
set_option maxHeartbeats 16000000 in
theorem specMof_okF (v : Value) (d : Ci) (w : World) (h : CircAt w v (Cir.toCz d)) (hd : Cir.Ok d) (hv : Cir.valid (Cir.toCz d) = true) :
    Calls Try.prog 16 #[v] w (ReadMachF (Cir.machN d) w) := by
  have l1 := hd.ins
  have l2 := hd.nexts
  have l4 := hd.outss
  have HC := Lib.hid h
  obtain ⟨vn, vg, vo, rfl, r1, r2, r3⟩ := h
  have hins : (Cir.toCz d).ins = (d.ins : Int) := rfl
  rw [hins] at HC ⊢
  have hb0 := bel_new w (.cells #[.int .i64 d.ins, vn, vg, vo] 26)
  have hb00 := bel_new (w.alloc (.cells #[.int .i64 d.ins, vn, vg, vo] 26)) (.cells #[.int .i64 0, .slice none 0 0, .slice none 0 0] 40)
  have B0 := Lib.hid (hb0.trans (hb00.mono hb0.size))
  have PC := Lib.hid ((PCells.boxed w d.ins vn vg vo 26).below hb00)
  have hsz : ((w.alloc (.cells #[.int .i64 d.ins, vn, vg, vo] 26)).alloc (.cells #[.int .i64 0, .slice none 0 0, .slice none 0 0] 40)).heap.size = w.heap.size + 2 := by simp
  have hR : ((w.alloc (.cells #[.int .i64 d.ins, vn, vg, vo] 26)).alloc (.cells #[.int .i64 0, .slice none 0 0, .slice none 0 0] 40)).heap[w.heap.size + 1]? = some (.cells #[.int .i64 0, .slice none 0 0, .slice none 0 0] 40 (0, 0)) := by
    have := heap_alloc_new (w.alloc (.cells #[.int .i64 d.ins, vn, vg, vo] 26)) (.cells #[.int .i64 0, .slice none 0 0, .slice none 0 0] 40)
    rwa [World.size_alloc] at this
  have HRes := Lib.hid hR
  obtain ⟨z, p0, p1, p2, p3⟩ := PC.out
  have HC0 := Lib.hid (HC.out.below B0.out)
  have HV := Lib.hid (specValid_any _ _ _ HC0.out)
  rw [hv] at HV
  have Hv := Lib.hid hv
  have Hd := Lib.hid hd
  obtain ⟨M, e, hM⟩ : ∃ M : Nat, (2 : Int) ^ d.ins = (M : Int) ∧ M = 2 ^ d.ins := ⟨2 ^ d.ins, two_pow d.ins, rfl⟩
  have hM16 : M ≤ 16 := by rw [hM]; exact Nat.pow_le_pow_right (show 0 < 2 by decide) l1
  have hM1 : 1 ≤ M := by rw [hM]; exact Nat.pow_pos (by decide)
  have hwM := IntWalk.i64_in (M : Int) (by omega)
  have HM := Lib.hid hM
  have hL8 := (Cir.reach_sts d).len hd
  have HSt := Lib.hid (Cir.reach_sts d)
  clear r1 r2 r3 hd hins hM hv HC hb0 hb00 hR
  go_enter Try.func16, Try.ntmps16
  go_wp2_with fail
  generalize (w.alloc (.cells #[.int .i64 d.ins, vn, vg, vo] 26)).alloc (.cells #[.int .i64 0, .slice none 0 0, .slice none 0 0] 40) = W at *
  refine HV.out.mono ?_
  rintro e w1 ⟨rfl, hb1⟩
  have hbm := bel_new w1 (.cells #[.int .i64 d.ins, .slice none 0 0, .slice none 0 0] 40)
  have B1 := Lib.hid (B0.out.trans (hb1.mono B0.out.size))
  have z1 := hb1.size
  have PC1 := Lib.hid ((PC.out.below hb1))
  have HC1 := Lib.hid (HC0.out.below hb1)
  have HRes1 := Lib.hid ((hb1.block _ (by omega)).trans HRes.out)
  have HMB := Lib.hid (MB.start (ins := (d.ins : Int)) (w := w1) trivial)
  clear hb1 p0 p1 p2 p3 z HV HC0 HRes PC
  have PCm := Lib.hid (PC1.out.below hbm)
  obtain ⟨z, p0, p1, p2, p3⟩ := PC1.out
  obtain ⟨_, s0, s1, s2, s3⟩ := PCm.out
  have HBm := Lib.hid hbm
  clear hbm
  go_wp2_with fail
  refine (specReach_ok _ d _ (HC1.out.below HBm.out) Hd.out Hv.out).mono ?_
  rintro e w2 ⟨vs, rfl, hO2, hb2⟩
  have hb12 := HBm.out.trans (hb2.mono HBm.out.size)
  have B2 := Lib.hid (B1.out.trans (hb12.mono B1.out.size))
  have HRes2 := Lib.hid ((hb12.block _ (by omega)).trans HRes1.out)
  have PC2 := Lib.hid (PCm.out.below hb2)
  have HMB2 := Lib.hid (HMB.out.below hb2)
  have z2 := hb12.size
  have HS2 := Lib.hid (own_nats (v := vs) (xs := Cir.reach d) (by rw [nats_length] at hO2; exact hO2))
  have zs2 : w1.heap.size < w2.heap.size := mb_lt HMB2.out
  have HO2 : Hid (w2.ownsRow (w1.heap.size + 1) 3 1 vs (Cir.reach d).length (nints (Cir.reach d))) := Lib.hid (by rw [nats_length] at hO2; exact own_mono hO2 (by simp))
  have Hb12 := Lib.hid hb12
  clear hb2 hO2 p0 p1 p2 p3 z hb12 HBm s0 s1 s2 s3 PCm HMB
  obtain ⟨As, cs, rfl, hcs, hcsm⟩ := NatsAt.shape HS2.out
  unfold maxLen at hcsm
  go_wp2_with fail
  clear hcs hcsm
  obtain ⟨Ws, hWs⟩ : ∃ Ws, Ws = w2 := ⟨_, rfl⟩
  subst hWs
  go_loopw [5] (fun i wr => ∃ (k : Nat) (E1 E2 : Nat → Prop) (vN vO : Value), k ≤ (Cir.reach d).length ∧ i = .int .i64 k ∧ Hid (MB w1.heap.size d.ins E1 E2 vN vO ((Cir.machN d).next.take k) ((Cir.machN d).out.take k) wr) ∧ Hid (∀ g, E1 g → Ws.heap.size ≤ g) ∧ Hid (∀ g, E2 g → Ws.heap.size ≤ g) ∧ Only (fun g => g = w1.heap.size) Ws wr) (fun i _ => (Cir.reach d).length - (intOf i).toNat)
  case atStart => exact ⟨0, _, _, _, _, Nat.zero_le _, rfl, HMB2, Lib.hid (fun g h => h.elim), Lib.hid (fun g h => h.elim), Only.refl _ _⟩
  case round =>
    obtain ⟨k, E1, E2, vN, vO, hk, rfl, HMB, HE1, HE2, ho⟩ := hrel
    clear HMB2
    have hbW := Only.below (B := w1.heap.size) Hb12.out ho (by omega) (fun g hg => by omega)
    have Ho := Lib.hid ho
    have Hb := Lib.hid hbW
    have hzb := ho.size
    have hgm := mb_lt HMB.out
    have PCk := Lib.hid (PC1.out.below (w := w1) hbW)
    have HCk := Lib.hid (HC1.out.below hbW)
    have HSk : Hid (NatsAt wr (.slice As (Cir.reach d).length cs) (Cir.reach d)) := Lib.hid (own_nats (own_only HO2.out ho (fun g hg e => by have := (HO2.out.lt g hg).1; omega)))
    clear hbW ho
    by_cases hlt : k < (Cir.reach d).length
    · obtain ⟨b, o, s, rfl, hbl, hx, hs0⟩ := nats_cell (nats_row HSk.out) rfl hlt
      have hs8 : s < 8 := by
        have h1 := HSt.out.lt s (List.mem_of_getElem? hx.out)
        have h2 : 2 ^ d.next.length ≤ 2 ^ 3 := Nat.pow_le_pow_right (show 0 < 2 by decide) l2
        omega
      have HX1 : Hid ((Cir.machN d).next.take (k + 1) = (Cir.machN d).next.take k ++ [Cir.rowI d s]) := Lib.hid (take_snoc (by unfold Cir.machN; simp only [List.getElem?_map, hx.out]; rfl))
      have HX2 : Hid ((Cir.machN d).out.take (k + 1) = (Cir.machN d).out.take k ++ [nats (Cir.rowO d s)]) := Lib.hid (take_snoc (by unfold Cir.machN; simp only [List.getElem?_map, hx.out]; rfl))
      have hN1 : (Cir.rowI d s).length = M := by unfold Cir.rowI Cir.rowN; rw [List.length_map, List.length_map, List.length_range, HM.out]
      have hO1 : (nats (Cir.rowO d s)).length = M := by rw [nats_length, Cir.rowO, List.length_map, List.length_range, HM.out]
      have HN1 := Lib.hid hN1
      have HO1 := Lib.hid hO1
      have hdl : decide (k < (Cir.reach d).length) = true := decide_eq_true hlt
      clear hN1 hO1
      obtain ⟨z, p0, p1, p2, p3⟩ := PCk.out
      have hA1 : Hid (((wr.alloc (.cells #[] 3)).alloc (.cells #[] 3)).ownsRow wr.heap.size 3 1 (.slice (some ⟨wr.heap.size, 0, none⟩) 0 0) 0 (ints ((Cir.rowI d s).take 0))) := Lib.hid ((World.ownsRow_lit (base := wr.heap.size) (e := 3) (size := 1) wr #[] 0 (Nat.le_refl _) (by unfold maxLen; omega) rfl).alloc _)
      have hA2 : Hid (((wr.alloc (.cells #[] 3)).alloc (.cells #[] 3)).ownsRow wr.heap.size 3 1 (.slice (some ⟨wr.heap.size + 1, 0, none⟩) 0 0) 0 (ints ((nats (Cir.rowO d s)).take 0))) := Lib.hid (by
        have := World.ownsRow_lit (base := wr.heap.size) (e := 3) (size := 1) (wr.alloc (.cells #[] 3)) #[] 0 (by simp) (by unfold maxLen; omega) rfl
        rwa [World.size_alloc] at this)
      have hAp : Hid (Apart (.slice (some ⟨wr.heap.size, 0, none⟩) 0 0) (.slice (some ⟨wr.heap.size + 1, 0, none⟩) 0 0)) := Lib.hid (fun g h1 h2 => by have h3 := Option.some.inj h1; have h4 := Option.some.inj h2; simp only at h3 h4; omega)
      have HBa : Hid (Below wr.heap.size wr ((wr.alloc (.cells #[] 3)).alloc (.cells #[] 3))) := Lib.hid (((Below.refl _ _).alloc (Nat.le_refl _) _).alloc (by simp) _)
      go_wp2_with fail
      obtain ⟨Wk, hWk⟩ : ∃ Wk, Wk = wr := ⟨_, rfl⟩
      subst hWk
      go_loopw [6, 7, 8] (fun v u i wr => ∃ (vv uu : Value) (j : Nat), vv = v ∧ uu = u ∧ i = .int .i64 j ∧ j ≤ M ∧ Hid (wr.ownsRow Wk.heap.size 3 1 v j (ints ((Cir.rowI d s).take j))) ∧ Hid (wr.ownsRow Wk.heap.size 3 1 u j (ints ((nats (Cir.rowO d s)).take j))) ∧ Hid (Apart v u) ∧ Below Wk.heap.size Wk wr) (fun _ _ i _ => M - (intOf i).toNat)
      case atStart => exact ⟨_, _, 0, rfl, rfl, rfl, Nat.zero_le _, hA1, hA2, hAp, HBa.out⟩
      case round =>
        obtain ⟨vv, uu, j, hvv, huu, rfl, hj, Hv6, Hu6, Hap, hb⟩ := hrel
        subst hvv huu
        clear hA1 hA2 hAp HBa p0 p1 p2 p3
        have Hbk := Lib.hid hb
        have hzk := hb.size
        have PCr := Lib.hid (PCk.out.below hb)
        have hs1 := (hb.cell (p := ⟨b, o + k, none⟩) hbl).trans hs0
        obtain ⟨zz, p0, p1, p2, p3⟩ := PCr.out
        clear hb
        by_cases hlj : j < M
        · have HSn1 := Lib.hid (rowI_snoc (d := d) (s := s) (j := j) (by rw [← HM.out]; exact hlj))
          have HSn2 := Lib.hid (rowO_snoc (d := d) (s := s) (j := j) (by rw [← HM.out]; exact hlj))
          have hN8 : Cir.nextOf d s j < 8 := by
            have h1 := Cir.nextOf_lt d s j
            have h2 : 2 ^ d.next.length ≤ 2 ^ 3 := Nat.pow_le_pow_right (show 0 < 2 by decide) l2
            omega
          have hdj : decide (j < M) = true := decide_eq_true hlj
          go_wp2_with fail
          obtain ⟨w4, hw4⟩ : ∃ w4, w4 = wr := ⟨_, rfl⟩
          subst hw4
          obtain ⟨cs1, hcs1⟩ : ∃ cs1, ints ((Cir.rowI d s).take j) = cs1 := ⟨_, rfl⟩
          rw [hcs1] at Hv6
          have HC1s := Lib.hid hcs1
          clear hcs1
          have HBx : ∀ w', Only (fun g => vv.ownBlock = some g) w4 w' → Below Wk.heap.size Wk w' := fun w' ho => Only.below Hbk.out ho hzk (fun g hg => (Hv6.out.lt g hg).1)
          obtain ⟨i0, hi0, hz0, hz1, hz2⟩ := info_parts info_int
          have hO := fun ops a => appRS2_ok (Pg := Try.prog) (ops := ops) (a := a) (news := [.int .i64 (idxOf (Cir.reach d) (Cir.nextOf d s j))]) (d := 11) (Hv6.out)
          refine wp_region_rs (appRS2 Try.prog _ w4 _ (Wk.heap.size) 3 1 (vv) (j) (cs1) [.int .i64 (idxOf (Cir.reach d) (Cir.nextOf d s j))] 11) (hO _ _) (by kernel_rfl) (by kernel_rfl) (by kernel_rfl) (Nat.le_of_ble_eq_true rfl) trivial Hv6.out ?_
          refine rs_old (hO _ _) (.inl (Nat.ne_of_beq_eq_false rfl)) _ (.inl rfl) _ rfl rfl ?_
          refine rs_old (hO _ _) (.inl (Nat.ne_of_beq_eq_false rfl)) _ (.inl rfl) _ rfl rfl ?_
          apply rs_eq (hO _ _) (.inl (Nat.ne_of_beq_eq_false rfl))
          · intro ρ w' ho hK
            have ho : Only _ w4 w' := ho
            obtain ⟨h0, -⟩ := hK
            have h0' : ρ (.tmp 1) = _ := h0
            have hb := HBx w' ho
            obtain ⟨_, q0, q1, q2, q3⟩ := PCk.out.below hb
            have q4 := (hb.cell (p := ⟨b, o + k, none⟩) hbl).trans hs0
            go_simp
            try exact rfl
          refine rs_old (hO _ _) (.inl (Nat.ne_of_beq_eq_false rfl)) _ (.inl rfl) _ rfl rfl ?_
          refine rs_old (hO _ _) (.inl (Nat.ne_of_beq_eq_false rfl)) _ (.inl rfl) _ rfl rfl ?_
          apply rs_eq (hO _ _) (.inl (Nat.ne_of_beq_eq_false rfl))
          · intro ρ w' ho hK
            have ho : Only _ w4 w' := ho
            obtain ⟨h0, h1, -⟩ := hK
            have h0' : ρ (.tmp 36) = _ := h0
            have h1' : ρ (.tmp 37) = _ := h1
            go_simp
            try exact rfl
          apply rs_eq (hO _ _) (.inl (Nat.ne_of_beq_eq_false rfl))
          · intro ρ w' ho hK
            have ho : Only _ w4 w' := ho
            obtain ⟨h0, -⟩ := hK
            have h0' : ρ (.tmp 38) = _ := h0
            have hb := HBx w' ho
            obtain ⟨_, q0, q1, q2, q3⟩ := PCk.out.below hb
            have q4 := (hb.cell (p := ⟨b, o + k, none⟩) hbl).trans hs0
            go_simp
            try exact rfl
          refine rs_old (hO _ _) (.inl (Nat.ne_of_beq_eq_false rfl)) _ (.inl rfl) _ rfl rfl ?_
          refine rs_call (hO _ _) (.inl (Nat.ne_of_beq_eq_false rfl)) (TEq (.int .i64 (Cir.nextOf d s j : Nat))) (stb_eq _ _) 41 _ _ rfl (fun ρ w' ho hK => by
            have ho : Only _ w4 w' := ho
            obtain ⟨h0, h1, h2, h3, -⟩ := hK
            have h0' : ρ (.func 41) = .func (.func 41) #[] #[] := h0
            have h1' : ρ (.tmp 35) = _ := h1
            have h2' : ρ (.tmp 39) = _ := h2
            have h3' : ρ (.tmp 40) = _ := h3
            refine ⟨#[ρ (.tmp 35), ρ (.tmp 39), ρ (.tmp 40)], ?_, ?_⟩
            · go_simp
            · rw [h1', h2', h3']
              refine (l16Next_any _ d s j w' (HCk.out.below (HBx w' ho)) Hd.out (by omega) (by omega)).mono ?_
              rintro e w2 ⟨rfl, hb⟩
              exact ⟨_, rfl, rfl, hb⟩) ?_
          refine rs_call (hO _ _) (.inl (Nat.ne_of_beq_eq_false rfl)) (TEq (.int .i64 (idxOf (Cir.reach d) (Cir.nextOf d s j)))) (stb_eq _ _) 51 _ _ rfl (fun ρ w' ho hK => by
            have ho : Only _ w4 w' := ho
            obtain ⟨h0, h1, h2, -⟩ := hK
            have h0' : ρ (.func 51) = .func (.func 51) #[] #[] := h0
            have h1' : ρ (.tmp 34) = _ := h1
            have h2' : ρ (.tmp 41) = _ := h2
            refine ⟨#[ρ (.tmp 34), ρ (.tmp 41)], ?_, ?_⟩
            · go_simp
            · rw [h1', h2']
              refine (l29At_any _ (Cir.reach d) (Cir.nextOf d s j) w' (HSk.out.below (HBx w' ho)) (by omega)).mono ?_
              rintro e w2 ⟨rfl, rfl⟩
              exact ⟨_, rfl, rfl, Below.refl _ _⟩) ?_
          refine rs_build1 (hO _ _) (.inl (Nat.ne_of_beq_eq_false rfl)) 1 [.int .i64 (idxOf (Cir.reach d) (Cir.nextOf d s j))] 3 rfl (fun ρ w' ho hK => by
            have ho : Only _ w4 w' := ho
            obtain ⟨h0, -⟩ := hK
            have h0' : ρ (.tmp 42) = _ := h0
            go_simp) ?_
          refine rs_append2 rfl (Wk.heap.size) 3 23 1 (vv) (j) (cs1) _ rfl rfl (fun g hg => hg) (show Wk.heap.size ≤ w4.heap.size by omega) _ _ rfl _ _ rfl rfl rfl rfl i0 _ 8 Try.underlying23 hi0 hz0 hz1 hz2 rfl (by decide) (by omega) (by decide) (by simp [Value.oneCell']) ?_
          refine rs_same (hO _ _) (.inl (Nat.ne_of_beq_eq_false rfl)) 44 11 (.inr rfl) rfl _ rfl ?_
          intro f w9 k9 hk9 hI9 ht9 hcp9
          have E0 : f 0 = _ := ht9 0 (Nat.le_of_ble_eq_true rfl)
          conv at E0 => rhs; whnf
          have E1 : f 1 = _ := ht9 1 (Nat.le_of_ble_eq_true rfl)
          conv at E1 => rhs; whnf
          have E2 : f 2 = _ := ht9 2 (Nat.le_of_ble_eq_true rfl)
          have E3 : f 3 = _ := ht9 3 (Nat.le_of_ble_eq_true rfl)
          conv at E3 => rhs; whnf
          have E4 : f 4 = _ := ht9 4 (Nat.le_of_ble_eq_true rfl)
          conv at E4 => rhs; whnf
          have E5 : f 5 = _ := ht9 5 (Nat.le_of_ble_eq_true rfl)
          have E6 : f 6 = _ := ht9 6 (Nat.le_of_ble_eq_true rfl)
          have E7 : f 7 = _ := ht9 7 (Nat.le_of_ble_eq_true rfl)
          conv at E7 => rhs; whnf
          have E8 : f 8 = _ := ht9 8 (Nat.le_of_ble_eq_true rfl)
          have E9 : f 9 = _ := ht9 9 (Nat.le_of_ble_eq_true rfl)
          have E10 : (TNew _ 1 1 [.int .i64 (idxOf (Cir.reach d) (Cir.nextOf d s j))]) w9 (f 10) := ht9 10 (Nat.le_of_ble_eq_true rfl)
          have E11 : (TAny) w9 (f 11) := ht9 11 (Nat.le_of_ble_eq_true rfl)
          have E12 : (TAny) w9 (f 12) := ht9 12 (Nat.le_of_ble_eq_true rfl)
          have Ho9 : Only _ w4 w9 := hI9.2.1
          have hown9 : w9.ownsRow (Wk.heap.size) 3 1 (f 11) (j + 1) (cs1 ++ [.int .i64 (idxOf (Cir.reach d) (Cir.nextOf d s j))]) := hI9.2.2.1
          have hat9 : ∀ g, (f 11).ownBlock = some g → (vv).ownBlock = some g ∨ w4.heap.size ≤ g := hI9.2.2.2
          have C12 : f 12 = f 11 := (hcp9 12 _ 44 11 rfl rfl rfl rfl).2
          simp only [putAll, E0, E1, E2, E3, E4, E5, E6, E7, E8, E9, C12, Nat.zero_add, Nat.reduceAdd, Act.put, List.setIfInBounds_toArray, List.set_cons_succ, List.set_cons_zero]
          clear E0 E1 E2 E3 E4 E5 E6 E7 E8 E9
          clear hI9 ht9 hcp9 hk9
          generalize f 10 = r10 at *
          generalize f 11 = r11 at *
          have hA13 := apart_loc Hap.out hat9 (fun g hg => (Hu6.out.lt g hg).2)
          have Hu13 := Lib.hid (own_only Hu6.out Ho9 (fun g h1 h2 => Hap.out g h2 h1))
          have Hv13 := Lib.hid hown9
          have Hap13 := Lib.hid hA13
          have Hb13 := Lib.hid (HBx w9 Ho9)
          have hz13 := Nat.le_trans hzk Ho9.size
          clear Ho9 hown9 hat9 hA13 HBx hO Hv6 Hu6 Hap p0 p1 p2 p3 zz hs1
          obtain ⟨w5, hw5⟩ : ∃ w5, w5 = w9 := ⟨_, rfl⟩
          subst hw5
          obtain ⟨cs2, hcs2⟩ : ∃ cs2, ints ((nats (Cir.rowO d s)).take j) = cs2 := ⟨_, rfl⟩
          rw [hcs2] at Hu13
          have HC2s := Lib.hid hcs2
          clear hcs2
          go_wp2_with fail
          have HBy : ∀ w', Only (fun g => uu.ownBlock = some g) w5 w' → Below Wk.heap.size Wk w' := fun w' ho => Only.below Hb13.out ho hz13 (fun g hg => (Hu13.out.lt g hg).1)
          have hol : (Cir.outsOf d s j).length ≤ 16 := by unfold Cir.outsOf; rw [lits_length]; omega
          obtain ⟨i0, hi0, hz0, hz1, hz2⟩ := info_parts info_int
          have hO := fun ops a => appRS2_ok (Pg := Try.prog) (ops := ops) (a := a) (news := [.int .i64 (Cir.num (Cir.outsOf d s j) : Nat)]) (d := 10) (Hu13.out)
          refine wp_region_rs (appRS2 Try.prog _ w5 _ (Wk.heap.size) 3 1 (uu) (j) (cs2) [.int .i64 (Cir.num (Cir.outsOf d s j) : Nat)] 10) (hO _ _) (by kernel_rfl) (by kernel_rfl) (by kernel_rfl) (Nat.le_of_ble_eq_true rfl) trivial Hu13.out ?_
          refine rs_old (hO _ _) (.inl (Nat.ne_of_beq_eq_false rfl)) _ (.inl rfl) _ rfl rfl ?_
          apply rs_eq (hO _ _) (.inl (Nat.ne_of_beq_eq_false rfl))
          · intro ρ w' ho hK
            have ho : Only _ w5 w' := ho
            obtain ⟨h0, -⟩ := hK
            have h0' : ρ (.tmp 1) = _ := h0
            have hb := HBy w' ho
            obtain ⟨_, q0, q1, q2, q3⟩ := PCk.out.below hb
            have q4 := (hb.cell (p := ⟨b, o + k, none⟩) hbl).trans hs0
            go_simp
            try exact rfl
          refine rs_old (hO _ _) (.inl (Nat.ne_of_beq_eq_false rfl)) _ (.inl rfl) _ rfl rfl ?_
          refine rs_old (hO _ _) (.inl (Nat.ne_of_beq_eq_false rfl)) _ (.inl rfl) _ rfl rfl ?_
          apply rs_eq (hO _ _) (.inl (Nat.ne_of_beq_eq_false rfl))
          · intro ρ w' ho hK
            have ho : Only _ w5 w' := ho
            obtain ⟨h0, h1, -⟩ := hK
            have h0' : ρ (.tmp 47) = _ := h0
            have h1' : ρ (.tmp 48) = _ := h1
            go_simp
            try exact rfl
          apply rs_eq (hO _ _) (.inl (Nat.ne_of_beq_eq_false rfl))
          · intro ρ w' ho hK
            have ho : Only _ w5 w' := ho
            obtain ⟨h0, -⟩ := hK
            have h0' : ρ (.tmp 49) = _ := h0
            have hb := HBy w' ho
            obtain ⟨_, q0, q1, q2, q3⟩ := PCk.out.below hb
            have q4 := (hb.cell (p := ⟨b, o + k, none⟩) hbl).trans hs0
            go_simp
            try exact rfl
          refine rs_old (hO _ _) (.inl (Nat.ne_of_beq_eq_false rfl)) _ (.inl rfl) _ rfl rfl ?_
          refine rs_call (hO _ _) (.inl (Nat.ne_of_beq_eq_false rfl)) (TIn (From w5.heap.size) (bools (Cir.outsOf d s j))) (stb_in (fun g h e => by have := (Hu13.out.lt g e).2; unfold From at h; omega) _) 39 _ _ rfl (fun ρ w' ho hK => by
            have ho : Only _ w5 w' := ho
            obtain ⟨h0, h1, h2, h3, -⟩ := hK
            have h0' : ρ (.func 39) = .func (.func 39) #[] #[] := h0
            have h1' : ρ (.tmp 46) = _ := h1
            have h2' : ρ (.tmp 50) = _ := h2
            have h3' : ρ (.tmp 51) = _ := h3
            refine ⟨#[ρ (.tmp 46), ρ (.tmp 50), ρ (.tmp 51)], ?_, ?_⟩
            · go_simp
            · rw [h1', h2', h3']
              refine (l16OutsIn_any _ d s j w' (HCk.out.below (HBy w' ho)) Hd.out (by omega) (by omega)).mono ?_
              rintro e w2 ⟨⟨u, rfl, hO⟩, hb⟩
              exact ⟨u, rfl, by unfold TIn; rw [bools_length]; exact hO.mono (fun g hg => Nat.le_trans ho.size hg), hb⟩) ?_
          refine rs_call (hO _ _) (.inl (Nat.ne_of_beq_eq_false rfl)) (TEq (.int .i64 (Cir.num (Cir.outsOf d s j) : Nat))) (stb_eq _ _) 52 _ _ rfl (fun ρ w' ho hK => by
            have ho : Only _ w5 w' := ho
            obtain ⟨h0, h1, -⟩ := hK
            have h0' : ρ (.func 52) = .func (.func 52) #[] #[] := h0
            have h1' : (TIn (From w5.heap.size) (bools (Cir.outsOf d s j))) w' (ρ (.tmp 52)) := h1
            refine ⟨#[ρ (.tmp 52)], ?_, ?_⟩
            · go_simp
            · skip
              refine (l16Number_any _ (Cir.outsOf d s j) w' (by have := h1'; unfold TIn at this; rw [bools_length] at this; exact this.1) hol).mono ?_
              rintro e w2 ⟨rfl, rfl⟩
              exact ⟨_, rfl, rfl, Below.refl _ _⟩) ?_
          refine rs_build1 (hO _ _) (.inl (Nat.ne_of_beq_eq_false rfl)) 1 [.int .i64 (Cir.num (Cir.outsOf d s j) : Nat)] 3 rfl (fun ρ w' ho hK => by
            have ho : Only _ w5 w' := ho
            obtain ⟨h0, -⟩ := hK
            have h0' : ρ (.tmp 53) = _ := h0
            go_simp) ?_
          refine rs_append2 rfl (Wk.heap.size) 3 23 1 (uu) (j) (cs2) _ rfl rfl (fun g hg => hg) (show Wk.heap.size ≤ w5.heap.size by omega) _ _ rfl _ _ rfl rfl rfl rfl i0 _ 8 Try.underlying23 hi0 hz0 hz1 hz2 rfl (by decide) (by omega) (by decide) (by simp [Value.oneCell']) ?_
          refine rs_same (hO _ _) (.inl (Nat.ne_of_beq_eq_false rfl)) 55 10 (.inr rfl) rfl _ rfl ?_
          intro f w9 k9 hk9 hI9 ht9 hcp9
          have E0 : f 0 = _ := ht9 0 (Nat.le_of_ble_eq_true rfl)
          conv at E0 => rhs; whnf
          have E1 : f 1 = _ := ht9 1 (Nat.le_of_ble_eq_true rfl)
          have E2 : f 2 = _ := ht9 2 (Nat.le_of_ble_eq_true rfl)
          conv at E2 => rhs; whnf
          have E3 : f 3 = _ := ht9 3 (Nat.le_of_ble_eq_true rfl)
          conv at E3 => rhs; whnf
          have E4 : f 4 = _ := ht9 4 (Nat.le_of_ble_eq_true rfl)
          have E5 : f 5 = _ := ht9 5 (Nat.le_of_ble_eq_true rfl)
          have E6 : f 6 = _ := ht9 6 (Nat.le_of_ble_eq_true rfl)
          conv at E6 => rhs; whnf
          have E7 : (TIn (From w5.heap.size) (bools (Cir.outsOf d s j))) w9 (f 7) := ht9 7 (Nat.le_of_ble_eq_true rfl)
          have E8 : f 8 = _ := ht9 8 (Nat.le_of_ble_eq_true rfl)
          have E9 : (TNew _ 1 1 [.int .i64 (Cir.num (Cir.outsOf d s j) : Nat)]) w9 (f 9) := ht9 9 (Nat.le_of_ble_eq_true rfl)
          have E10 : (TAny) w9 (f 10) := ht9 10 (Nat.le_of_ble_eq_true rfl)
          have E11 : (TAny) w9 (f 11) := ht9 11 (Nat.le_of_ble_eq_true rfl)
          have Ho9 : Only _ w5 w9 := hI9.2.1
          have hown9 : w9.ownsRow (Wk.heap.size) 3 1 (f 10) (j + 1) (cs2 ++ [.int .i64 (Cir.num (Cir.outsOf d s j) : Nat)]) := hI9.2.2.1
          have hat9 : ∀ g, (f 10).ownBlock = some g → (uu).ownBlock = some g ∨ w5.heap.size ≤ g := hI9.2.2.2
          have C11 : f 11 = f 10 := (hcp9 11 _ 55 10 rfl rfl rfl rfl).2
          simp only [putAll, E0, E1, E2, E3, E4, E5, E6, E8, C11, Nat.zero_add, Nat.reduceAdd, Act.put, List.setIfInBounds_toArray, List.set_cons_succ, List.set_cons_zero]
          clear E0 E1 E2 E3 E4 E5 E6 E8
          clear hI9 ht9 hcp9 hk9
          generalize f 7 = r7 at *
          generalize f 9 = r9 at *
          generalize f 10 = r10 at *
          have hA14 := (apart_loc Hap13.out.symm hat9 (fun g hg => (Hv13.out.lt g hg).2)).symm
          have Hv14 := Lib.hid (own_only Hv13.out Ho9 (fun g h1 h2 => Hap13.out g h1 h2))
          have Hu14 := Lib.hid hown9
          have Hap14 := Lib.hid hA14
          have Hb14 := Lib.hid (HBy w9 Ho9)
          clear Ho9 hown9 hat9 hA14 HBy hO Hv13 Hu13 Hap13 hol
          obtain ⟨w6, hw6⟩ : ∃ w6, w6 = w9 := ⟨_, rfl⟩
          subst hw6
          obtain ⟨zz, p0, p1, p2, p3⟩ := PCk.out.below Hb14.out
          go_wp2_with fail
          go_roundw
          case rel => exact ⟨_, _, j + 1, rfl, rfl, by go_num, by omega, Lib.hid (by rw [HSn1.out, ints_snoc, HC1s.out]; exact Hv14.out), Lib.hid (by rw [HSn2.out, ints_snoc, HC2s.out]; exact Hu14.out), Hap14, Hb14.out⟩
          case measure => simp [intOf] <;> omega
        · obtain rfl : j = M := by omega
          obtain ⟨ga, ca, hva, hga, hga2, hca, hcam⟩ := own_open Hv6.out (by omega)
          obtain ⟨gb, cb, hvb, hgb, hgb2, hcb, hcbm⟩ := own_open Hu6.out (by omega)
          subst hva hvb
          unfold maxLen at hcam hcbm
          have Hab := Hap
          have Na1 : Hid (∀ g, (Value.slice (some ⟨ga, 0, none⟩) j ca).ownBlock = some g → ¬ E1 g ∧ ¬ E2 g) := Lib.hid fun g hg => ⟨fun he => by have h1 := HMB.out.l1 g he; have h2 := (Hv6.out.lt g hg).1; omega, fun he => by have h1 := HMB.out.l2 g he; have h2 := (Hv6.out.lt g hg).1; omega⟩
          have Nb1 : Hid (∀ g, (Value.slice (some ⟨gb, 0, none⟩) j cb).ownBlock = some g → ¬ E1 g ∧ ¬ E2 g) := Lib.hid fun g hg => ⟨fun he => by have h1 := HMB.out.l1 g he; have h2 := (Hu6.out.lt g hg).1; omega, fun he => by have h1 := HMB.out.l2 g he; have h2 := (Hu6.out.lt g hg).1; omega⟩
          have hRl : (Cir.rowI d s).length = j := HN1.out
          have Oa5 : Hid (wr.ownsRow (w1.heap.size + 1) 3 1 (.slice (some ⟨ga, 0, none⟩) j ca) (Cir.rowI d s).length (ints (Cir.rowI d s))) := Lib.hid (by
            have := Hv6.out
            rw [List.take_of_length_le (by omega)] at this
            rw [hRl]
            exact own_mono this (by omega))
          have Ob5 : Hid (wr.ownsRow (w1.heap.size + 1) 3 1 (.slice (some ⟨gb, 0, none⟩) j cb) (nats (Cir.rowO d s)).length (ints (nats (Cir.rowO d s)))) := Lib.hid (by
            have := Hu6.out
            rw [List.take_of_length_le (by have := HO1.out; omega)] at this
            rw [HO1.out]
            exact own_mono this (by omega))
          have HMB5 := Lib.hid (HMB.out.below Hbk.out)
          have hgw : Wk.heap.size ≤ ga := hga
          have hgw2 : Wk.heap.size ≤ gb := hgb
          clear Hap Hv6 Hu6
          have Hk8 : k ≤ 8 := by omega
          have HMl := HMB5.out.below (bel_new wr (.cells #[.slice (some ⟨ga, 0, none⟩) j ca] 23))
          obtain ⟨us, q1, q2, q3, q4, q5, q6, q7⟩ := HMl.n
          have hl1 : ((Cir.machN d).next.take k).length = k := by rw [List.length_take]; unfold Cir.machN; rw [List.length_map]; omega
          have hl2 : ((Cir.machN d).out.take k).length = k := by rw [List.length_take]; unfold Cir.machN; rw [List.length_map]; omega
          rw [hl1] at q1 q2
          have Q2 := Lib.hid q2
          have HML := Lib.hid HMl
          have Q := Lib.hid (And.intro q1 (And.intro q3 (And.intro q4 (And.intro q5 (And.intro q6 q7)))))
          have Hl1 := Lib.hid hl1
          have Hl2 := Lib.hid hl2
          have Oal := Lib.hid (Oa5.out.alloc (.cells #[.slice (some ⟨ga, 0, none⟩) j ca] 23))
          have Obl := Lib.hid (Ob5.out.alloc (.cells #[.slice (some ⟨ga, 0, none⟩) j ca] 23))
          have Hlit := Lib.hid (Row.of_own (World.ownsRow_lit (base := wr.heap.size) (e := 23) (size := 1) wr #[.slice (some ⟨ga, 0, none⟩) j ca] 1 (Nat.le_refl _) (by unfold maxLen; omega) rfl))
          have hgm5 := mb_lt HMB5.out
          have hsl : (wr.alloc (.cells #[.slice (some ⟨ga, 0, none⟩) j ca] 23)).heap.size = wr.heap.size + 1 := by simp
          have Nb2 : Hid (∀ v7 : Value, (v7.ownBlock = vN.ownBlock ∨ v7.ownBlock = some (wr.alloc (.cells #[.slice (some ⟨ga, 0, none⟩) j ca] 23)).heap.size) → ∀ g, (Value.slice (some ⟨gb, 0, none⟩) j cb).ownBlock = some g → ¬ (E1 g ∨ (Value.slice (some ⟨ga, 0, none⟩) j ca).ownBlock = some g ∨ v7.ownBlock = some g)) := Lib.hid fun v7 hat g hg he => by
            have hgb : gb = g := by simpa [Value.ownBlock] using hg
            subst hgb
            rcases he with he | he | he
            · exact (Nb1.out gb rfl).1 he
            · exact Hab.out gb he rfl
            · rcases hat with h | h
              · exact (Nb1.out gb rfl).1 (q6 gb (by rw [← h]; exact he))
              · rw [h] at he
                have h2 := Option.some.inj he
                have h3 := (Ob5.out.lt gb rfl).2
                omega
          obtain ⟨k0, k1, k2, k3, k4⟩ := HMB5.out.cells
          clear hRl HMl q1 q2 q3 q4 q5 q6 q7 hl1 hl2
          go_wp2_with (first
            | (at_builtin; refine append_intss rfl (.tmp 57) (.tmp 59) rfl (w1.heap.size + 1) vN k us rfl Q2.out _ 1 [.slice (some ⟨ga, 0, none⟩) j ca] rfl Hlit.out (by simp [Value.oneCell']) (by omega) (by first | omega | (simp <;> omega)) ?_; intro v7 w7 hown7 hg7 hat7; obtain ⟨A7, c7, hv7⟩ := slice_of_own hown7; subst hv7; have HMB7 := Lib.hid (MB.addN HML.out (Q.out.1.trans Hl1.out.symm) Q.out.2.1 Q.out.2.2.1 Q.out.2.2.2.1 Q.out.2.2.2.2.1 Q.out.2.2.2.2.2 Oal.out (fun g hg => (Na1.out g hg).1) (fun g hg => (Na1.out g hg).2) (by rw [Hl1.out]; exact hown7) hg7 hat7); have hbx := (hg7.block w1.heap.size (mb_lt HML.out) (fun e => by obtain ⟨_, _, p2, _⟩ := HML.out.n; have := (p2.lt _ e.symm).1; omega)).trans HML.out.box; have x1 := blk_cell hbx 1; have y1 := blk_free hbx 1; have x22 : w7.cell? ⟨w1.heap.size, 2, none⟩ = some vO := (blk_cell hbx 2); have y22 := blk_free hbx 2; obtain ⟨j0, j1, j2, j3, j4⟩ := HMB7.out.cells; have HMl8 := HMB7.out.below (bel_new _ (.cells #[.slice (some ⟨gb, 0, none⟩) j cb] 23)); obtain ⟨us2, t1, t2, t3, t4, t5, t6, t7⟩ := HMl8.o; rw [Hl2.out] at t1 t2; have T2 := Lib.hid t2; have HML8 := Lib.hid HMl8; have TQ := Lib.hid (And.intro t1 (And.intro t3 (And.intro t4 (And.intro t5 (And.intro t6 t7))))); have Ob8 := Lib.hid ((own_set (own_kept Obl.out hg7 (fun g h1 h2 => (Nb1.out g h1).1 (Q.out.2.2.2.2.1 g h2))) (show w1.heap.size < w1.heap.size + 1 by omega) (i := 1) (u := (Value.slice A7 (k + 1) c7))).alloc (.cells #[.slice (some ⟨gb, 0, none⟩) j cb] 23)); have Hlit2 := Lib.hid (Row.of_own (World.ownsRow_lit (base := (w7.setCell ⟨w1.heap.size, 1, none⟩ (Value.slice A7 (k + 1) c7)).heap.size) (e := 23) (size := 1) (w7.setCell ⟨w1.heap.size, 1, none⟩ (Value.slice A7 (k + 1) c7)) #[.slice (some ⟨gb, 0, none⟩) j cb] 1 (Nat.le_refl _) (by unfold maxLen; omega) rfl)); have Hg7 := Lib.hid hg7; have Hat7 := Lib.hid hat7; have hz7 := hg7.size; have hz8 : (w7.setCell ⟨w1.heap.size, 1, none⟩ (Value.slice A7 (k + 1) c7)).heap.size = w7.heap.size := (by simp [World.setCell]); have Hlit2 := Lib.hid (by have hh := Hlit2.out; rw [hz8] at hh; exact hh); clear hown7 hg7 hat7 hbx HMl8 t1 t2 t3 t4 t5 t6 t7 k0 k1 k2 k3 k4)
            | (at_builtin; refine append_intss rfl (.tmp 63) (.tmp 65) rfl (w1.heap.size + 1) vO k us2 rfl T2.out _ 1 [.slice (some ⟨gb, 0, none⟩) j cb] rfl Hlit2.out (by simp [Value.oneCell']) (by omega) (by first | omega | (simp <;> omega)) ?_; intro v9 w9 hown9 hg9 hat9; obtain ⟨A9, c9, hv9⟩ := slice_of_own hown9; subst hv9; have HMB9 := Lib.hid (MB.addO HML8.out (TQ.out.1.trans Hl2.out.symm) TQ.out.2.1 TQ.out.2.2.1 TQ.out.2.2.2.1 TQ.out.2.2.2.2.1 TQ.out.2.2.2.2.2 Ob8.out (Nb2.out _ Hat7.out) (fun g hg => (Nb1.out g hg).2) (by rw [Hl2.out]; exact hown9) hg9 hat9); have hbx := (hg9.block w1.heap.size (mb_lt HML8.out) (fun e => by obtain ⟨_, _, p2, _⟩ := HML8.out.o; have := (p2.lt _ e.symm).1; omega)).trans HML8.out.box; have x2 := blk_cell hbx 2; have y2 := blk_free hbx 2; have Hg9 := Lib.hid hg9; have Hat9 := Lib.hid hat9; clear hown9 hg9 hat9 hbx j0 j1 j2 j3 j4 x1 y1))
          go_roundw
          case rel => exact ⟨k + 1, _, _, _, _, by omega, by go_num, Lib.hid (by rw [HX1.out, HX2.out]; exact HMB9.out), Lib.hid (fun g hg => by
              rcases hg with hg | hg | hg
              · exact HE1.out g hg
              · have := Option.some.inj hg; simp only at this; omega
              · rcases Hat7.out with h | h
                · exact HE1.out g (Q.out.2.2.2.2.1 g (by rw [← h]; exact hg))
                · have := Option.some.inj (hg.symm.trans h); rw [World.size_alloc] at this; omega), Lib.hid (fun g hg => by
              rcases hg with hg | hg | hg
              · exact HE2.out g hg
              · have := Option.some.inj hg; simp only at this; omega
              · rcases Hat9.out with h | h
                · exact HE2.out g (TQ.out.2.2.2.2.1 g (by rw [← h]; exact hg))
                · have := Option.some.inj (hg.symm.trans h); rw [World.size_alloc, hz8] at this; omega), by
            have a0 : Only (fun g => g = w1.heap.size) Wk wr := Only.of_below _ Hbk.out
            have a1 := Ho.out.trans (a0.trans (Only.of_below _ (bel_new wr (.cells #[.slice (some ⟨ga, 0, none⟩) j ca] 23))))
            have a2 := a1.after (Only.grown (E := fun g => vN.ownBlock = some g) Hg7.out (fun q hq => hq)) (fun g hg => .inl (HE1.out g (Q.out.2.2.2.2.1 g hg)))
            have a3 := a2.trans (Only.grown (E := fun g => g = w1.heap.size) (set_grown _ _ 1 (Value.slice A7 (k + 1) c7)) (fun q hq => (Option.some.inj hq).symm))
            have a4 := a3.trans (Only.of_below _ (bel_new _ (.cells #[.slice (some ⟨gb, 0, none⟩) j cb] 23)))
            have a5 := a4.after (Only.grown (E := fun g => vO.ownBlock = some g) Hg9.out (fun q hq => hq)) (fun g hg => .inl (HE2.out g (TQ.out.2.2.2.2.1 g hg)))
            exact a5.trans (Only.grown (E := fun g => g = w1.heap.size) (set_grown _ _ 2 (Value.slice A9 (k + 1) c9)) (fun q hq => (Option.some.inj hq).symm))⟩
          case measure => simp [intOf] <;> omega
    · obtain rfl : k = (Cir.reach d).length := by omega
      have HMf : Hid (MB w1.heap.size d.ins E1 E2 vN vO (Cir.machN d).next (Cir.machN d).out wr) := Lib.hid (by
        have := HMB.out
        rwa [List.take_of_length_le (by unfold Cir.machN; simp), List.take_of_length_le (by unfold Cir.machN; simp)] at this)
      obtain ⟨k0, k1, k2, k3, k4⟩ := HMf.out.cells
      have hR := (Hb.out.block (w.heap.size + 1) (by omega)).trans HRes1.out
      have o0 := blk_cell hR 0
      have o1 := blk_cell hR 1
      have o2 := blk_cell hR 2
      have b0 := blk_free hR 0
      have b1 := blk_free hR 1
      have b2 := blk_free hR 2
      simp at o0 o1 o2
      have HB := Lib.hid (B1.out.trans (Hb.out.mono B1.out.size))
      have hlN := HMf.out.l1
      have hlO := HMf.out.l2
      obtain ⟨An, cn, hvN, -, -⟩ := SSAt.shape (OwnSE.at HMf.out.n)
      obtain ⟨Ao, co, hvO, -, -⟩ := SSAt.shape (OwnSE.at HMf.out.o)
      have HMF2 := Lib.hid (And.intro HMf.out.n (And.intro HMf.out.o HMf.out.d))
      have HlN := Lib.hid hlN
      have HlO := Lib.hid hlO
      clear hR HMf HMB hlN hlO
      subst hvN hvO
      go_wp2_with fail
      refine bodyPost_ret (v := .agg #[.int .i64 d.ins, .slice An (Cir.machN d).next.length cn, .slice Ao (Cir.machN d).out.length co]) (by simp [results, Try.results16, go_sem, o0, o1, o2]) rfl ⟨⟨_, rfl, ⟨_, _, rfl, (OwnSE.innM (OwnSE.set (OwnSE.set (OwnSE.set HMF2.out.1 (by omega)) (by omega)) (by omega))).mono (fun g hg => Nat.le_trans (by omega) hg), (OwnSE.innM (OwnSE.set (OwnSE.set (OwnSE.set HMF2.out.2.1 (by omega)) (by omega)) (by omega))).mono (fun g hg => Nat.le_trans (by omega) hg)⟩⟩, ?_⟩
      exact ((HB.out.setCell (by simp only; omega) _).setCell (by simp only; omega) _).setCell (by simp only; omega) _
theorem specMof_ok (v : Value) (d : Ci) (w : World) (h : CircAt w v (Cir.toCz d)) (hd : Cir.Ok d) (hv : Cir.valid (Cir.toCz d) = true) :
    Calls Try.prog 16 #[v] w (ReadMach (Cir.machN d) w) :=
  (specMof_okF v d w h hd hv).mono fun _ _ h => h.read
end Go.Proofs.Ytdgminjbgjbamaa

namespace Go.Proofs.Ytdgminjbgjbamaa
open Go.RowKit
set_option maxRecDepth 100000
/-! MachineOf, both, for all circuits. -/
def Cir.mach0 : Mz := { ins := 0, next := [], out := [] }
theorem implMof_no (v : Value) (c : Cz) (w : World) (h : CircAt w v c) (hv : Cir.valid c = false) :
    Calls Try.prog 14 #[v] w (OwnMachR Cir.mach0 w) := by
  have HC := Lib.hid h
  obtain ⟨vn, vg, vo, rfl, -⟩ := h
  have hb0 := bel_new w (.cells #[.int .i64 c.ins, vn, vg, vo] 26)
  have hb00 := bel_new (w.alloc (.cells #[.int .i64 c.ins, vn, vg, vo] 26)) (.cells #[.int .i64 0, .slice none 0 0, .slice none 0 0] 40)
  have B0 := Lib.hid (hb0.trans (hb00.mono hb0.size))
  have PC := Lib.hid ((PCells.boxed w c.ins vn vg vo 26).below hb00)
  have hsz : ((w.alloc (.cells #[.int .i64 c.ins, vn, vg, vo] 26)).alloc (.cells #[.int .i64 0, .slice none 0 0, .slice none 0 0] 40)).heap.size = w.heap.size + 2 := by simp
  have hR : ((w.alloc (.cells #[.int .i64 c.ins, vn, vg, vo] 26)).alloc (.cells #[.int .i64 0, .slice none 0 0, .slice none 0 0] 40)).heap[w.heap.size + 1]? = some (.cells #[.int .i64 0, .slice none 0 0, .slice none 0 0] 40 (0, 0)) := by
    have := heap_alloc_new (w.alloc (.cells #[.int .i64 c.ins, vn, vg, vo] 26)) (.cells #[.int .i64 0, .slice none 0 0, .slice none 0 0] 40)
    rwa [World.size_alloc] at this
  have HRes := Lib.hid hR
  obtain ⟨z, p0, p1, p2, p3⟩ := PC.out
  have HV := Lib.hid (implValid_any _ _ _ (HC.out.below B0.out))
  rw [hv] at HV
  clear hv HC hb0 hb00 hR
  go_enter Try.func14, Try.ntmps14
  go_wp2_with fail
  generalize (w.alloc (.cells #[.int .i64 c.ins, vn, vg, vo] 26)).alloc (.cells #[.int .i64 0, .slice none 0 0, .slice none 0 0] 40) = W at *
  refine HV.out.mono ?_
  rintro e w1 ⟨rfl, hb1⟩
  have B1 := Lib.hid (B0.out.trans (hb1.mono B0.out.size))
  have hR1 := (hb1.block _ (by omega)).trans HRes.out
  have o0 := blk_cell hR1 0
  have o1 := blk_cell hR1 1
  have o2 := blk_cell hR1 2
  have b0 := blk_free hR1 0
  have b1 := blk_free hR1 1
  have b2 := blk_free hR1 2
  simp at o0 o1 o2
  have z1 := hb1.size
  clear hb1 hR1 p0 p1 p2 p3 z HV HRes PC
  go_wp2_with fail
  refine bodyPost_ret (v := .agg #[.int .i64 0, .slice none 0 0, .slice none 0 0]) (by simp [results, Try.results14, go_sem, o0, o1, o2]) rfl ⟨_, rfl, ⟨_, _, fun _ => False, fun _ => False, rfl, fun g h => h.elim, fun g h => h.elim, fun g h => h.elim, OwnSE.nil _ _ _ _ _ _, OwnSE.nil _ _ _ _ _ _⟩, ((B1.out.setCell (by simp only; omega) _).setCell (by simp only; omega) _).setCell (by simp only; omega) _⟩
theorem specMof_noF (v : Value) (c : Cz) (w : World) (h : CircAt w v c) (hv : Cir.valid c = false) :
    Calls Try.prog 16 #[v] w (ReadMachF Cir.mach0 w) := by
  have HC := Lib.hid h
  obtain ⟨vn, vg, vo, rfl, -⟩ := h
  have hb0 := bel_new w (.cells #[.int .i64 c.ins, vn, vg, vo] 26)
  have hb00 := bel_new (w.alloc (.cells #[.int .i64 c.ins, vn, vg, vo] 26)) (.cells #[.int .i64 0, .slice none 0 0, .slice none 0 0] 40)
  have B0 := Lib.hid (hb0.trans (hb00.mono hb0.size))
  have PC := Lib.hid ((PCells.boxed w c.ins vn vg vo 26).below hb00)
  have hsz : ((w.alloc (.cells #[.int .i64 c.ins, vn, vg, vo] 26)).alloc (.cells #[.int .i64 0, .slice none 0 0, .slice none 0 0] 40)).heap.size = w.heap.size + 2 := by simp
  have hR : ((w.alloc (.cells #[.int .i64 c.ins, vn, vg, vo] 26)).alloc (.cells #[.int .i64 0, .slice none 0 0, .slice none 0 0] 40)).heap[w.heap.size + 1]? = some (.cells #[.int .i64 0, .slice none 0 0, .slice none 0 0] 40 (0, 0)) := by
    have := heap_alloc_new (w.alloc (.cells #[.int .i64 c.ins, vn, vg, vo] 26)) (.cells #[.int .i64 0, .slice none 0 0, .slice none 0 0] 40)
    rwa [World.size_alloc] at this
  have HRes := Lib.hid hR
  obtain ⟨z, p0, p1, p2, p3⟩ := PC.out
  have HV := Lib.hid (specValid_any _ _ _ (HC.out.below B0.out))
  rw [hv] at HV
  clear hv HC hb0 hb00 hR
  go_enter Try.func16, Try.ntmps16
  go_wp2_with fail
  generalize (w.alloc (.cells #[.int .i64 c.ins, vn, vg, vo] 26)).alloc (.cells #[.int .i64 0, .slice none 0 0, .slice none 0 0] 40) = W at *
  refine HV.out.mono ?_
  rintro e w1 ⟨rfl, hb1⟩
  have B1 := Lib.hid (B0.out.trans (hb1.mono B0.out.size))
  have hR1 := (hb1.block _ (by omega)).trans HRes.out
  have o0 := blk_cell hR1 0
  have o1 := blk_cell hR1 1
  have o2 := blk_cell hR1 2
  have b0 := blk_free hR1 0
  have b1 := blk_free hR1 1
  have b2 := blk_free hR1 2
  simp at o0 o1 o2
  have z1 := hb1.size
  clear hb1 hR1 p0 p1 p2 p3 z HV HRes PC
  go_wp2_with fail
  refine bodyPost_ret (v := .agg #[.int .i64 0, .slice none 0 0, .slice none 0 0]) (by simp [results, Try.results16, go_sem, o0, o1, o2]) rfl ⟨⟨_, rfl, ⟨_, _, rfl, SSIn.nil _ _ _, SSIn.nil _ _ _⟩⟩, ((B1.out.setCell (by simp only; omega) _).setCell (by simp only; omega) _).setCell (by simp only; omega) _⟩
theorem implMof_any (v : Value) (c : Cz) (w : World) (h : CircAt w v c) : Calls Try.prog 14 #[v] w (OwnMachR (Cir.machI c) w) := by
  cases hv : Cir.valid c
  · have hr : Cir.machI c = Cir.mach0 := by unfold Cir.machI; rw [hv]; rfl
    rw [hr]
    exact implMof_no v c w h hv
  · obtain ⟨d1, d2⟩ := Cir.nat_ok hv
    have hr : Cir.machI c = Cir.machN (Cir.nat c) := by unfold Cir.machI; rw [hv]; rfl
    rw [hr]
    exact implMof_ok v (Cir.nat c) w (by rw [← d1]; exact h) d2 (by rw [← d1]; exact hv)
theorem specMof_anyF (v : Value) (c : Cz) (w : World) (h : CircAt w v c) : Calls Try.prog 16 #[v] w (ReadMachF (Cir.machI c) w) := by
  cases hv : Cir.valid c
  · have hr : Cir.machI c = Cir.mach0 := by unfold Cir.machI; rw [hv]; rfl
    rw [hr]
    exact specMof_noF v c w h hv
  · obtain ⟨d1, d2⟩ := Cir.nat_ok hv
    have hr : Cir.machI c = Cir.machN (Cir.nat c) := by unfold Cir.machI; rw [hv]; rfl
    rw [hr]
    exact specMof_okF v (Cir.nat c) w (by rw [← d1]; exact h) d2 (by rw [← d1]; exact hv)
theorem specMof_any (v : Value) (c : Cz) (w : World) (h : CircAt w v c) : Calls Try.prog 16 #[v] w (ReadMach (Cir.machI c) w) :=
  (specMof_anyF v c w h).mono fun _ _ h => h.read
end Go.Proofs.Ytdgminjbgjbamaa

namespace Go.Proofs.Ytdgminjbgjbamaa
open Go.RowKit
set_option maxRecDepth 100000
/-! What laws do with slices of slices of booleans. -/
theorem info_boolss : (Try.prog.info? 64).map (fun i => (i.zero, i.size, i.bytes)) = some (some (.slice none 0 0), 1, 24) := by kernel_rfl
def OwnBoolSS (B T : Nat) (w : World) (v : Value) (xss : List (List Bool)) : Prop := OwnSS bools 64 4 B T w v xss
theorem take_eq_getB {α : Type} {xs ys : List α} {k : Nat} {x : α} (h : xs.take k = ys.take k) (hx : xs[k]? = some x) (hy : ys[k]? = some x) : xs.take (k + 1) = ys.take (k + 1) := by
  rw [take_snoc hx, take_snoc hy, h]
end Go.Proofs.Ytdgminjbgjbamaa

namespace Go.Proofs.Ytdgminjbgjbamaa
open Go.RowKit
set_option maxRecDepth 100000
/-! Laws' comparisons of rows and of machines. -/
theorem sameIntRows_same (v v2 : Value) (xss : List (List Int)) (w : World) (h : SSAt ints w v xss) (h2 : SSAt ints w v2 xss) :
    Calls Try.prog 49 #[v, v2] w fun e w' => e = .returned (.bool true) ∧ Below w.heap.size w w' := by
  obtain ⟨A, c, hv, hc, hcm⟩ := h.shape
  obtain ⟨A2, c2, hv2, hc2, hcm2⟩ := h2.shape
  subst hv hv2
  unfold maxLen at hcm hcm2
  have he1 : ((xss.length : Int) != (xss.length : Int)) = false := by simp
  go_enter Try.func49, Try.ntmps49
  go_wp2
  go_loopw [5] (fun i wr => ∃ (k : Nat), k ≤ xss.length ∧ i = .int .i64 k ∧ Below w.heap.size w wr)
    (fun i _ => xss.length - (intOf i).toNat)
  case atStart => exact ⟨0, Nat.zero_le _, rfl, Below.refl _ _⟩
  case round =>
    obtain ⟨k, hk, rfl, hd⟩ := hrel
    by_cases hlt : k < xss.length
    · obtain ⟨x, hx⟩ := at_some hlt
      obtain ⟨b, o, B, m, rfl, hbl, hs1, -, -, hr1⟩ := ss_open h hd hx
      obtain ⟨b2, o2, B2, m2, rfl, hbl2, ht1, -, -, hr2⟩ := ss_open h2 hd hx
      have HR1 := Lib.hid (show IntsAt wr (.slice B x.length m) x from hr1)
      have HR2 := Lib.hid (show IntsAt wr (.slice B2 x.length m2) x from hr2)
      have HC : Hid (∀ n : GW wr, Calls Try.prog 64 #[.slice B x.length m, .slice B2 x.length m2] (gw n) fun e w' => e = .returned (.bool true) ∧ Below (gw n).heap.size (gw n) w') := Lib.hid fun n => sameInts_same _ _ x (gw n) (Row.below HR1.out (gw_below n)) (Row.below HR2.out (gw_below n))
      have Hd := Lib.hid hd
      have hz := hd.size
      have g1 := gw_cell hs1 (by simp only; omega)
      have g3 := gw_cell ht1 (by simp only; omega)
      clear h h2 hd hs1 ht1 hx hr1 hr2
      go_wp2
      refine wp_region_grow (by kernel_rfl) (by kernel_rfl) ?_
      repeat (go_big_quiet_step ((go_at_call 64; exact grow_call (HC.out _))))
      refine wpQuiet_nil ?_
      intro _ hw'
      obtain ⟨nq, hw''⟩ := hw'
      subst hw''
      have hgq := gw_below nq
      generalize gw nq = wq at *
      clear nq
      clear g1 g3
      go_wp2_with fail
      go_roundw
      case rel => exact ⟨k + 1, by omega, by go_num, Hd.out.trans (hgq.mono hz)⟩
      case measure => simp [intOf] <;> omega
    · go_wp2
      go_ret
      exact ⟨rfl, hd⟩
theorem sameMachine_same (v v2 : Value) (m : Mz) (w : World) (h : MachAt w v m) (h2 : MachAt w v2 m) :
    Calls Try.prog 15 #[v, v2] w fun e w' => e = .returned (.bool true) ∧ Below w.heap.size w w' := by
  obtain ⟨vn, vo, rfl, n1, o1⟩ := h
  obtain ⟨vn2, vo2, rfl, n2, o2⟩ := h2
  have hb1 := bel_alloc w (.cells #[.int .i64 m.ins, vn, vo] 40)
  have hb2 := bel_alloc (w.alloc (.cells #[.int .i64 m.ins, vn, vo] 40)) (.cells #[.int .i64 m.ins, vn2, vo2] 40)
  have B0 := Lib.hid (hb1.trans (hb2.mono hb1.size))
  have PA := Lib.hid ((MCells.boxed w m.ins vn vo 40).below hb2)
  have PB := Lib.hid (MCells.boxed (w.alloc (.cells #[.int .i64 m.ins, vn, vo] 40)) m.ins vn2 vo2 40)
  have hs : (w.alloc (.cells #[.int .i64 m.ins, vn, vo] 40)).heap.size = w.heap.size + 1 := by simp
  rw [hs] at PB
  have N1 := Lib.hid (n1.below B0.out)
  have N2 := Lib.hid (n2.below B0.out)
  have O1 := Lib.hid (o1.below B0.out)
  have O2 := Lib.hid (o2.below B0.out)
  obtain ⟨za, a0, a1, a2⟩ := PA.out
  obtain ⟨zb, b0, b1, b2⟩ := PB.out
  have he : (m.ins == m.ins) = true := by simp
  clear n1 n2 o1 o2 hb1 hb2 hs
  go_enter Try.func15, Try.ntmps15
  go_wp2_with fail
  generalize (w.alloc (.cells #[.int .i64 m.ins, vn, vo] 40)).alloc (.cells #[.int .i64 m.ins, vn2, vo2] 40) = W at *
  refine (sameIntRows_same _ _ _ _ N1.out N2.out).mono ?_
  rintro e w1 ⟨rfl, hb1⟩
  have B1 := Lib.hid (B0.out.trans (hb1.mono B0.out.size))
  have O1 := Lib.hid (O1.out.below hb1)
  have O2 := Lib.hid (O2.out.below hb1)
  have PA := Lib.hid (PA.out.below hb1)
  have PB := Lib.hid (PB.out.below hb1)
  clear hb1 za a0 a1 a2 zb b0 b1 b2
  obtain ⟨za, a0, a1, a2⟩ := PA.out
  obtain ⟨zb, b0, b1, b2⟩ := PB.out
  go_wp2_with fail
  refine (sameIntRows_same _ _ _ _ O1.out O2.out).mono ?_
  rintro e w2 ⟨rfl, hb2⟩
  have B2 := Lib.hid (B1.out.trans (hb2.mono B1.out.size))
  clear hb2 za a0 a1 a2 zb b0 b1 b2
  go_wp2_with fail
  go_ret
  exact ⟨rfl, B2.out⟩
def TMachL (m : Mz) : Ty := fun w v => MachAt w v m
theorem stb_machL (m : Mz) : Stb (fun _ => False) (TMachL m) := fun _ _ _ h ho => h.below (only_below ho)
/-! Circuits without latches. -/
namespace Cir
theorem bfs_zero {d : Ci} (h : d.next = []) : reach d = [0] := by
  have hn : ∀ s x, nextOf d s x = 0 := fun s x => by unfold nextOf; rw [h]; rfl
  have hp : ∀ j, pushes d 0 j [0] = [0] := fun j => by
    induction j with
    | zero => rfl
    | succ j ih => rw [pushes_succ, ih, hn]; exact push_yes (by rw [memB_zero]; rfl)
  have h1 : reach d = bfs d 8 1 (pushes d 0 (2 ^ d.ins) [0]) := bfs_step (f := 8) (k := 0) (l := [0]) (s := 0) rfl
  rw [h1, hp]
  exact bfs_end (f := 8) (l := [0])
theorem machN_zero {d : Ci} (h : d.next = []) : (machN d).next.length = 1 ∧ (machN d).out = [nats ((List.range (2 ^ d.ins)).map fun x => num (lits (vals d [] (bits x d.ins)) d.outs))] := by
  unfold machN
  rw [bfs_zero h]
  refine ⟨rfl, ?_⟩
  show [nats (rowO d 0)] = _
  unfold rowO outsOf
  rw [h]
  rfl
theorem machI_ok {c : Cz} (h : valid c = true) : machI c = machN (nat c) := by unfold machI; rw [h]; rfl
theorem machI_no {c : Cz} (h : valid c = false) : machI c = { ins := 0, next := [], out := [] } := by unfold machI; rw [h]; rfl
end Cir
theorem nat_next0 (c : Cz) (h : c.next = []) : (Cir.nat c).next = [] := by unfold Cir.nat; rw [h]; rfl
theorem rowG_get {N j : Nat} (h : j < N) (f : Nat → Nat) : (nats ((List.range N).map f))[j]? = some ((f j : Nat) : Int) := by
  unfold nats
  rw [List.getElem?_map, List.getElem?_map, List.getElem?_range h]
  rfl
end Go.Proofs.Ytdgminjbgjbamaa

namespace Go.Proofs.Ytdgminjbgjbamaa
/-! Merging equivalent variables, plainly. -/
namespace Cir
/-- The values of a variable for all assignments. -/
def colV (c : Ci) (v : Nat) : List Bool := (List.range (2 ^ (c.ins + c.next.length))).map fun x => (vals c (bits (x / 2 ^ c.ins) c.next.length) (bits x c.ins)).getD v false
/-- The number of the first n places where two lists agree. -/
def eqs (a b : List Bool) : Nat → Nat
  | 0 => 0
  | n + 1 => eqs a b n + (if a.getD n false = b.getD n false then 1 else 0)
def cmpC (a b : List Bool) : Int := if eqs a b a.length = a.length then 1 else if eqs a b a.length = 0 then -1 else 0
/-- What stands for literal l, if variable u does. -/
def swLit (c : Ci) (l u : Nat) : Option Nat := if cmpC (colV c u) (colV c (l / 2)) = 1 then some (2 * u + l % 2) else if cmpC (colV c u) (colV c (l / 2)) = -1 then some (2 * u + 1 - l % 2) else none
def sweepU (c : Ci) (l : Nat) : Nat := ((List.range (l / 2)).findSome? (swLit c l)).getD l
def mapCi (u : Nat → Nat) (c : Ci) : Ci := { ins := c.ins, next := c.next.map u, gates := c.gates.map fun g => (u g.1, u g.2), outs := c.outs.map u }
def sweepC (c : Ci) : Ci := mapCi (sweepU c) c
def sweepI (c : Ci) : Ci := optI (sweepC (optI c))
theorem eqs_le (a b : List Bool) : ∀ n, eqs a b n ≤ n
  | 0 => Nat.le_refl _
  | n + 1 => by
    have := eqs_le a b n
    unfold eqs
    split <;> omega
theorem eqs_all {a b : List Bool} : ∀ {n : Nat}, eqs a b n = n → ∀ i, i < n → a.getD i false = b.getD i false
  | 0, _, i, h => absurd h (Nat.not_lt_zero _)
  | n + 1, he, i, hi => by
    have hl := eqs_le a b n
    unfold eqs at he
    split at he
    · rename_i h
      by_cases e : i = n
      · rw [e]; exact h
      · have he2 : eqs a b n = n := by omega
        exact eqs_all he2 i (by omega)
    · omega
theorem eqs_none {a b : List Bool} : ∀ {n : Nat}, eqs a b n = 0 → ∀ i, i < n → a.getD i false ≠ b.getD i false
  | 0, _, i, h => absurd h (Nat.not_lt_zero _)
  | n + 1, he, i, hi => by
    unfold eqs at he
    split at he
    · omega
    · rename_i h
      by_cases e : i = n
      · rw [e]; exact h
      · have he2 : eqs a b n = 0 := by omega
        exact eqs_none he2 i (by omega)
theorem colV_length (c : Ci) (v : Nat) : (colV c v).length = 2 ^ (c.ins + c.next.length) := by simp [colV]
/-- Every assignment has its number. -/
theorem colV_at (c : Ci) (v : Nat) {st inp : List Bool} (l1 : inp.length = c.ins) (l2 : st.length = c.next.length) : ∃ x, x < 2 ^ (c.ins + c.next.length) ∧ ∀ v, (colV c v).getD x false = (vals c st inp).getD v false := by
  have h1 := num_lt inp
  have h2 := num_lt st
  rw [l1] at h1
  rw [l2] at h2
  have hx : num inp + 2 ^ c.ins * num st < 2 ^ (c.ins + c.next.length) := by
    rw [Nat.pow_add]
    calc num inp + 2 ^ c.ins * num st < 2 ^ c.ins + 2 ^ c.ins * num st := by omega
      _ = 2 ^ c.ins * (num st + 1) := by rw [Nat.mul_add, Nat.mul_one, Nat.add_comm]
      _ ≤ 2 ^ c.ins * 2 ^ c.next.length := Nat.mul_le_mul_left _ h2
  refine ⟨num inp + 2 ^ c.ins * num st, hx, fun v => ?_⟩
  unfold colV
  rw [List.getD_eq_getElem?_getD, List.getElem?_map, List.getElem?_range hx, Option.map_some, Option.getD_some]
  have e1 : (num inp + 2 ^ c.ins * num st) / 2 ^ c.ins = num st := by
    rw [Nat.add_mul_div_left _ _ (Nat.pow_pos (by omega)), Nat.div_eq_of_lt h1, Nat.zero_add]
  have e2 : bits (num inp + 2 ^ c.ins * num st) c.ins = inp := by
    have e3 : bits (num inp + 2 ^ c.ins * num st) c.ins = bits (num inp) c.ins := by
      unfold bits
      refine List.map_congr_left fun i hi => ?_
      rw [Nat.add_comm, Nat.testBit_two_pow_mul_add _ h1, if_pos (List.mem_range.1 hi)]
    rw [e3]
    exact bits_numL l1
  rw [e1, e2, bits_numL l2]
theorem cmp_one {c : Ci} {u v : Nat} (h : cmpC (colV c u) (colV c v) = 1) {st inp : List Bool} (l1 : inp.length = c.ins) (l2 : st.length = c.next.length) : (vals c st inp).getD u false = (vals c st inp).getD v false := by
  obtain ⟨x, hx, hv⟩ := colV_at c u l1 l2
  unfold cmpC at h
  split at h
  · rename_i he
    have := eqs_all he x (by rw [colV_length]; exact hx)
    rwa [hv u, hv v] at this
  · split at h <;> exact absurd h (by decide)
theorem cmp_neg {c : Ci} {u v : Nat} (h : cmpC (colV c u) (colV c v) = -1) {st inp : List Bool} (l1 : inp.length = c.ins) (l2 : st.length = c.next.length) : (vals c st inp).getD u false = !(vals c st inp).getD v false := by
  obtain ⟨x, hx, hv⟩ := colV_at c u l1 l2
  unfold cmpC at h
  split at h
  · exact absurd h (by decide)
  · split at h
    · rename_i he
      have := eqs_none he x (by rw [colV_length]; exact hx)
      rw [hv u, hv v] at this
      cases h1 : (vals c st inp).getD u false <;> cases h2 : (vals c st inp).getD v false <;> simp_all
    · exact absurd h (by decide)
theorem sweepU_cases (c : Ci) (l : Nat) : sweepU c l = l ∨ ∃ u, u < l / 2 ∧ ((cmpC (colV c u) (colV c (l / 2)) = 1 ∧ sweepU c l = 2 * u + l % 2) ∨ (cmpC (colV c u) (colV c (l / 2)) = -1 ∧ sweepU c l = 2 * u + 1 - l % 2)) := by
  unfold sweepU
  cases h : (List.range (l / 2)).findSome? (swLit c l) with
  | none => exact .inl rfl
  | some y =>
    right
    obtain ⟨u, hu, hy⟩ := List.exists_of_findSome?_eq_some h
    refine ⟨u, List.mem_range.1 hu, ?_⟩
    unfold swLit at hy
    split at hy
    · rename_i h1
      exact .inl ⟨h1, (Option.some.inj hy).symm⟩
    · split at hy
      · rename_i h1
        exact .inr ⟨h1, (Option.some.inj hy).symm⟩
      · cases hy
theorem sweepU_le (c : Ci) (l : Nat) : sweepU c l / 2 ≤ l / 2 := by
  rcases sweepU_cases c l with h | ⟨u, hu, ⟨_, h⟩ | ⟨_, h⟩⟩
  · rw [h]; exact Nat.le_refl _
  · rw [h]; omega
  · rw [h]; omega
theorem sweepU_lt (c : Ci) {l N : Nat} (h : l < 2 * N) : sweepU c l < 2 * N := by
  have := sweepU_le c l
  omega
theorem sweepU_val (c : Ci) (l : Nat) {st inp : List Bool} (l1 : inp.length = c.ins) (l2 : st.length = c.next.length) : lit (vals c st inp) (sweepU c l) = lit (vals c st inp) l := by
  rcases sweepU_cases c l with h | ⟨u, hu, ⟨hc, h⟩ | ⟨hc, h⟩⟩
  · rw [h]
  · rw [h]
    have := cmp_one hc l1 l2
    unfold lit
    rw [show (2 * u + l % 2) / 2 = u from by omega, show (2 * u + l % 2) % 2 = l % 2 from by omega, this]
  · rw [h]
    have := cmp_neg hc l1 l2
    unfold lit
    rw [show (2 * u + 1 - l % 2) / 2 = u from by omega, this]
    rcases Nat.mod_two_eq_zero_or_one l with e | e
    · rw [e, show (2 * u + 1 - 0) % 2 = 1 from by omega]; cases (vals c st inp).getD (l / 2) false <;> rfl
    · rw [e, show (2 * u + 1 - 1) % 2 = 0 from by omega]; cases (vals c st inp).getD (l / 2) false <;> rfl
theorem sweepC_ok {c : Ci} (hc : Ok c) : Ok (sweepC c) := by
  have hn : nfirst (sweepC c) = nfirst c := by simp [nfirst, sweepC, mapCi]
  have hv : nvars (sweepC c) = nvars c := by unfold nvars; rw [hn]; simp [sweepC, mapCi]
  refine ⟨hc.ins, by simpa [sweepC, mapCi] using hc.nexts, by simpa [sweepC, mapCi] using hc.gatess, by simpa [sweepC, mapCi] using hc.outss, fun k g hg => ?_, fun l hl => ?_, fun l hl => ?_⟩
  · rw [hn]
    simp only [sweepC, mapCi, List.getElem?_map] at hg
    cases hk : c.gates[k]? with
    | none => rw [hk] at hg; cases hg
    | some g0 =>
      rw [hk] at hg
      have := Option.some.inj hg
      subst this
      have h0 := hc.gate k g0 hk
      exact ⟨sweepU_lt c h0.1, sweepU_lt c h0.2⟩
  · rw [hv]
    obtain ⟨a, ha, rfl⟩ := List.mem_map.1 hl
    exact sweepU_lt c (hc.next a ha)
  · rw [hv]
    obtain ⟨a, ha, rfl⟩ := List.mem_map.1 hl
    exact sweepU_lt c (hc.out a ha)
theorem sweepC_vals {c : Ci} (hc : Ok c) {st inp : List Bool} (l1 : inp.length = c.ins) (l2 : st.length = c.next.length) : vals (sweepC c) st inp = vals c st inp := by
  have hall : ∀ k, k ≤ c.gates.length → evalG ((sweepC c).gates.take k) (false :: (inp ++ st)) = evalG (c.gates.take k) (false :: (inp ++ st)) := fun k => by
    induction k with
    | zero => intro _; rfl
    | succ k ih =>
      intro hk
      have hgk : c.gates[k]? = some (c.gates[k]'hk) := List.getElem?_eq_getElem hk
      have hg2 : (sweepC c).gates[k]? = some (sweepU c (c.gates[k]'hk).1, sweepU c (c.gates[k]'hk).2) := by
        simp only [sweepC, mapCi, List.getElem?_map, hgk]; rfl
      have h0 := hc.gate k _ hgk
      rw [evalG_take_snoc hgk, evalG_take_snoc hg2, ih (by omega)]
      congr 2
      have len : (evalG (c.gates.take k) (false :: (inp ++ st))).length = nfirst c + k := by
        rw [evalG_length, first_len l1 l2, List.length_take]
        omega
      have e : ∀ l, l < 2 * (nfirst c + k) → lit (evalG (c.gates.take k) (false :: (inp ++ st))) (sweepU c l) = lit (evalG (c.gates.take k) (false :: (inp ++ st))) l := fun l hl => by
        have hv := sweepU_val c l l1 l2
        have hs := sweepU_le c l
        have ev : vals c st inp = evalG (c.gates.drop k) (evalG (c.gates.take k) (false :: (inp ++ st))) := by
          rw [← evalG_append, List.take_append_drop]; rfl
        rw [ev] at hv
        generalize evalG (c.gates.take k) (false :: (inp ++ st)) = V at *
        rw [lit_evalG _ (show sweepU c l / 2 < V.length by omega), lit_evalG _ (show l / 2 < V.length by omega)] at hv
        exact hv
      unfold gval
      rw [e _ h0.1, e _ h0.2]
  have h := hall c.gates.length (Nat.le_refl _)
  have hl : (sweepC c).gates.length = c.gates.length := by simp [sweepC, mapCi]
  rw [List.take_length, ← hl, List.take_length] at h
  exact h
theorem sweepC_same {c : Ci} (hc : Ok c) : SameStep c (sweepC c) := by
  refine ⟨rfl, by simp [sweepC, mapCi], by simp [sweepC, mapCi], fun st inp l1 l2 => ?_⟩
  rw [sweepC_vals hc l1 l2]
  refine ⟨?_, ?_⟩
  · unfold lits
    rw [show (sweepC c).next = c.next.map (sweepU c) from rfl, List.map_map]
    exact List.map_congr_left fun l _ => sweepU_val c l l1 l2
  · unfold lits
    rw [show (sweepC c).outs = c.outs.map (sweepU c) from rfl, List.map_map]
    exact List.map_congr_left fun l _ => sweepU_val c l l1 l2
theorem sweepI_ok {c : Ci} (hc : Ok c) : Ok (sweepI c) := optI_ok (sweepC_ok (optI_ok hc))
theorem sweepI_same {c : Ci} (hc : Ok c) : SameStep c (sweepI c) := (optI_same hc).trans ((sweepC_same (optI_ok hc)).trans (optI_same (sweepC_ok (optI_ok hc))))
end Cir
end Go.Proofs.Ytdgminjbgjbamaa

namespace Go.Proofs.Ytdgminjbgjbamaa
open Go.RowKit
set_option maxRecDepth 100000
set_option maxHeartbeats 8000000
/-! The variables that something reaches, by the program. -/
theorem tdiv_two (l : Nat) : (l : Int).tdiv 2 = ((l / 2 : Nat) : Int) := by rw [Int.tdiv_eq_ediv_of_nonneg (by omega)]; omega
theorem bools_set (V : List Bool) (i : Nat) (b : Bool) : (bools V).set i (.bool b) = bools (V.set i b) := by
  unfold bools
  rw [List.map_set]
theorem rootMark_snoc {n : Nat} {ls : List Nat} {k l : Nat} (h : ls[k]? = some l) : Cir.rootMark n (ls.take (k + 1)) = (Cir.rootMark n (ls.take k)).set (l / 2) true := by
  unfold Cir.rootMark
  rw [List.take_add_one, h, List.foldl_append]
  rfl
theorem reached_any (g : Nat) (d : Ci) (w : World) (h : PCirc w g (Cir.toCz d)) (hd : Cir.Ok d) :
    Calls Try.prog 90 #[.pointer (some ⟨g, 0, none⟩)] w (OwnBools (Cir.reached d) w) := by
  have s1 := hd.ins
  have s2 := hd.nexts
  have s3 := hd.gatess
  have s4 := hd.outss
  have HGt := Lib.hid hd.gate
  have hnl : (Cir.toCz d).next.length = d.next.length := List.length_map _
  have hgl : (Cir.toCz d).gates.length = d.gates.length := List.length_map _
  have hol : (Cir.toCz d).outs.length = d.outs.length := List.length_map _
  obtain ⟨n, hn⟩ : ∃ n, n = Cir.nvars d := ⟨_, rfl⟩
  have hnd : n = 1 + d.ins + d.next.length + d.gates.length := hn
  have HLt : Hid (∀ l ∈ d.next ++ d.outs, l < 2 * n) := Lib.hid fun l hl => by
    rw [hn]
    rcases List.mem_append.1 hl with h | h
    · exact hd.next l h
    · exact hd.out l h
  have HV := vars_any g _ w h (by show (0 : Int) ≤ (d.ins : Int); omega) (by show (d.ins : Int) ≤ 100; omega) (by omega) (by omega)
  rw [Cir.vars_toCz, ← hn] at HV
  have Hv := Lib.hid HV
  have Hp := Lib.hid h
  have hroots : (Cir.toCz d).next ++ (Cir.toCz d).outs = (d.next ++ d.outs).map Int.ofNat := by
    rw [List.map_append]
    rfl
  have HRo : Hid (∀ w', PCirc w' g (Cir.toCz d) → Calls Try.prog 81 #[.pointer (some ⟨g, 0, none⟩)] w' (OwnInts ((d.next ++ d.outs).map Int.ofNat) w')) := Lib.hid fun w' hp => by
    rw [← hroots]
    exact roots_any g _ w' hp (by omega) (by omega)
  have hR0 : Cir.reached d = Cir.reachK (Cir.nfirst d) d.gates d.gates.length (Cir.rootMark n (d.next ++ d.outs)) := by rw [hn]; rfl
  have hRl := Cir.reached_length d
  rw [← hn] at hRl
  have HR0 := Lib.hid hR0
  have HRl := Lib.hid hRl
  generalize Cir.reached d = R at *
  have hLl : (d.next ++ d.outs).length ≤ 6 := by rw [List.length_append]; omega
  generalize d.next ++ d.outs = LS at *
  have hmk := run_make_row' (P := Try.prog) 64 4 (.bool false) 1 Try.underlying64 info_bool rfl .i64 .i64 n (by omega) (by omega)
  obtain ⟨vn, vg, vo, hg, c0, c1, c2, c3, r1, r2, r3⟩ := Hp.out
  obtain ⟨Ag, cg, hvg, hcg, hcmg⟩ := Row.shape r2
  rw [hgl] at hvg
  subst hvg
  rw [hgl] at hcg
  have C2 := Lib.hid c2
  have R2 : Hid (Row w 2 (.slice Ag d.gates.length cg) d.gates.length (cubes (Cir.toCz d).gates)) := Lib.hid (by have := r2; unfold CubesAt at this; rwa [hgl] at this)
  have Hgl := Lib.hid hgl
  have hnf : Cir.nfirst d ≤ 8 := by unfold Cir.nfirst; omega
  have hnn : n = Cir.nfirst d + d.gates.length := by unfold Cir.nfirst; omega
  have HPf : Hid (∀ w', Below w.heap.size w w' → Calls Try.prog 61 #[.pointer (some ⟨g, 0, none⟩)] w' fun e w'' => e = .returned (.int .i64 (Cir.nfirst d : Nat)) ∧ Below w'.heap.size w' w'') := Lib.hid fun w' hb => by
    have := firstGate_any g _ w' (Hp.out.below hb) (by show (0 : Int) ≤ (d.ins : Int); omega) (by show (d.ins : Int) ≤ 100; omega) (by show (List.map _ _).length ≤ 100; rw [List.length_map]; omega)
    rwa [Cir.first_toCz] at this
  generalize Cir.nfirst d = nf at *
  have Hnn := Lib.hid hnn
  have hnu : n ≤ 22 := by omega
  have hn0 : 0 < n := by omega
  have hnk : ∀ k, k < d.gates.length → nf + k < n := fun k hk => by omega
  have Hnk := Lib.hid hnk
  clear r1 r2 r3 c0 c1 c2 c3 HV h hd hroots hR0 hRl hnl hgl hol hn hnd hnn hnk
  go_enter Try.func90, Try.ntmps90
  go_wp2_with fail
  refine Hv.out.mono ?_
  rintro e w1 ⟨rfl, hb1⟩
  have hO0 : (w1.alloc (.cells (madeCells #[Value.bool false] n) 4)).ownsRow w1.heap.size 4 1 (.slice (some ⟨w1.heap.size, 0, none⟩) n n) n (bools (List.replicate n false)) := by
    have h := World.ownsRow_lit (base := w1.heap.size) (e := 4) (size := 1) w1 (madeCells #[Value.bool false] n) n (Nat.le_refl _) (by unfold maxLen; omega) (by simp [madeCells])
    have e : (madeCells #[Value.bool false] n).toList = bools (List.replicate n false) := by simp [madeCells, bools, Nat.mod_one, List.map_const']
    rwa [e] at h
  have hB2 : Below w.heap.size w (w1.alloc (.cells (madeCells #[Value.bool false] n) 4)) := hb1.alloc hb1.size _
  have hz1 := hb1.size
  go_wp2_with fail
  generalize w1.alloc (.cells (madeCells #[Value.bool false] n) 4) = W2 at *
  generalize w1.heap.size = gb at *
  have HO0 := Lib.hid hO0
  have HB2 := Lib.hid hB2
  clear hO0 hB2 hb1 hmk Hv
  refine (HRo.out W2 (Hp.out.below HB2.out)).mono ?_
  rintro e w3 ⟨vr, rfl, hor, hb3⟩
  obtain ⟨Ar, cr, hvr⟩ := slice_of_own hor
  subst hvr
  rw [List.length_map] at hor ⊢
  have Hor := Lib.hid (Row.of_own hor)
  have hrg : ∀ g', (Value.slice Ar LS.length cr).ownBlock = some g' → W2.heap.size ≤ g' := fun g' hg' => (hor.lt g' hg').1
  have Hrg := Lib.hid hrg
  have HOr := Lib.hid hor
  have hgbl : gb < W2.heap.size := by
    obtain ⟨g', c', e', h1, h2, h3, h4⟩ := own_open HO0.out hn0
    injection e' with e1
    injection e1 with e1
    injection e1 with e1
    omega
  have HO3 := Lib.hid (own_below HO0.out hb3)
  have HB3 := Lib.hid (HB2.out.trans (hb3.mono HB2.out.size))
  have hz3 := hb3.size
  clear hor hb3 hrg HRo HO0
  go_wp2_with fail
  go_loopw [13] (fun i wr => ∃ k : Nat, k ≤ LS.length ∧ i = .int .i64 k ∧ Hid (wr.ownsRow gb 4 1 (.slice (some ⟨gb, 0, none⟩) n n) n (bools (Cir.rootMark n (LS.take k)))) ∧ Hid (wr.ownsRow W2.heap.size 3 1 (.slice Ar LS.length cr) LS.length (ints (LS.map Int.ofNat))) ∧ Below w.heap.size w wr) (fun i _ => LS.length - (intOf i).toNat)
  case atStart => exact ⟨0, Nat.zero_le _, rfl, Lib.hid HO3.out, HOr, HB3.out⟩
  case round =>
    obtain ⟨k, hk, rfl, Ho, Hor, hb⟩ := hrel
    clear HO3 HB3 HOr HB2
    by_cases hlt : k < LS.length
    · obtain ⟨l, hl⟩ := at_some hlt
      have hl2 := HLt.out l (List.mem_of_getElem? hl)
      obtain ⟨b, o, x, rfl, hbl, hx, hs⟩ := ints_open (Row.of_own Hor.out) (Below.refl _ _) (by rw [List.length_map]) (i := k) (by rw [List.length_map]; exact hlt)
      have hxe : x = (l : Int) := by
        have h1 := hx.out
        rw [List.getElem?_map, hl] at h1
        exact (Option.some.inj h1).symm
      subst hxe
      have HS := Lib.hid (rootMark_snoc (n := n) hl)
      have hml := Cir.rootMark_length n (LS.take k)
      generalize Cir.rootMark n (LS.take k) = V at *
      have hq := tdiv_two l
      have hq2 : l / 2 < n := by omega
      have HSet := Lib.hid (bools_set V (l / 2) true)
      generalize l / 2 = q at *
      obtain ⟨u0, _, hd0, hf0⟩ := own_slot Ho.out (j := q) (by omega)
      have Hst := Lib.hid (Ho.out.stored q (.bool true))
      have hbz : b ≠ gb := fun e => by
        have := Hrg.out b rfl
        omega
      have HorS := Lib.hid (own_only Hor.out (Only.grown Hst.out.2 (fun k hk => hk)) (fun g' hg' e => by
        have h1 := Hrg.out g' hg'
        have h2 := Option.some.inj e
        omega))
      have Hb := Lib.hid hb
      have hwq : IntKind.i64.wrap (q : Int) = q := IntWalk.i64_in _ (by omega)
      clear hx hl hml hb
      go_wp2_with fail
      go_roundw
      case rel => exact ⟨k + 1, by omega, by go_num, Lib.hid (by rw [HS.out, ← HSet.out]; exact Hst.out.1), HorS, Hb.out.grown Hst.out.2 Hb.out.size (fun q hq => by have := Option.some.inj hq; omega)⟩
      case measure => simp [intOf]; omega
    · obtain rfl : k = LS.length := by omega
      rw [List.take_length] at Ho
      have HR1 := Lib.hid (show Cir.reachK nf d.gates d.gates.length (Cir.rootMark n LS) = R from HR0.out.symm)
      have HV0 := Lib.hid (Cir.rootMark_length n LS)
      generalize Cir.rootMark n LS = V0 at *
      have hb0 := hb.cell (p := ⟨g, 2, none⟩) hg
      have c2 := hb0.trans C2.out
      have Hb := Lib.hid hb
      clear hb hb0 hlt HR0 Hor
      have hwg : IntKind.i64.wrap ((d.gates.length : Int) - 1) = (d.gates.length : Int) - 1 := IntWalk.i64_in _ (by omega)
      go_wp2_with fail
      obtain ⟨W5, hW5⟩ : ∃ W, W = wr := ⟨_, rfl⟩
      subst hW5
      go_loopw [6] (fun i wr => ∃ (k : Nat) (V : List Bool) (j : Int), k ≤ d.gates.length ∧ i = .int .i64 j ∧ j = (k : Int) - 1 ∧ V.length = n ∧ Hid (Cir.reachK nf d.gates k V = R) ∧ Hid (wr.ownsRow gb 4 1 (.slice (some ⟨gb, 0, none⟩) n n) n (bools V)) ∧ Below w.heap.size w wr) (fun i _ => (intOf i + 1).toNat)
      case atStart => exact ⟨d.gates.length, V0, _, Nat.le_refl _, rfl, rfl, HV0.out, HR1, Ho, Hb.out⟩
      case round =>
        obtain ⟨k, V, j, hk, rfl, hj, hVl, HR, Ho, hb⟩ := hrel
        clear HR1 HV0
        cases k with
        | zero =>
          obtain rfl : j = -1 := by omega
          clear hj
          go_wp2_with fail
          go_ret
          have e : V = R := HR.out
          exact ⟨_, rfl, by rw [HRl.out, ← e]; exact own_mono Ho.out hz1, hb⟩
        | succ k =>
          obtain rfl : j = (k : Int) := by omega
          clear hj
          obtain ⟨gt, hgt⟩ := at_some (show k < d.gates.length by omega)
          obtain ⟨g1, g2⟩ := HGt.out k gt hgt
          have hgD : d.gates.getD k (0, 0) = gt := by rw [List.getD_eq_getElem?_getD, hgt, Option.getD_some]
          have hst : Cir.reachK nf d.gates k (Cir.reachStep nf d.gates k V) = R := HR.out
          have hsl := Cir.reachStep_length nf d.gates k V
          have hse : Cir.reachStep nf d.gates k V = if V.getD (nf + k) false then (V.set (gt.1 / 2) true).set (gt.2 / 2) true else V := by unfold Cir.reachStep; rw [hgD]
          have HSt := Lib.hid hst
          have hix : ((nf : Int) + (k : Int)).toNat = nf + k := by omega
          have hwk : IntKind.i64.wrap ((nf : Int) + (k : Int)) = (nf : Int) + (k : Int) := IntWalk.i64_in _ (by omega)
          have hwm : IntKind.i64.wrap ((k : Int) - 1) = (k : Int) - 1 := IntWalk.i64_in _ (by omega)
          have Hb := Lib.hid hb
          have Hgt := Lib.hid hgt
          have hj0 : (0 : Int) ≤ (k : Int) := by omega
          have hjd : decide ((k : Int) ≥ 0) = true := decide_eq_true hj0
          clear hst HR hgD hb hgt
          go_wp2_with fail
          refine (HPf.out _ Hb.out).mono ?_
          rintro e w9 ⟨rfl, hb9⟩
          have Hb9 := Lib.hid (Hb.out.trans (hb9.mono Hb.out.size))
          have Ho9 := Lib.hid (own_below Ho.out hb9)
          have hz9 := Hb9.out.size
          have hnk := Hnk.out k (by omega)
          have hsk : (bools V)[nf + k]? = some (.bool (V.getD (nf + k) false)) := by
            unfold bools
            rw [List.getElem?_map, List.getElem?_eq_getElem (by omega), List.getD_eq_getElem?_getD, List.getElem?_eq_getElem (by omega)]
            rfl
          obtain ⟨u0, hu0, hd0, hf0⟩ := own_slot Ho9.out (j := nf + k) (by omega)
          obtain rfl : u0 = .bool (V.getD (nf + k) false) := Option.some.inj (hu0.symm.trans hsk)
          clear hu0 hb9 hsk Ho
          cases hfl : V.getD (nf + k) false
          · rw [hfl] at hd0 hse
            rw [if_neg (by simp)] at hse
            rw [hse] at HSt
            clear hse hfl hsl
            go_wp2_with fail
            go_roundw
            case rel => exact ⟨k, V, _, by omega, rfl, rfl, hVl, HSt, Ho9, Hb9.out⟩
            case measure => simp [intOf] <;> omega
          · rw [hfl] at hd0 hse
            rw [if_pos rfl] at hse
            clear hfl
            have q0 := (Hb9.out.cell (p := ⟨g, 2, none⟩) hg).trans C2.out
            obtain ⟨b, o, x, rfl, hbl, hx, hs1, hs2⟩ := cubes_open R2.out Hb9.out Hgl.out.symm (i := k) (by rw [Hgl.out]; omega)
            have hxe : x = ((gt.1 : Int), (gt.2 : Int)) := by
              have h1 := hx.out
              unfold Cir.toCz at h1
              simp only [List.getElem?_map, Hgt.out] at h1
              exact (Option.some.inj h1).symm
            subst hxe
            obtain ⟨G1, hG1⟩ : ∃ G1, G1 = gt.1 := ⟨_, rfl⟩
            obtain ⟨G2, hG2⟩ : ∃ G2, G2 = gt.2 := ⟨_, rfl⟩
            rw [← hG1] at g1 hs1 hse
            rw [← hG2] at g2 hs2 hse
            have t1 := tdiv_two G1
            have t2 := tdiv_two G2
            have p1 : G1 / 2 < n := by omega
            have p2 : G2 / 2 < n := by omega
            have HG := Lib.hid (And.intro hG1 hG2)
            clear hG1 hG2
            generalize G1 / 2 = Q1 at *
            generalize G2 / 2 = Q2 at *
            have hwq1 : IntKind.i64.wrap (Q1 : Int) = Q1 := IntWalk.i64_in _ (by omega)
            have hwq2 : IntKind.i64.wrap (Q2 : Int) = Q2 := IntWalk.i64_in _ (by omega)
            obtain ⟨u1, _, hd1, hf1⟩ := own_slot Ho9.out (j := Q1) (by omega)
            have hst1 := Ho9.out.stored Q1 (.bool true)
            rw [bools_set] at hst1
            have hb10 := Hb9.out.grown hst1.2 Hb9.out.size (fun q hq => by have := Option.some.inj hq; omega)
            obtain ⟨W10, hW10⟩ : ∃ W, w9.setCell ⟨gb, Q1, none⟩ (.bool true) = W := ⟨_, rfl⟩
            rw [hW10] at hst1 hb10
            obtain ⟨u2, _, hd2, hf2⟩ := own_slot hst1.1 (j := Q2) (by omega)
            have hst2 := hst1.1.stored Q2 (.bool true)
            rw [bools_set] at hst2
            have q1 := (hb10.cell (p := ⟨g, 2, none⟩) hg).trans C2.out
            obtain ⟨b', o', x', hbe, hbl', hx', hs1', hs2'⟩ := cubes_open R2.out hb10 Hgl.out.symm (i := k) (by rw [Hgl.out]; omega)
            injection hbe with hbe
            injection hbe with hb1 hb2
            subst hb1 hb2
            have hxe' : x' = ((gt.1 : Int), (gt.2 : Int)) := by
              have h1 := hx'.out
              unfold Cir.toCz at h1
              simp only [List.getElem?_map, Hgt.out] at h1
              exact (Option.some.inj h1).symm
            subst hxe'
            rw [← HG.out.2] at hs2'
            have HSt1 := Lib.hid hst2
            have Hb10 := Lib.hid hb10
            have Hse := Lib.hid hse
            have hz10 := hb10.size
            clear hx hx' hs1' hb10 hst1 hst2 hse hbl hbl'
            go_wp2_with fail
            go_roundw
            case rel => exact ⟨k, (V.set Q1 true).set Q2 true, _, by omega, rfl, rfl, by simp [hVl], by rw [Hse.out] at HSt; exact HSt, Lib.hid HSt1.out.1, Hb10.out.grown HSt1.out.2 Hb10.out.size (fun q hq => by have := Option.some.inj hq; omega)⟩
            case measure => simp [intOf] <;> omega
end Go.Proofs.Ytdgminjbgjbamaa

namespace Go.Proofs.Ytdgminjbgjbamaa
open Go.RowKit
set_option maxRecDepth 100000
/-! Drawn regions: a call of a function value. -/
section
variable {S : RS} {Fin : List Ty → Prop} {o : Oper} {l : List Oper} {i : Nat} {τs : List Ty}
theorem rs_callV (hO : S.Ok) (hid : i ≠ S.d ∨ ∀ ov w, S.J ov w) (T : Ty) (hT : Stb S.E T) (x : Operand) (args : Array Operand) (at_ : Array TypeId) (ho : o.op = .call { callee := .value x, args := args, argTypes := at_ })
    (h : ∀ ρ w, Only S.E S.w0 w → Known S.ops (tys τs) S.a0 ρ w i (x :: args.toList) → ∃ f vs, (execOp ρ o).run S.P w = .ok (.enter f vs) w ∧ Calls S.P f vs w fun e w' => ∃ v, e = .returned v ∧ T w' v ∧ Below w.heap.size w w')
    (rest : RSeq S Fin l (i + 1) (T :: τs)) : RSeq S Fin (o :: l) i τs := by
  refine rs_plain hO hid T hT (fun k ρ w hk hr hon hK => ?_) rest
  have he : o.op.operands.toList = x :: args.toList := by rw [ho]; simp [Op.operands, Call.operands]
  rw [he] at hK
  obtain ⟨f, vs, h1, h2⟩ := h ρ w hon hK
  unfold Good
  rw [h1]
  refine h2.mono ?_
  rintro e w' ⟨v, rfl, h3, h4⟩
  refine ⟨h3, ?_, Only.of_below _ h4⟩
  have hr' := rdO_more hr
  cases hrd : S.rd with
  | none => trivial
  | some x =>
    rw [hrd] at hr'
    exact Rd.below hr' h4 (Rd.lt hr')
end
end Go.Proofs.Ytdgminjbgjbamaa

namespace Go.Proofs.Ytdgminjbgjbamaa
open Go.RowKit Go.Maps
set_option maxRecDepth 100000
/-! newBuilder. -/
theorem newBld_any (i n : Nat) (w : World) (hi : i ≤ 100) (hn : n ≤ 100) :
    Calls Try.prog 71 #[.int .i64 (i : Int), .int .i64 (n : Int)] w
      fun e w' => ∃ b E, e = .returned (.pointer (some ⟨b, 0, none⟩)) ∧ BldAt w.heap.size b (1 + i + n) [] E w' ∧ Below w.heap.size w w' := by
  have hmk := run_make_any (P := Try.prog) 23 3 _ 1 8 Try.underlying23 info_int .i64 .i64 (1 + i + n) (by omega) (by omega)
  have hmm := @run_makeMap Try.prog
  have h1 := IntWalk.i64_in (1 + (i : Int)) (by omega)
  have h2 := IntWalk.i64_in (1 + (i : Int) + (n : Int)) (by omega)
  have e1 : (1 + (i : Int) + (n : Int)) = ((1 + i + n : Nat) : Int) := by omega
  generalize 1 + i + n = F at *
  go_enter Try.func71, Try.ntmps71
  go_wp2
  go_ret
  have b1 := bel_new w (.cells (madeCells #[Value.int .i64 0] F) 3)
  generalize hW1 : w.alloc (.cells (madeCells #[Value.int .i64 0] F) 3) = w1 at *
  have z1 : w1.heap.size = w.heap.size + 1 := by rw [← hW1]; simp
  have b2 := bel_new w1 (.map #[] 0)
  have hM := gAt_made w1
  generalize hW2 : w1.alloc (.map #[] 0) = w2 at *
  have z2 : w2.heap.size = w1.heap.size + 1 := by rw [← hW2]; simp
  have b3 := bel_new w2 (.cells #[.int .i64 (F : Int), .slice none 0 0, .slice (some ⟨w.heap.size, 0, none⟩) F F, .map (some (w.heap.size + 1))] 95)
  have hB := heap_alloc_new w2 (.cells #[.int .i64 (F : Int), .slice none 0 0, .slice (some ⟨w.heap.size, 0, none⟩) F F, .map (some (w.heap.size + 1))] 95)
  have hO : w1.ownsRow w.heap.size 3 1 (.slice (some ⟨w.heap.size, 0, none⟩) F F) F (ints (List.replicate F 0)) := by
    have h := World.ownsRow_lit (base := w.heap.size) (e := 3) (size := 1) w (madeCells #[Value.int .i64 0] F) F (Nat.le_refl _) (by unfold maxLen; omega) (by simp [madeCells])
    rw [hW1] at h
    have e : (madeCells #[Value.int .i64 0] F).toList = ints (List.replicate F 0) := by simp [madeCells, ints, Nat.mod_one, List.map_const']
    rwa [e] at h
  generalize hW3 : w2.alloc (.cells #[.int .i64 (F : Int), .slice none 0 0, .slice (some ⟨w.heap.size, 0, none⟩) F F, .map (some (w.heap.size + 1))] 95) = w3 at *
  have z3 : w3.heap.size = w2.heap.size + 1 := by rw [← hW3]; simp
  have z0 : w2.heap.size = w.heap.size + 1 + 1 := by omega
  rw [z0] at hB
  refine ⟨_, fun g => w.heap.size ≤ g ∧ g < w.heap.size + 3, rfl, ⟨w.heap.size + 1, .slice none 0 0, .slice (some ⟨w.heap.size, 0, none⟩) F F, List.replicate F 0, ?_⟩, b1.trans ((b2.trans (b3.mono (by omega))).mono (by omega))⟩
  exact {
    box := hB
    gs := World.ownsRow_nil _ _ _ _
    ll := by simp
    lb := fun x hx => by have := List.eq_of_mem_replicate hx; simp [this]
    ls := own_below (own_below hO (b2.mono (by omega))) (b3.mono (by omega))
    map := by rw [← z1]; exact hM.below b3
    eb := by omega
    em := by omega
    eg := fun g hg => by cases hg
    el := fun g hg => by have := Option.some.inj hg; simp only at this; omega
    lo := fun g hg => by omega
    bm := by omega
    gb := by simp [Value.ownBlock]
    gm := by simp [Value.ownBlock]
    lb' := by simp [Value.ownBlock]; omega
    lm := by simp [Value.ownBlock]
    ap := fun g hg => by cases hg }
end Go.Proofs.Ytdgminjbgjbamaa

namespace Go.Proofs.Ytdgminjbgjbamaa
open Go.RowKit Go.Maps
set_option maxRecDepth 100000
/-! and: the cases that make no gate. (gen/bldb.py prints this text.) -/
theorem beq_ff {a b : Nat} (h : a ≠ b) : ((a : Int) == (b : Int)) = false := by rw [beq_eq_false_iff_ne]; omega
theorem beq_tt {a b : Nat} (h : a = b) : ((a : Int) == (b : Int)) = true := by rw [beq_iff_eq]; omega
theorem and_zero_st (b x y : Nat) (w : World) (hx : x < 1000000) (hy : y < 1000000) (hs : ¬ y < x) (hz : x = 0) :
    Calls Try.prog 72 #[.pointer (some ⟨b, 0, none⟩), .int .i64 (x : Int), .int .i64 (y : Int)] w
      fun e w' => e = .returned (.int .i64 (0 : Int)) ∧ w' = w := by
  have hxor : bits .xor .i64 (y : Int) 1 = ((y ^^^ 1 : Nat) : Int) := i64_xor_nat y 1 (by omega) (by omega)
  have d1 : decide (y < x) = false := decide_eq_false hs
  generalize hY : y ^^^ 1 = Y at *
  clear hs
  have e1 : ((x : Int) == 0) = true := beq_tt (b := 0) hz
  go_enter Try.func72, Try.ntmps72
  go_wp2_with fail
  go_ret
  exact ⟨rfl, rfl⟩
theorem and_neg_st (b x y : Nat) (w : World) (hx : x < 1000000) (hy : y < 1000000) (hs : ¬ y < x) (hz : x ≠ 0 ∧ x = y ^^^ 1) :
    Calls Try.prog 72 #[.pointer (some ⟨b, 0, none⟩), .int .i64 (x : Int), .int .i64 (y : Int)] w
      fun e w' => e = .returned (.int .i64 (0 : Int)) ∧ w' = w := by
  have hxor : bits .xor .i64 (y : Int) 1 = ((y ^^^ 1 : Nat) : Int) := i64_xor_nat y 1 (by omega) (by omega)
  have d1 : decide (y < x) = false := decide_eq_false hs
  generalize hY : y ^^^ 1 = Y at *
  clear hs
  have e1 : ((x : Int) == 0) = false := beq_ff (b := 0) hz.1
  have e2 : ((x : Int) == (Y : Int)) = true := beq_tt hz.2
  clear hz
  go_enter Try.func72, Try.ntmps72
  go_wp2_with fail
  go_ret
  exact ⟨rfl, rfl⟩
theorem and_one_st (b x y : Nat) (w : World) (hx : x < 1000000) (hy : y < 1000000) (hs : ¬ y < x) (hz : x ≠ 0 ∧ x ≠ y ^^^ 1 ∧ x = 1) :
    Calls Try.prog 72 #[.pointer (some ⟨b, 0, none⟩), .int .i64 (x : Int), .int .i64 (y : Int)] w
      fun e w' => e = .returned (.int .i64 (y : Int)) ∧ w' = w := by
  have hxor : bits .xor .i64 (y : Int) 1 = ((y ^^^ 1 : Nat) : Int) := i64_xor_nat y 1 (by omega) (by omega)
  have d1 : decide (y < x) = false := decide_eq_false hs
  generalize hY : y ^^^ 1 = Y at *
  clear hs
  have e1 : ((x : Int) == 0) = false := beq_ff (b := 0) hz.1
  have e2 : ((x : Int) == (Y : Int)) = false := beq_ff hz.2.1
  have e3 : ((x : Int) == 1) = true := beq_tt (b := 1) hz.2.2
  clear hz
  go_enter Try.func72, Try.ntmps72
  go_wp2_with fail
  go_ret
  exact ⟨rfl, rfl⟩
theorem and_same_st (b x y : Nat) (w : World) (hx : x < 1000000) (hy : y < 1000000) (hs : ¬ y < x) (hz : x ≠ 0 ∧ x ≠ y ^^^ 1 ∧ x ≠ 1 ∧ x = y) :
    Calls Try.prog 72 #[.pointer (some ⟨b, 0, none⟩), .int .i64 (x : Int), .int .i64 (y : Int)] w
      fun e w' => e = .returned (.int .i64 (y : Int)) ∧ w' = w := by
  have hxor : bits .xor .i64 (y : Int) 1 = ((y ^^^ 1 : Nat) : Int) := i64_xor_nat y 1 (by omega) (by omega)
  have d1 : decide (y < x) = false := decide_eq_false hs
  generalize hY : y ^^^ 1 = Y at *
  clear hs
  have e1 : ((x : Int) == 0) = false := beq_ff (b := 0) hz.1
  have e2 : ((x : Int) == (Y : Int)) = false := beq_ff hz.2.1
  have e3 : ((x : Int) == 1) = false := beq_ff (b := 1) hz.2.2.1
  have e4 : ((x : Int) == (y : Int)) = true := beq_tt hz.2.2.2
  clear hz
  go_enter Try.func72, Try.ntmps72
  go_wp2_with fail
  go_ret
  exact ⟨rfl, rfl⟩
theorem and_zero_sw (b x y : Nat) (w : World) (hx : x < 1000000) (hy : y < 1000000) (hs : x < y) (hz : x = 0) :
    Calls Try.prog 72 #[.pointer (some ⟨b, 0, none⟩), .int .i64 (y : Int), .int .i64 (x : Int)] w
      fun e w' => e = .returned (.int .i64 (0 : Int)) ∧ w' = w := by
  have hxor : bits .xor .i64 (y : Int) 1 = ((y ^^^ 1 : Nat) : Int) := i64_xor_nat y 1 (by omega) (by omega)
  have d1 : decide (x < y) = true := decide_eq_true hs
  generalize hY : y ^^^ 1 = Y at *
  have d1b : decide (0 < y) = true := decide_eq_true (by omega)
  have d1c : ¬ (y = 0) := by omega
  have e1 : ((x : Int) == 0) = true := beq_tt (b := 0) hz
  go_enter Try.func72, Try.ntmps72
  go_wp2_with fail
  go_ret
  exact ⟨rfl, rfl⟩
theorem and_neg_sw (b x y : Nat) (w : World) (hx : x < 1000000) (hy : y < 1000000) (hs : x < y) (hz : x ≠ 0 ∧ x = y ^^^ 1) :
    Calls Try.prog 72 #[.pointer (some ⟨b, 0, none⟩), .int .i64 (y : Int), .int .i64 (x : Int)] w
      fun e w' => e = .returned (.int .i64 (0 : Int)) ∧ w' = w := by
  have hxor : bits .xor .i64 (y : Int) 1 = ((y ^^^ 1 : Nat) : Int) := i64_xor_nat y 1 (by omega) (by omega)
  have d1 : decide (x < y) = true := decide_eq_true hs
  generalize hY : y ^^^ 1 = Y at *
  clear hs
  have e1 : ((x : Int) == 0) = false := beq_ff (b := 0) hz.1
  have e2 : ((x : Int) == (Y : Int)) = true := beq_tt hz.2
  clear hz
  go_enter Try.func72, Try.ntmps72
  go_wp2_with fail
  go_ret
  exact ⟨rfl, rfl⟩
theorem and_one_sw (b x y : Nat) (w : World) (hx : x < 1000000) (hy : y < 1000000) (hs : x < y) (hz : x ≠ 0 ∧ x ≠ y ^^^ 1 ∧ x = 1) :
    Calls Try.prog 72 #[.pointer (some ⟨b, 0, none⟩), .int .i64 (y : Int), .int .i64 (x : Int)] w
      fun e w' => e = .returned (.int .i64 (y : Int)) ∧ w' = w := by
  have hxor : bits .xor .i64 (y : Int) 1 = ((y ^^^ 1 : Nat) : Int) := i64_xor_nat y 1 (by omega) (by omega)
  have d1 : decide (x < y) = true := decide_eq_true hs
  generalize hY : y ^^^ 1 = Y at *
  clear hs
  have e1 : ((x : Int) == 0) = false := beq_ff (b := 0) hz.1
  have e2 : ((x : Int) == (Y : Int)) = false := beq_ff hz.2.1
  have e3 : ((x : Int) == 1) = true := beq_tt (b := 1) hz.2.2
  clear hz
  go_enter Try.func72, Try.ntmps72
  go_wp2_with fail
  go_ret
  exact ⟨rfl, rfl⟩
theorem and_same_sw (b x y : Nat) (w : World) (hx : x < 1000000) (hy : y < 1000000) (hs : x < y) (hz : x ≠ 0 ∧ x ≠ y ^^^ 1 ∧ x ≠ 1 ∧ x = y) :
    Calls Try.prog 72 #[.pointer (some ⟨b, 0, none⟩), .int .i64 (y : Int), .int .i64 (x : Int)] w
      fun e w' => e = .returned (.int .i64 (y : Int)) ∧ w' = w := by
  have hxor : bits .xor .i64 (y : Int) 1 = ((y ^^^ 1 : Nat) : Int) := i64_xor_nat y 1 (by omega) (by omega)
  have d1 : decide (x < y) = true := decide_eq_true hs
  generalize hY : y ^^^ 1 = Y at *
  clear hs
  have e1 : ((x : Int) == 0) = false := beq_ff (b := 0) hz.1
  have e2 : ((x : Int) == (Y : Int)) = false := beq_ff hz.2.1
  have e3 : ((x : Int) == 1) = false := beq_ff (b := 1) hz.2.2.1
  have e4 : ((x : Int) == (y : Int)) = true := beq_tt hz.2.2.2
  clear hz
  go_enter Try.func72, Try.ntmps72
  go_wp2_with fail
  go_ret
  exact ⟨rfl, rfl⟩
end Go.Proofs.Ytdgminjbgjbamaa

namespace Go.Proofs.Ytdgminjbgjbamaa
open Go.RowKit Go.Maps
set_option maxRecDepth 100000
/-! and: a new gate. -/
theorem wpList_add_gate (w : World) {ops : Array Oper} {rest : List Oper} {o : Oper} {a : Act} {Q : Exit → Act → World → Prop} (hg : o.guard = none) (m x v : Operand) (hop : o.op = Op.mapUpdate 93 m x v) (b n : Nat) (f : Nat → Nat → Option Nat) (hm : a.eval m = .map (some b)) (h : GAt w b n f) (hn : n ≤ 1000000) (X Y V : Nat) (hX : X ≤ 10000000) (hY : Y ≤ 10000000) (hV : V ≤ 10000000) (hx : a.eval x = .agg #[.int .i64 (X : Int), .int .i64 (Y : Int)]) (hv : a.eval v = .int .i64 (V : Int))
    (hK : ∀ w', GAt w' b (n + 1) (fun x' y' => if x' = X ∧ y' = Y then some V else f x' y') → w.grownBy w' (some b) → wpList Try.prog ops Q rest (a.put o.dst undef) w') : wpList Try.prog ops Q (o :: rest) a w := by
  refine wpList_plain hg fun K' hK' => ?_
  obtain ⟨w', hrun, r1, r2⟩ := h.add hn (x := X) (y := Y) (v := V) (by omega) (by omega) (by omega)
  unfold gkey at hrun
  unfold Oper.wp
  simp [execOp, hop, hm, hx, hv, hrun, Result.andThen]
  exact hK' _ _ (hK w' r1 r2)
theorem rs_eq_before {S : RS} {Fin : List Ty → Prop} {o : Oper} {l : List Oper} {i : Nat} {τs : List Ty} (hO : S.Ok) (hid : i ≠ S.d) (hanc : ancB S.ops 8 i S.d = true) {c : Value}
    (h : ∀ ρ w, Only S.E S.w0 w → S.J none w → Known S.ops (tys τs) S.a0 ρ w i o.op.operands.toList → (execOp ρ o).run S.P w = .ok (.value c) w)
    (rest : RSeq S Fin l (i + 1) (TEq c :: τs)) : RSeq S Fin (o :: l) i τs :=
  rs_before hO hid hanc (TEq c) (stb_eq _ _) (fun k ρ w hr ho hJ hK => by
    unfold Good
    rw [h ρ w ho hJ hK]
    exact ⟨rfl, rdO_more hr, Only.refl _ _⟩) rest
theorem cubes_snoc2 (ks : List (Int × Int)) (x y : Int) : cubes (ks ++ [(x, y)]) = cubes ks ++ [.int .i64 x, .int .i64 y] := by
  unfold cubes
  rw [List.flatMap_append]
  rfl
theorem knownG_cons {F : Nat} {G : List (Nat × Nat)} {x y V : Nat} (hk : Cir.knownG F G x y = none) (hV : V = 2 * (F + G.length)) : (fun x' y' => if x' = x ∧ y' = y then some V else Cir.knownG F G x' y') = Cir.knownG F ((x, y) :: G) := by
  funext x' y'
  show _ = (match Cir.knownG F G x' y' with
    | some l => some l
    | none => if x' = x ∧ y' = y then some (2 * (F + G.length)) else none)
  by_cases e : x' = x ∧ y' = y
  · obtain ⟨rfl, rfl⟩ := e
    rw [hk]
    simp [hV]
  · rw [if_neg e]
    cases Cir.knownG F G x' y' with
    | some l => rfl
    | none => simp [e]
theorem bld_close {B b F N : Nat} {G : List (Nat × Nat)} {E : Nat → Prop} {m : Nat} {vg v7 v8 : Value} {L : List Int} {x y V n gl cl : Nat} {U : Int} {cs cs2 : List Value} {W3 w4 W4 W5 W6 : World} {cells : Array Value}
    (HN : ∀ g, E g → g < N) (H : Bld B b F G E m vg (.slice (some ⟨gl, 0, none⟩) (F + G.length) cl) L W3) (hN : N ≤ W3.heap.size) (O4 : Only (fun g => g = m) W3 w4) (HM : GAt W4 m (G.length + 1) (fun x' y' => if x' = x ∧ y' = y then some V else Cir.knownG F G x' y'))
    (O9 : Only (fun g => vg.ownBlock = some g) w4 W4) (h7 : W4.ownsRow B 72 2 v7 (G.length + 1) (cs ++ [.int .i64 (x : Int), .int .i64 (y : Int)])) (at7 : ∀ g, v7.ownBlock = some g → vg.ownBlock = some g ∨ w4.heap.size ≤ g) (hW5 : W5 = W4.setCell ⟨b, 1, none⟩ v7)
    (O10 : Only (fun g => (Value.slice (some ⟨gl, 0, none⟩) n cl).ownBlock = some g) W5 W6) (h8 : W6.ownsRow B 3 1 v8 (n + 1) (cs2 ++ [.int .i64 (1 + U)])) (at8 : ∀ g, v8.ownBlock = some g → (Value.slice (some ⟨gl, 0, none⟩) n cl).ownBlock = some g ∨ W5.heap.size ≤ g)
    (hx : W6.heap[b]? = some (.cells cells 95 (0, 0))) (hk : Cir.knownG F G x y = none) (hV : V = 2 * (F + G.length)) (hn : F + G.length = n) (hL : L.length = n) (hU : 0 ≤ U ∧ U ≤ G.length) (hcs : cubes (Cir.gatesOf G) = cs) (hcs2 : ints L = cs2) (hcl : cells.setIfInBounds 2 v8 = #[.int .i64 (F : Int), v7, v8, .map (some m)]) :
    Bld B b F ((x, y) :: G) (fun g => E g ∨ v7.ownBlock = some g ∨ v8.ownBlock = some g) m v7 v8 (L ++ [1 + U]) (W6.setCell ⟨b, 2, none⟩ v8) := by
  subst hn
  have z4 := O4.size
  have z9 := O9.size
  have z5 : W5.heap.size = W4.heap.size := by rw [hW5]; simp
  have z6 := O10.size
  have hEb := HN b H.eb
  have hEm := HN m H.em
  have hgl : E gl := H.el gl rfl
  have hgl2 := HN gl hgl
  have o5 : Only (fun g => g = b) W4 W5 := hW5 ▸ Only.grown (set_grown W4 b 1 _) (fun k hk => (Option.some.inj hk).symm)
  have o7 : Only (fun g => g = b) W6 (W6.setCell ⟨b, 2, none⟩ v8) := Only.grown (set_grown W6 b 2 _) (fun k hk => (Option.some.inj hk).symm)
  have z7 : (W6.setCell ⟨b, 2, none⟩ v8).heap.size = W6.heap.size := by simp
  have b7 : v7.ownBlock ≠ some b := fun e => by
    rcases at7 b e with h | h
    · exact H.gb h
    · omega
  have m7 : v7.ownBlock ≠ some m := fun e => by
    rcases at7 m e with h | h
    · exact H.gm h
    · omega
  have l7 : v7.ownBlock ≠ some gl := fun e => by
    rcases at7 gl e with h | h
    · exact H.ap gl h rfl
    · omega
  have b8 : v8.ownBlock ≠ some b := fun e => by
    rcases at8 b e with h | h
    · exact H.lb' h
    · omega
  have m8 : v8.ownBlock ≠ some m := fun e => by
    rcases at8 m e with h | h
    · exact H.lm h
    · omega
  have a78 : Apart v7 v8 := fun g h h' => by
    rcases at8 g h' with e | e
    · have e2 : gl = g := by simpa [Value.ownBlock] using e
      exact l7 (e2 ▸ h)
    · have := (h7.lt g h).2
      omega
  have eg7 : cubes (Cir.gatesOf ((x, y) :: G)) = cs ++ [.int .i64 (x : Int), .int .i64 (y : Int)] := by rw [Cir.gatesOf_cons, cubes_snoc2, hcs]
  have e8 : ints (L ++ [1 + U]) = cs2 ++ [.int .i64 (1 + U)] := by rw [ints_snoc, hcs2]
  have nv : ∀ g, v7.ownBlock = some g → ¬ (Value.slice (some ⟨gl, 0, none⟩) (F + G.length) cl).ownBlock = some g := fun g h e => by
    have e2 : gl = g := by simpa [Value.ownBlock] using e
    exact l7 (e2 ▸ h)
  exact {
    box := by rw [← hcl]; exact heap_setCell_same W6 b 2 _ _ v8 hx
    gs := by
      rw [eg7]
      exact own_only (own_only (own_only h7 o5 (fun g h e => b7 (e ▸ h))) O10 nv) o7 (fun g h e => b7 (e ▸ h))
    ll := by rw [List.length_append, hL]; simp; omega
    lb := fun u hu => by
      rcases List.mem_append.1 hu with h | h
      · have := H.lb u h
        simp only [List.length_cons]
        omega
      · have := List.mem_singleton.1 h
        simp only [List.length_cons]
        omega
    ls := by
      rw [e8]
      exact own_only h8 o7 (fun g h e => b8 (e ▸ h))
    map := by
      rw [← knownG_cons hk hV]
      exact ((HM.only o5 (fun e => H.bm e.symm)).only O10 H.lm).only o7 (fun e => H.bm e.symm)
    eb := .inl H.eb
    em := .inl H.em
    eg := fun g h => .inr (.inl h)
    el := fun g h => .inr (.inr h)
    lo := fun g h => by
      rcases h with h | h | h
      · have h1 := H.lo g h; have h2 := HN g h; omega
      · have h1 := h7.lt g h; omega
      · have h1 := h8.lt g h; omega
    bm := H.bm
    gb := b7
    gm := m7
    lb' := b8
    lm := m8
    ap := a78 }
theorem and_new_st {B b F : Nat} {G : List (Nat × Nat)} {E : Nat → Prop} {m : Nat} {vg vl : Value} {L : List Int} (x y : Nat) (w : World) (h : Bld B b F G E m vg vl L w) (hF : F ≤ 300) (hG : G.length ≤ 10000) (hx : x < 2 * (F + G.length)) (hy : y < 2 * (F + G.length)) (hs : ¬ y < x) (h1 : x ≠ 0) (h2 : x ≠ y ^^^ 1) (h3 : x ≠ 1) (h4 : x ≠ y) (hk : Cir.knownG F G x y = none) :
    Calls Try.prog 72 #[.pointer (some ⟨b, 0, none⟩), .int .i64 (x : Int), .int .i64 (y : Int)] w
      fun e w' => e = .returned (.int .i64 ((2 * (F + G.length) : Nat) : Int)) ∧ BldNext B b F ((x, y) :: G) E w w' := by
  have hxor : bits .xor .i64 (y : Int) 1 = ((y ^^^ 1 : Nat) : Int) := i64_xor_nat y 1 (by omega) (by omega)
  have d1 : decide (y < x) = false := decide_eq_false hs
  have e1 : ((x : Int) == 0) = false := beq_ff (b := 0) h1
  have e2 : ((x : Int) == ((y ^^^ 1 : Nat) : Int)) = false := beq_ff h2
  have e3 : ((x : Int) == 1) = false := beq_ff (b := 1) h3
  have e4 : ((x : Int) == (y : Int)) = false := beq_ff h4
  generalize y ^^^ 1 = Y at *
  clear h1 h2 h3 h4 hs
  have hbn := bel_new w (.cells #[.int .i64 (x : Int), .int .i64 (y : Int)] 72)
  have hg := heap_alloc_new w (.cells #[.int .i64 (x : Int), .int .i64 (y : Int)] 72)
  have hzW : (w.alloc (.cells #[.int .i64 (x : Int), .int .i64 (y : Int)] 72)).heap.size = w.heap.size + 1 := by simp
  have H := Lib.hid (h.below hbn)
  have HB := Lib.hid hbn
  have Hk := Lib.hid hk
  have hbW : b < w.heap.size := (h.lo b h.eb).2
  obtain ⟨Ag, cg, hvg⟩ := slice_of_own h.gs
  have hw1 := IntWalk.i64_in ((F : Int) + (G.length : Int)) (by omega)
  have hw2 := IntWalk.i64_in (2 * ((F : Int) + (G.length : Int))) (by omega)
  have HN : Hid (∀ g, E g → g < w.heap.size) := Lib.hid fun g hg => (h.lo g hg).2
  clear h hbn hk
  go_enter Try.func72, Try.ntmps72
  go_wp2_with fail
  generalize w.alloc (.cells #[.int .i64 (x : Int), .int .i64 (y : Int)] 72) = W at *
  generalize hN : w.heap.size = N at *
  have c0 := gw_cell (blk_cell H.out.box 0) (by show b < W.heap.size; omega)
  have c1 := gw_cell (blk_cell H.out.box 1) (by show b < W.heap.size; omega)
  have c3 := gw_cell (blk_cell H.out.box 3) (by show b < W.heap.size; omega)
  have k0 := gw_cell (blk_cell hg 0) (by show N < W.heap.size; omega)
  have k1 := gw_cell (blk_cell hg 1) (by show N < W.heap.size; omega)
  have hlk : ∀ n : GW W, (Instr.lookup 93 (.map (some m)) (.agg #[.int .i64 (x : Int), .int .i64 (y : Int)]) true).run Try.prog (gw n) = .ok (.tuple #[.int .i64 0, .bool false]) (gw n) := fun n => by
    have := (H.out.map.below (gw_below n)).look (x := x) (y := y) (by omega) (by omega)
    rw [Hk.out] at this
    exact this
  refine wp_region_grow (by kernel_rfl) (by kernel_rfl) ?_
  repeat (go_big_quiet_step ((fail)))
  refine wpQuiet_nil ?_
  intro _ hw'
  obtain ⟨nq, hw''⟩ := hw'
  subst hw''
  have hgq := gw_below nq
  generalize gw nq = wq at *
  clear nq
  have B1 := Lib.hid hgq
  have H1 := Lib.hid (H.out.below hgq)
  have hg1 := (hgq.block N (by omega)).trans hg
  have z1 := hgq.size
  clear H hlk c0 c1 c3 k0 k1 hgq hg
  subst hvg
  obtain ⟨W1, hW1⟩ : ∃ W1, W1 = wq := ⟨_, rfl⟩
  subst hW1
  go_wp2_with fail
  have c0 := gw_cell (blk_cell H1.out.box 0) (by show b < W1.heap.size; omega)
  have c1 := gw_cell (blk_cell H1.out.box 1) (by show b < W1.heap.size; omega)
  refine wp_region_grow (by kernel_rfl) (by kernel_rfl) ?_
  repeat (go_big_quiet_step ((fail)))
  refine wpQuiet_nil ?_
  intro _ hw'
  obtain ⟨nq, hw''⟩ := hw'
  subst hw''
  have hgq := gw_below nq
  generalize gw nq = wq at *
  clear nq
  have B2 := Lib.hid (B1.out.trans (hgq.mono B1.out.size))
  have H2 := Lib.hid (H1.out.below hgq)
  have hg2 := (hgq.block N (by omega)).trans hg1
  have z2 := hgq.size
  clear H1 c0 c1 hgq hg1 B1
  obtain ⟨W2, hW2⟩ : ∃ W2, W2 = wq := ⟨_, rfl⟩
  subst hW2
  obtain ⟨V, hV⟩ : ∃ V : Nat, 2 * ((F : Int) + (G.length : Int)) = (V : Int) := ⟨2 * (F + G.length), by omega⟩
  have hV2 : V = 2 * (F + G.length) := by omega
  rw [hV]
  clear hw1 hw2 hV
  have hz2 : b < W2.heap.size := by omega
  have hz3 : N < W2.heap.size := by omega
  go_wp2_with fail
  refine wp_region_rsl (quietRS Try.prog _ W2 _) quietRS_ok (by kernel_rfl) (by kernel_rfl) (by kernel_rfl) 6 _ rfl rfl (by kernel_rfl) (show (0 : Nat) < 6 by decide) trivial trivial ?_
  refine rs_old quietRS_ok quiet_any _ (.inl rfl) _ rfl rfl ?_
  apply rs_eq quietRS_ok quiet_any
  · intro ρ w' ho hK
    have ho : Only _ W2 w' := ho
    obtain ⟨h0, -⟩ := hK
    have h0' : ρ (.tmp 58) = _ := h0
    go_simp
    try exact rfl
  apply rs_eq quietRS_ok quiet_any
  · intro ρ w' ho hK
    have ho : Only _ W2 w' := ho
    obtain ⟨h0, -⟩ := hK
    have h0' : ρ (.tmp 59) = _ := h0
    go_simp
    try exact rfl
  apply rs_eq quietRS_ok quiet_any
  · intro ρ w' ho hK
    have ho : Only _ W2 w' := ho
    obtain ⟨h0, -⟩ := hK
    have h0' : ρ (.tmp 60) = _ := h0
    have hb := only_below ho
    have q3 := (hb.cell (p := ⟨b, 3, none⟩) hz2).trans (blk_cell H2.out.box 3)
    have k0 := (hb.cell (p := ⟨N, 0, none⟩) hz3).trans (blk_cell hg2 0)
    have k1 := (hb.cell (p := ⟨N, 1, none⟩) hz3).trans (blk_cell hg2 1)
    go_simp
    try exact rfl
  apply rs_eq quietRS_ok quiet_any
  · intro ρ w' ho hK
    have ho : Only _ W2 w' := ho
    obtain ⟨h0, -⟩ := hK
    have h0' : ρ (.tmp 7) = _ := h0
    have hb := only_below ho
    have q3 := (hb.cell (p := ⟨b, 3, none⟩) hz2).trans (blk_cell H2.out.box 3)
    have k0 := (hb.cell (p := ⟨N, 0, none⟩) hz3).trans (blk_cell hg2 0)
    have k1 := (hb.cell (p := ⟨N, 1, none⟩) hz3).trans (blk_cell hg2 1)
    go_simp
    try exact rfl
  refine rs_old quietRS_ok quiet_any _ (.inl rfl) _ rfl rfl ?_
  intro f w9 k9 hk9 hI9 ht9 hcp9
  have E0 : f 0 = _ := ht9 0 (Nat.le_of_ble_eq_true rfl)
  conv at E0 => rhs; whnf
  have E1 : f 1 = _ := ht9 1 (Nat.le_of_ble_eq_true rfl)
  have E2 : f 2 = _ := ht9 2 (Nat.le_of_ble_eq_true rfl)
  have E3 : f 3 = _ := ht9 3 (Nat.le_of_ble_eq_true rfl)
  have E4 : f 4 = _ := ht9 4 (Nat.le_of_ble_eq_true rfl)
  have E5 : f 5 = _ := ht9 5 (Nat.le_of_ble_eq_true rfl)
  conv at E5 => rhs; whnf
  have Ho9 : Only _ W2 w9 := hI9.2.1
  simp only [putAll, E0, E1, E2, E3, E4, E5, Nat.zero_add, Nat.reduceAdd, Act.put, List.setIfInBounds_toArray, List.set_cons_succ, List.set_cons_zero, List.take, List.getElem_toArray, List.getElem_cons_succ, List.getElem_cons_zero]
  clear E0 E1 E2 E3 E4 E5
  clear hI9 ht9 hcp9 hk9
  obtain ⟨W3, hW3⟩ : ∃ W, W = w9 := ⟨_, rfl⟩
  subst hW3
  have hb9 := only_below Ho9
  have B3 := Lib.hid (B2.out.trans (hb9.mono B2.out.size))
  have H3 := Lib.hid (H2.out.below hb9)
  have hg3 := (hb9.block N hz3).trans hg2
  have z3 := hb9.size
  clear Ho9 hb9 hg2 H2 B2
  refine wpList_add_gate W3 rfl (.tmp 61) (.tmp 62) (.tmp 63) rfl m G.length _ rfl H3.out.map (by omega) x y V (by omega) (by omega) (by omega) rfl rfl ?_
  intro w4 hm4 hg4
  have HM4 := Lib.hid hm4
  have z4 := hg4.size
  have O4 := Lib.hid (Only.grown (E := fun g => g = m) hg4 (fun k hk => (Option.some.inj hk).symm))
  have hx4 := (O4.out.block b (by omega) H3.out.bm).trans H3.out.box
  have hgn : N ≠ m := fun e => by have := H3.out.lo m H3.out.em; have := HN.out m H3.out.em; omega
  have hg5 := (O4.out.block N (by omega) hgn).trans hg3
  have hgs4 := Lib.hid (own_only H3.out.gs O4.out (fun g hg e => H3.out.gm (by rw [hg, e])))
  have hls4 := Lib.hid (own_only H3.out.ls O4.out (fun g hg e => H3.out.lm (by rw [hg, e])))
  have hz5 : b < w4.heap.size := by omega
  have hz6 : N < w4.heap.size := by omega
  have hgb := H3.out.gb
  have hgN : ∀ g, (Value.slice Ag G.length cg).ownBlock = some g → g < N := fun g hg => HN.out g (H3.out.eg g hg)
  have hBW : B ≤ w4.heap.size := by have := (H3.out.lo b H3.out.eb).1; omega
  clear hm4 hg4 hg3
  go_wp2_with fail
  obtain ⟨cs, hcs⟩ : ∃ cs, cubes (Cir.gatesOf G) = cs := ⟨_, rfl⟩
  rw [hcs] at hgs4
  obtain ⟨i0, hi0, hz0, hz1, hz2⟩ := info_parts info_gate
  have hO := fun ops a => appRS2_ok (Pg := Try.prog) (ops := ops) (a := a) (news := [.int .i64 (x : Int), .int .i64 (y : Int)]) (d := 7) (hgs4.out)
  refine wp_region_rsl (appRS2 Try.prog _ w4 _ (B) 72 2 (Value.slice Ag G.length cg) (G.length) (cs) [.int .i64 (x : Int), .int .i64 (y : Int)] 7) (hO _ _) (by kernel_rfl) (by kernel_rfl) (by kernel_rfl) 10 _ rfl rfl (by kernel_rfl) (show (7 : Nat) < 10 by decide) trivial hgs4.out ?_
  refine rs_old (hO _ _) (.inl (Nat.ne_of_beq_eq_false rfl)) _ (.inl rfl) _ rfl rfl ?_
  refine rs_old (hO _ _) (.inl (Nat.ne_of_beq_eq_false rfl)) _ (.inl rfl) _ rfl rfl ?_
  apply rs_eq (hO _ _) (.inl (Nat.ne_of_beq_eq_false rfl))
  · intro ρ w' ho hK
    have ho : Only _ w4 w' := ho
    obtain ⟨h0, -⟩ := hK
    have h0' : ρ (.tmp 65) = _ := h0
    go_simp
    try exact rfl
  apply rs_eq (hO _ _) (.inl (Nat.ne_of_beq_eq_false rfl))
  · intro ρ w' ho hK
    have ho : Only _ w4 w' := ho
    obtain ⟨h0, -⟩ := hK
    have h0' : ρ (.tmp 66) = _ := h0
    go_simp
    try exact rfl
  apply rs_eq (hO _ _) (.inl (Nat.ne_of_beq_eq_false rfl))
  · intro ρ w' ho hK
    have ho : Only _ w4 w' := ho
    obtain ⟨h0, -⟩ := hK
    have h0' : ρ (.tmp 67) = _ := h0
    have q1 := cell_on ho (fun e => hgb e) hz5 (blk_cell hx4 1)
    have k0 := cell_on ho (fun e => absurd (hgN N e) (Nat.lt_irrefl _)) hz6 (blk_cell hg5 0)
    have k1 := cell_on ho (fun e => absurd (hgN N e) (Nat.lt_irrefl _)) hz6 (blk_cell hg5 1)
    go_simp
    try exact rfl
  apply rs_eq (hO _ _) (.inl (Nat.ne_of_beq_eq_false rfl))
  · intro ρ w' ho hK
    have ho : Only _ w4 w' := ho
    obtain ⟨h0, -⟩ := hK
    have h0' : ρ (.tmp 7) = _ := h0
    have q1 := cell_on ho (fun e => hgb e) hz5 (blk_cell hx4 1)
    have k0 := cell_on ho (fun e => absurd (hgN N e) (Nat.lt_irrefl _)) hz6 (blk_cell hg5 0)
    have k1 := cell_on ho (fun e => absurd (hgN N e) (Nat.lt_irrefl _)) hz6 (blk_cell hg5 1)
    go_simp
    try exact rfl
  refine rs_build1 (hO _ _) (.inl (Nat.ne_of_beq_eq_false rfl)) 2 [.int .i64 (x : Int), .int .i64 (y : Int)] 72 rfl (fun ρ w' ho hK => by
    have ho : Only _ w4 w' := ho
    obtain ⟨h0, -⟩ := hK
    have h0' : ρ (.tmp 69) = _ := h0
    go_simp) ?_
  refine rs_append2 rfl (B) 72 24 2 (Value.slice Ag G.length cg) (G.length) (cs) _ rfl rfl (fun g hg => hg) (show B ≤ w4.heap.size by omega) _ _ rfl _ _ rfl rfl rfl rfl i0 _ 16 Try.underlying24 hi0 hz0 hz1 hz2 rfl (by decide) (by omega) (by decide) (by simp [Value.oneCell']) ?_
  apply rs_eq (hO _ _) (.inl (Nat.ne_of_beq_eq_false rfl))
  · intro ρ w' ho hK
    have ho : Only _ w4 w' := ho
    obtain ⟨h0, -⟩ := hK
    have h0' : ρ (.tmp 64) = _ := h0
    go_simp
    try exact rfl
  apply rs_eq (hO _ _) (.inl (Nat.ne_of_beq_eq_false rfl))
  · intro ρ w' ho hK
    have ho : Only _ w4 w' := ho
    obtain ⟨h0, -⟩ := hK
    have h0' : ρ (.tmp 72) = _ := h0
    go_simp
    try exact rfl
  intro f w9 k9 hk9 hI9 ht9 hcp9
  have E0 : f 0 = _ := ht9 0 (Nat.le_of_ble_eq_true rfl)
  conv at E0 => rhs; whnf
  have E1 : f 1 = _ := ht9 1 (Nat.le_of_ble_eq_true rfl)
  conv at E1 => rhs; whnf
  have E2 : f 2 = _ := ht9 2 (Nat.le_of_ble_eq_true rfl)
  have E3 : f 3 = _ := ht9 3 (Nat.le_of_ble_eq_true rfl)
  have E4 : f 4 = _ := ht9 4 (Nat.le_of_ble_eq_true rfl)
  have E5 : f 5 = _ := ht9 5 (Nat.le_of_ble_eq_true rfl)
  have E6 : (TNew _ 2 1 [.int .i64 (x : Int), .int .i64 (y : Int)]) w9 (f 6) := ht9 6 (Nat.le_of_ble_eq_true rfl)
  have E7 : (TAny) w9 (f 7) := ht9 7 (Nat.le_of_ble_eq_true rfl)
  have E8 : f 8 = _ := ht9 8 (Nat.le_of_ble_eq_true rfl)
  have E9 : f 9 = _ := ht9 9 (Nat.le_of_ble_eq_true rfl)
  have Ho9 : Only _ w4 w9 := hI9.2.1
  have hown9 : w9.ownsRow (B) 72 2 (f 7) (G.length + 1) (cs ++ [.int .i64 (x : Int), .int .i64 (y : Int)]) := hI9.2.2.1
  have hat9 : ∀ g, (f 7).ownBlock = some g → (Value.slice Ag G.length cg).ownBlock = some g ∨ w4.heap.size ≤ g := hI9.2.2.2
  simp only [putAll, E0, E1, E2, E3, E4, E5, E8, E9, Nat.zero_add, Nat.reduceAdd, Act.put, List.setIfInBounds_toArray, List.set_cons_succ, List.set_cons_zero, List.take, List.getElem_toArray, List.getElem_cons_succ, List.getElem_cons_zero]
  clear E0 E1 E2 E3 E4 E5 E8 E9
  clear hI9 ht9 hcp9 hk9
  generalize f 6 = r6 at *
  generalize f 7 = r7 at *
  obtain ⟨W4, hW4⟩ : ∃ W, W = w9 := ⟨_, rfl⟩
  subst hW4
  have O9 : Only (fun g => (Value.slice Ag G.length cg).ownBlock = some g) w4 W4 := Ho9
  obtain ⟨A7, c7, hv7⟩ := slice_of_own hown9
  subst hv7
  have hx9 := (O9.block b hz5 hgb).trans hx4
  have hgm := H3.out.gm
  have HM9 := Lib.hid (HM4.out.only O9 hgm)
  have hls9 := Lib.hid (own_only hls4.out O9 (fun g hg e => H3.out.ap g e hg))
  have z9 := O9.size
  have q1 := blk_cell hx9 1
  have f1 := blk_free hx9 1
  have Hat9 := Lib.hid hat9
  have Hown9 := Lib.hid hown9
  have HO9 := Lib.hid O9
  obtain ⟨gl, cl, hvl, hgl, hgl2, hcl, hclm⟩ := own_open hls9.out (by omega)
  unfold maxLen at hclm
  subst hvl
  have hx10 := heap_setCell_same W4 b 1 _ _ (.slice A7 (G.length + 1) c7) hx9
  have hbl := H3.out.lb'
  have hls10 := Lib.hid (own_only hls9.out (Only.grown (E := fun g => g = b) (set_grown W4 b 1 (.slice A7 (G.length + 1) c7)) (fun k hk => (Option.some.inj hk).symm)) (fun g hg e => hbl (by rw [hg, e])))
  have z10 : (W4.setCell ⟨b, 1, none⟩ (.slice A7 (G.length + 1) c7)).heap.size = W4.heap.size := by simp
  clear Ho9 hown9 hat9 O9 hx4 hg5 E6 E7 hO hls4 hgs4 HM4
  go_wp2_with fail
  obtain ⟨W5, hW5⟩ : ∃ W5, W5 = W4.setCell ⟨b, 1, none⟩ (.slice A7 (G.length + 1) c7) := ⟨_, rfl⟩
  rw [← hW5] at hx10 hls10 z10 ⊢
  clear q1 f1
  obtain ⟨n, hn⟩ : ∃ n, n = F + G.length := ⟨_, rfl⟩
  rw [← hn] at hls10 hbl hx10 hcl
  have hqx : (x : Int).tdiv 2 = ((x / 2 : Nat) : Int) := by rw [Int.tdiv_eq_ediv_of_nonneg (by omega)]; omega
  have hqy : (y : Int).tdiv 2 = ((y / 2 : Nat) : Int) := by rw [Int.tdiv_eq_ediv_of_nonneg (by omega)]; omega
  have hix : x / 2 < n := by omega
  have hiy : y / 2 < n := by omega
  have hwx := IntWalk.i64_in ((x / 2 : Nat) : Int) (by omega)
  have hwy := IntWalk.i64_in ((y / 2 : Nat) : Int) (by omega)
  generalize x / 2 = X at *
  generalize y / 2 = Z at *
  have hLl := H3.out.ll
  rw [← hn] at hLl
  obtain ⟨u1, hu1⟩ : ∃ u1, L[X]? = some u1 := ⟨_, List.getElem?_eq_getElem (by omega)⟩
  obtain ⟨u2, hu2⟩ : ∃ u2, L[Z]? = some u2 := ⟨_, List.getElem?_eq_getElem (by omega)⟩
  have hb1 := H3.out.lb u1 (List.mem_of_getElem? hu1)
  have hb2 := H3.out.lb u2 (List.mem_of_getElem? hu2)
  have hcu1 : (ints L)[X]? = some (.int .i64 u1) := by unfold ints; rw [List.getElem?_map, hu1]; rfl
  have hcu2 : (ints L)[Z]? = some (.int .i64 u2) := by unfold ints; rw [List.getElem?_map, hu2]; rfl
  obtain ⟨U, hU⟩ : ∃ U, (if u1 < u2 then u2 else u1) = U := ⟨_, rfl⟩
  have hUb : 0 ≤ U ∧ U ≤ G.length := by rw [← hU]; split <;> omega
  have hw3 := IntWalk.i64_in (1 + U) (by omega)
  obtain ⟨cs2, hcs2⟩ : ∃ cs2, ints L = cs2 := ⟨_, rfl⟩
  rw [hcs2] at hls10 hcu1 hcu2
  have hz7 : b < W5.heap.size := by omega
  have hBW5 : B ≤ W5.heap.size := by omega
  have hn1 : n ≤ 20000 := by omega
  have Hn := Lib.hid hn
  have HLl := Lib.hid hLl
  have Hcs2 := Lib.hid hcs2
  clear hLl hu1 hu2 hn hcs2
  obtain ⟨i0, hi0, hz0, hz1, hz2⟩ := info_parts info_int
  have hO := fun ops a => appRS2_ok (Pg := Try.prog) (ops := ops) (a := a) (news := [.int .i64 (1 + U)]) (d := 24) (hls10.out)
  refine wp_region_rsl (appRS2 Try.prog _ W5 _ (B) 3 1 (Value.slice (some ⟨gl, 0, none⟩) n cl) (n) (cs2) [.int .i64 (1 + U)] 24) (hO _ _) (by kernel_rfl) (by kernel_rfl) (by kernel_rfl) 27 _ rfl rfl (by kernel_rfl) (show (24 : Nat) < 27 by decide) trivial hls10.out ?_
  refine rs_old (hO _ _) (.inl (Nat.ne_of_beq_eq_false rfl)) _ (.inl rfl) _ rfl rfl ?_
  refine rs_old (hO _ _) (.inl (Nat.ne_of_beq_eq_false rfl)) _ (.inl rfl) _ rfl rfl ?_
  apply rs_eq (hO _ _) (.inl (Nat.ne_of_beq_eq_false rfl))
  · intro ρ w' ho hK
    have ho : Only _ W5 w' := ho
    obtain ⟨h0, -⟩ := hK
    have h0' : ρ (.tmp 75) = _ := h0
    go_simp
    try exact rfl
  apply rs_eq (hO _ _) (.inl (Nat.ne_of_beq_eq_false rfl))
  · intro ρ w' ho hK
    have ho : Only _ W5 w' := ho
    obtain ⟨h0, -⟩ := hK
    have h0' : ρ (.tmp 76) = _ := h0
    go_simp
    try exact rfl
  apply rs_eq (hO _ _) (.inl (Nat.ne_of_beq_eq_false rfl))
  · intro ρ w' ho hK
    have ho : Only _ W5 w' := ho
    obtain ⟨h0, -⟩ := hK
    have h0' : ρ (.tmp 77) = _ := h0
    have q1 := cell_on ho (fun e => hbl e) hz7 (blk_cell hx10 2)
    go_simp
    try exact rfl
  refine rs_old (hO _ _) (.inl (Nat.ne_of_beq_eq_false rfl)) _ (.inl rfl) _ rfl rfl ?_
  apply rs_eq (hO _ _) (.inl (Nat.ne_of_beq_eq_false rfl))
  · intro ρ w' ho hK
    have ho : Only _ W5 w' := ho
    obtain ⟨h0, -⟩ := hK
    have h0' : ρ (.tmp 79) = _ := h0
    go_simp
    try exact rfl
  apply rs_eq (hO _ _) (.inl (Nat.ne_of_beq_eq_false rfl))
  · intro ρ w' ho hK
    have ho : Only _ W5 w' := ho
    obtain ⟨h0, -⟩ := hK
    have h0' : ρ (.tmp 80) = _ := h0
    go_simp
    try exact rfl
  apply rs_eq (hO _ _) (.inl (Nat.ne_of_beq_eq_false rfl))
  · intro ρ w' ho hK
    have ho : Only _ W5 w' := ho
    obtain ⟨h0, -⟩ := hK
    have h0' : ρ (.tmp 81) = _ := h0
    have q1 := cell_on ho (fun e => hbl e) hz7 (blk_cell hx10 2)
    go_simp
    try exact rfl
  refine rs_old (hO _ _) (.inl (Nat.ne_of_beq_eq_false rfl)) _ (.inl rfl) _ rfl rfl ?_
  apply rs_eq (hO _ _) (.inl (Nat.ne_of_beq_eq_false rfl))
  · intro ρ w' ho hK
    have ho : Only _ W5 w' := ho
    obtain ⟨h0, h1, -⟩ := hK
    have h0' : ρ (.tmp 83) = _ := h0
    have h1' : ρ (.const (Value.int IntKind.i64 2)) = (Value.int IntKind.i64 2) := h1
    go_simp
    try exact rfl
  apply rs_eq (hO _ _) (.inl (Nat.ne_of_beq_eq_false rfl))
  · intro ρ w' ho hK
    have ho : Only _ W5 w' := ho
    obtain ⟨h0, h1, -⟩ := hK
    have h0' : ρ (.tmp 82) = _ := h0
    have h1' : ρ (.tmp 84) = _ := h1
    go_simp
    try exact rfl
  refine rs_eq_before (hO _ _) (Nat.ne_of_beq_eq_false rfl) (by kernel_rfl) (c := .int .i64 u1) (fun ρ w' ho hJ hK => by
    obtain ⟨h0, -⟩ := hK
    have h0' : ρ (.tmp 85) = _ := h0
    have hJ' : w'.ownsRow B 3 1 (Value.slice (some ⟨gl, 0, none⟩) n cl) n cs2 := hJ
    obtain ⟨u, e1, e2, e3⟩ := own_slot hJ' (j := X) (by omega)
    rw [hcu1] at e1
    cases e1
    go_simp) ?_
  refine rs_old (hO _ _) (.inl (Nat.ne_of_beq_eq_false rfl)) _ (.inl rfl) _ rfl rfl ?_
  apply rs_eq (hO _ _) (.inl (Nat.ne_of_beq_eq_false rfl))
  · intro ρ w' ho hK
    have ho : Only _ W5 w' := ho
    obtain ⟨h0, -⟩ := hK
    have h0' : ρ (.tmp 87) = _ := h0
    go_simp
    try exact rfl
  apply rs_eq (hO _ _) (.inl (Nat.ne_of_beq_eq_false rfl))
  · intro ρ w' ho hK
    have ho : Only _ W5 w' := ho
    obtain ⟨h0, -⟩ := hK
    have h0' : ρ (.tmp 88) = _ := h0
    go_simp
    try exact rfl
  apply rs_eq (hO _ _) (.inl (Nat.ne_of_beq_eq_false rfl))
  · intro ρ w' ho hK
    have ho : Only _ W5 w' := ho
    obtain ⟨h0, -⟩ := hK
    have h0' : ρ (.tmp 89) = _ := h0
    have q1 := cell_on ho (fun e => hbl e) hz7 (blk_cell hx10 2)
    go_simp
    try exact rfl
  refine rs_old (hO _ _) (.inl (Nat.ne_of_beq_eq_false rfl)) _ (.inl rfl) _ rfl rfl ?_
  apply rs_eq (hO _ _) (.inl (Nat.ne_of_beq_eq_false rfl))
  · intro ρ w' ho hK
    have ho : Only _ W5 w' := ho
    obtain ⟨h0, h1, -⟩ := hK
    have h0' : ρ (.tmp 91) = _ := h0
    have h1' : ρ (.const (Value.int IntKind.i64 2)) = (Value.int IntKind.i64 2) := h1
    go_simp
    try exact rfl
  apply rs_eq (hO _ _) (.inl (Nat.ne_of_beq_eq_false rfl))
  · intro ρ w' ho hK
    have ho : Only _ W5 w' := ho
    obtain ⟨h0, h1, -⟩ := hK
    have h0' : ρ (.tmp 90) = _ := h0
    have h1' : ρ (.tmp 92) = _ := h1
    go_simp
    try exact rfl
  refine rs_eq_before (hO _ _) (Nat.ne_of_beq_eq_false rfl) (by kernel_rfl) (c := .int .i64 u2) (fun ρ w' ho hJ hK => by
    obtain ⟨h0, -⟩ := hK
    have h0' : ρ (.tmp 93) = _ := h0
    have hJ' : w'.ownsRow B 3 1 (Value.slice (some ⟨gl, 0, none⟩) n cl) n cs2 := hJ
    obtain ⟨u, e1, e2, e3⟩ := own_slot hJ' (j := Z) (by omega)
    rw [hcu2] at e1
    cases e1
    go_simp) ?_
  apply rs_eq (hO _ _) (.inl (Nat.ne_of_beq_eq_false rfl))
  · intro ρ w' ho hK
    have ho : Only _ W5 w' := ho
    obtain ⟨h0, h1, -⟩ := hK
    have h0' : ρ (.tmp 86) = _ := h0
    have h1' : ρ (.tmp 94) = _ := h1
    go_simp
    try exact rfl
  apply rs_eq (hO _ _) (.inl (Nat.ne_of_beq_eq_false rfl))
  · intro ρ w' ho hK
    have ho : Only _ W5 w' := ho
    obtain ⟨h0, h1, -⟩ := hK
    have h0' : ρ (.const (Value.int IntKind.i64 1)) = (Value.int IntKind.i64 1) := h0
    have h1' : ρ (.tmp 95) = _ := h1
    go_simp
    try exact rfl
  refine rs_build1 (hO _ _) (.inl (Nat.ne_of_beq_eq_false rfl)) 1 [.int .i64 (1 + U)] 3 rfl (fun ρ w' ho hK => by
    have ho : Only _ W5 w' := ho
    obtain ⟨h0, -⟩ := hK
    have h0' : ρ (.tmp 96) = _ := h0
    go_simp) ?_
  refine rs_append2 rfl (B) 3 23 1 (Value.slice (some ⟨gl, 0, none⟩) n cl) (n) (cs2) _ rfl rfl (fun g hg => hg) (show B ≤ W5.heap.size by omega) _ _ rfl _ _ rfl rfl rfl rfl i0 _ 8 Try.underlying23 hi0 hz0 hz1 hz2 rfl (by decide) (by omega) (by decide) (by simp [Value.oneCell']) ?_
  apply rs_eq (hO _ _) (.inl (Nat.ne_of_beq_eq_false rfl))
  · intro ρ w' ho hK
    have ho : Only _ W5 w' := ho
    obtain ⟨h0, -⟩ := hK
    have h0' : ρ (.tmp 74) = _ := h0
    go_simp
    try exact rfl
  apply rs_eq (hO _ _) (.inl (Nat.ne_of_beq_eq_false rfl))
  · intro ρ w' ho hK
    have ho : Only _ W5 w' := ho
    obtain ⟨h0, -⟩ := hK
    have h0' : ρ (.tmp 99) = _ := h0
    go_simp
    try exact rfl
  intro f w9 k9 hk9 hI9 ht9 hcp9
  have E0 : f 0 = _ := ht9 0 (Nat.le_of_ble_eq_true rfl)
  conv at E0 => rhs; whnf
  have E1 : f 1 = _ := ht9 1 (Nat.le_of_ble_eq_true rfl)
  conv at E1 => rhs; whnf
  have E2 : f 2 = _ := ht9 2 (Nat.le_of_ble_eq_true rfl)
  have E3 : f 3 = _ := ht9 3 (Nat.le_of_ble_eq_true rfl)
  have E4 : f 4 = _ := ht9 4 (Nat.le_of_ble_eq_true rfl)
  have E5 : f 5 = _ := ht9 5 (Nat.le_of_ble_eq_true rfl)
  conv at E5 => rhs; whnf
  have E6 : f 6 = _ := ht9 6 (Nat.le_of_ble_eq_true rfl)
  have E7 : f 7 = _ := ht9 7 (Nat.le_of_ble_eq_true rfl)
  have E8 : f 8 = _ := ht9 8 (Nat.le_of_ble_eq_true rfl)
  have E9 : f 9 = _ := ht9 9 (Nat.le_of_ble_eq_true rfl)
  conv at E9 => rhs; whnf
  have E10 : f 10 = _ := ht9 10 (Nat.le_of_ble_eq_true rfl)
  have E11 : f 11 = _ := ht9 11 (Nat.le_of_ble_eq_true rfl)
  have E12 : f 12 = _ := ht9 12 (Nat.le_of_ble_eq_true rfl)
  have E13 : f 13 = _ := ht9 13 (Nat.le_of_ble_eq_true rfl)
  conv at E13 => rhs; whnf
  have E14 : f 14 = _ := ht9 14 (Nat.le_of_ble_eq_true rfl)
  have E15 : f 15 = _ := ht9 15 (Nat.le_of_ble_eq_true rfl)
  have E16 : f 16 = _ := ht9 16 (Nat.le_of_ble_eq_true rfl)
  have E17 : f 17 = _ := ht9 17 (Nat.le_of_ble_eq_true rfl)
  conv at E17 => rhs; whnf
  have E18 : f 18 = _ := ht9 18 (Nat.le_of_ble_eq_true rfl)
  have E19 : f 19 = _ := ht9 19 (Nat.le_of_ble_eq_true rfl)
  have E20 : f 20 = _ := ht9 20 (Nat.le_of_ble_eq_true rfl)
  have E21 : f 21 = _ := ht9 21 (Nat.le_of_ble_eq_true rfl)
  have E22 : f 22 = _ := ht9 22 (Nat.le_of_ble_eq_true rfl)
  have E23 : (TNew _ 1 1 [.int .i64 (1 + U)]) w9 (f 23) := ht9 23 (Nat.le_of_ble_eq_true rfl)
  have E24 : (TAny) w9 (f 24) := ht9 24 (Nat.le_of_ble_eq_true rfl)
  have E25 : f 25 = _ := ht9 25 (Nat.le_of_ble_eq_true rfl)
  have E26 : f 26 = _ := ht9 26 (Nat.le_of_ble_eq_true rfl)
  have Ho9 : Only _ W5 w9 := hI9.2.1
  have hown9 : w9.ownsRow (B) 3 1 (f 24) (n + 1) (cs2 ++ [.int .i64 (1 + U)]) := hI9.2.2.1
  have hat9 : ∀ g, (f 24).ownBlock = some g → (Value.slice (some ⟨gl, 0, none⟩) n cl).ownBlock = some g ∨ W5.heap.size ≤ g := hI9.2.2.2
  simp only [putAll, E0, E1, E2, E3, E4, E5, E6, E7, E8, E9, E10, E11, E12, E13, E14, E15, E16, E17, E18, E19, E20, E21, E22, E25, E26, Nat.zero_add, Nat.reduceAdd, Act.put, List.setIfInBounds_toArray, List.set_cons_succ, List.set_cons_zero, List.take, List.getElem_toArray, List.getElem_cons_succ, List.getElem_cons_zero]
  clear E0 E1 E2 E3 E4 E5 E6 E7 E8 E9 E10 E11 E12 E13 E14 E15 E16 E17 E18 E19 E20 E21 E22 E25 E26
  clear hI9 ht9 hcp9 hk9
  generalize f 23 = r23 at *
  generalize f 24 = r24 at *
  obtain ⟨W6, hW6⟩ : ∃ W, W = w9 := ⟨_, rfl⟩
  subst hW6
  have O10 : Only (fun g => (Value.slice (some ⟨gl, 0, none⟩) n cl).ownBlock = some g) W5 W6 := Ho9
  obtain ⟨A8, c8, hv8⟩ := slice_of_own hown9
  subst hv8
  have hx11 := (O10.block b hz7 hbl).trans hx10
  have q2 := blk_cell hx11 2
  have f2 := blk_free hx11 2
  have Hat10 := Lib.hid hat9
  have Hown10 := Lib.hid hown9
  have HO10 := Lib.hid O10
  clear Ho9 hown9 hat9 O10 E23 E24 hO hcu1 hcu2 hU
  go_wp2_with fail
  go_ret
  refine ⟨ret_int (by omega), fun g => E g ∨ (Value.slice A7 (G.length + 1) c7).ownBlock = some g ∨ (Value.slice A8 (n + 1) c8).ownBlock = some g, ?_, ?_, fun g hg => .inl hg, ?_⟩
  · exact ⟨m, .slice A7 (G.length + 1) c7, .slice A8 (n + 1) c8, L ++ [1 + U], bld_close HN.out H3.out (by omega) O4.out HM9.out HO9.out Hown9.out Hat9.out hW5 HO10.out Hown10.out Hat10.out hx11 Hk.out hV2 Hn.out.symm HLl.out hUb hcs Hcs2.out rfl⟩
  · have e4 := O4.out.size
    have e5 := HO10.out.size
    have eN : N ≤ W3.heap.size := by omega
    rintro g (hg | hg | hg)
    · exact .inl hg
    · rcases Hat9.out g hg with h | h
      · exact .inl (H3.out.eg g h)
      · right; omega
    · rcases Hat10.out g hg with h | h
      · exact .inl (H3.out.el g h)
      · right; omega
  · have b0 : Below N w W3 := HB.out.trans (B3.out.mono (by omega))
    have o1 : Only E w W3 := Only.grown (r := none) ⟨b0.os, b0.tape, b0.output, b0.size, fun k hk _ => b0.block k (by omega)⟩ (fun k hk => by cases hk)
    have o2 : Only E W3 w4 := O4.out.mono fun g hg => hg ▸ H3.out.em
    have o3 : Only E w4 W4 := HO9.out.mono fun g hg => H3.out.eg g hg
    have o4 : Only E W4 W5 := hW5 ▸ Only.grown (set_grown W4 b 1 _) (fun k hk => (Option.some.inj hk) ▸ H3.out.eb)
    have o5 : Only E W5 W6 := HO10.out.mono fun g hg => H3.out.el g (by rw [Hn.out] at hg; exact hg)
    exact ((((o1.trans o2).trans o3).trans o4).trans o5).trans (Only.grown (set_grown W6 b 2 _) (fun k hk => (Option.some.inj hk) ▸ H3.out.eb))
end Go.Proofs.Ytdgminjbgjbamaa
