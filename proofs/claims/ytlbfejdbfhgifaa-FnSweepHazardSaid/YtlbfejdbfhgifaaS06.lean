import Derived.Test.YtlbfejdbfhgifaaS05
import Derived.Test.YtlbfejdbfhgifaaS04
import Derived.Test.YtlbfejdbfhgifaaS01
set_option linter.unusedVariables false
set_option linter.unusedSimpArgs false
namespace Go.Proofs.Ytlbfejdbfhgifaa
open Go.RowKit
set_option maxRecDepth 100000
/-! MachineOf, by the reference. -/
/-- A row of single cells in blocks of a set. -/
def TIn (F : Nat → Prop) (cs : List Value) : Ty := fun w v => RowIn F w 1 v cs.length cs
theorem stb_in {E F : Nat → Prop} (hE : ∀ g, F g → ¬ E g) (cs : List Value) : Stb E (TIn F cs) := fun _ _ _ h ho => h.only ho hE
theorem stb_in_none (F : Nat → Prop) (cs : List Value) : Stb (fun _ => False) (TIn F cs) := stb_in (fun _ _ h => h) cs
def TStepIn (B : Nat) (so st : List Bool) : Ty := fun w v => ∃ a b, v = .agg #[a, b] ∧ RowIn (From B) w 1 a so.length (bools so) ∧ BoolsAt w b st
theorem stb_stepIn (B : Nat) (so st : List Bool) : Stb (fun _ => False) (TStepIn B so st) := by
  rintro v w w' ⟨a, b, rfl, h1, h2⟩ ho
  exact ⟨a, b, rfl, h1.below (only_below ho), stb_bools _ _ _ _ h2 ho⟩
theorem Only.after {E F : Nat → Prop} {a b c : World} (h : Only E a b) (h' : Only F b c) (hF : ∀ g, F g → a.heap.size ≤ g ∨ E g) : Only E a c :=
  ⟨h'.os.trans h.os, h'.tape.trans h.tape, h'.output.trans h.output, Nat.le_trans h.size h'.size, fun k hk hn => (h'.block k (Nat.lt_of_lt_of_le hk h.size) fun hf => by
    rcases hF k hf with e | e
    · omega
    · exact hn e).trans (h.block k hk hn)⟩
/-- A machine, as a result to read. -/
def ReadMach (m : Mz) (w : World) (e : Ending) (w' : World) : Prop := (∃ v, e = .returned v ∧ MachAt w' v m) ∧ Below w.heap.size w w'
/-- A machine whose rows lie in new memory. -/
def MachIn (B : Nat) (w : World) (v : Value) (m : Mz) : Prop := ∃ vn vo, v = .agg #[.int .i64 m.ins, vn, vo] ∧ SSIn ints (From B) w vn m.next ∧ SSIn ints (From B) w vo m.out
theorem MachIn.at {B : Nat} {w : World} {v : Value} {m : Mz} (h : MachIn B w v m) : MachAt w v m := by
  obtain ⟨vn, vo, rfl, h1, h2⟩ := h
  exact ⟨vn, vo, rfl, h1.at, h2.at⟩
theorem MachIn.only {B : Nat} {w w' : World} {v : Value} {m : Mz} {E : Nat → Prop} (h : MachIn B w v m) (ho : Only E w w') (hE : ∀ g, B ≤ g → ¬ E g) : MachIn B w' v m := by
  obtain ⟨vn, vo, rfl, h1, h2⟩ := h
  exact ⟨vn, vo, rfl, h1.only ho hE, h2.only ho hE⟩
theorem MachIn.mono {B B' : Nat} {w : World} {v : Value} {m : Mz} (h : MachIn B w v m) (hB : B' ≤ B) : MachIn B' w v m := by
  obtain ⟨vn, vo, rfl, h1, h2⟩ := h
  exact ⟨vn, vo, rfl, h1.mono fun g hg => Nat.le_trans hB hg, h2.mono fun g hg => Nat.le_trans hB hg⟩
theorem OwnSE.innM {α : Type} {enc : List α → List Value} {tO ti : TypeId} {B : Nat} {E : Nat → Prop} {w : World} {v : Value} {xss : List (List α)} (h : OwnSE enc tO ti B E w v xss) : SSIn enc (From B) w v xss := by
  obtain ⟨vs, h1, h2, h3, -⟩ := h
  exact ⟨vs, h1, (RowIn.of_own h2).mono fun g hg => hg.1, fun i x u hx hu => (RowIn.of_own (h3 i x u hx hu)).mono fun g hg => hg.1⟩
def ReadMachF (m : Mz) (w : World) (e : Ending) (w' : World) : Prop := (∃ v, e = .returned v ∧ MachIn (w.heap.size + 1) w' v m) ∧ Below w.heap.size w w'
theorem ReadMachF.read {m : Mz} {w : World} {e : Ending} {w' : World} (h : ReadMachF m w e w') : ReadMach m w e w' := by
  obtain ⟨⟨v, h1, h2⟩, h3⟩ := h
  exact ⟨⟨v, h1, h2.at⟩, h3⟩
theorem rowI_snoc {d : Ci} {s j : Nat} (h : j < 2 ^ d.ins) : (Cir.rowI d s).take (j + 1) = (Cir.rowI d s).take j ++ [idxOf (Cir.reach d) (Cir.nextOf d s j)] := by
  refine take_snoc ?_
  unfold Cir.rowI Cir.rowN
  simp [h]
theorem rowO_snoc {d : Ci} {s j : Nat} (h : j < 2 ^ d.ins) : (nats (Cir.rowO d s)).take (j + 1) = (nats (Cir.rowO d s)).take j ++ [((Cir.num (Cir.outsOf d s j) : Nat) : Int)] := by
  refine take_snoc ?_
  unfold nats Cir.rowO
  simp [h]
end Go.Proofs.Ytlbfejdbfhgifaa

namespace Go.Proofs.Ytlbfejdbfhgifaa
open Go.RowKit
set_option maxRecDepth 100000
/-! Hazards, by the reference. -/
theorem tbits_snoc (x k : Nat) : nints (Cir.tbits x (k + 1)) = nints (Cir.tbits x k) ++ [.int .i64 ((x / 2 ^ k % 2 : Nat) : Int)] := by
  unfold Cir.tbits Cir.bits
  rw [List.range_succ, List.map_append, List.map_append]
  unfold nints nats ints
  rw [List.map_append, List.map_append]
  simp [Nat.toNat_testBit]
theorem tbits_length (x n : Nat) : (Cir.tbits x n).length = n := by unfold Cir.tbits; rw [List.length_map, Cir.bits_length]
set_option maxHeartbeats 4000000 in
theorem l33Terns_any (v : Value) (d : Ci) (x k : Nat) (w : World) (h : CircAt w v (Cir.toCz d)) (hd : Cir.Ok d) (hx : x ≤ 1000) (hk : k < d.ins) :
    Calls Try.prog 42 #[v, .int .i64 x, .int .i64 k] w fun e w' => (∃ a b, e = .returned (.tuple #[a, b]) ∧ NatsAt w' a ((Cir.tbits x d.ins).set k 2) ∧ NatsAt w' b (Cir.tbits (x / 2 ^ d.ins) d.next.length)) ∧ Below w.heap.size w w' := by
  have l1 := hd.ins
  have l2 := hd.nexts
  obtain ⟨vn, vg, vo, rfl, r1, r2, r3⟩ := h
  obtain ⟨An, cn, rfl, hcn, hcmn⟩ := NatsAt.shape (xs := d.next) r1
  unfold maxLen at hcmn
  have hins : (Cir.toCz d).ins = (d.ins : Int) := rfl
  rw [hins]
  have B0 := Lib.hid (bel_new w (.cells #[.int .i64 d.ins, .slice An d.next.length cn, vg, vo] 31))
  have hsz : (w.alloc (.cells #[.int .i64 d.ins, .slice An d.next.length cn, vg, vo] 31)).heap.size = w.heap.size + 1 := by simp
  have PC := Lib.hid (PCells.boxed w d.ins (.slice An d.next.length cn) vg vo 31)
  clear r1 r2 r3 hd hins
  go_enter Try.func42, Try.ntmps42
  go_wp2_with fail
  generalize w.alloc (.cells #[.int .i64 d.ins, .slice An d.next.length cn, vg, vo] 31) = W at *
  have hs1 : (W.alloc (.cells #[] 3)).heap.size = W.heap.size + 1 := by simp
  have HA0 : Hid (((W.alloc (.cells #[] 3)).alloc (.cells #[] 3)).ownsRow W.heap.size 3 1 (.slice (some ⟨w.heap.size + 1, 0, none⟩) 0 0) 0 (nints (Cir.tbits x 0))) := Lib.hid (by
    have := (World.ownsRow_lit (base := W.heap.size) (e := 3) (size := 1) W #[] 0 (Nat.le_refl _) (by unfold maxLen; omega) rfl).alloc (.cells #[] 3)
    rw [hsz] at this ⊢
    exact this)
  have HB0 : Hid (((W.alloc (.cells #[] 3)).alloc (.cells #[] 3)).ownsRow W.heap.size 3 1 (.slice (some ⟨w.heap.size + 1 + 1, 0, none⟩) 0 0) 0 (nints (Cir.tbits (x / 2 ^ d.ins) 0))) := Lib.hid (by
    have := (World.ownsRow_lit (base := W.heap.size) (e := 3) (size := 1) (W.alloc (.cells #[] 3)) #[] 0 (by omega) (by unfold maxLen; omega) rfl)
    rw [hs1, hsz] at this
    rw [hsz]
    exact this)
  have hb0 := bel_new W (.cells #[] 3)
  have HBW := Lib.hid (hb0.trans ((bel_new (W.alloc (.cells #[] 3)) (.cells #[] 3)).mono hb0.size))
  have HN0 : Hid ((Value.slice (some ⟨w.heap.size + 1, 0, none⟩) 0 0).ownBlock ≠ some (w.heap.size + 1 + 1)) := Lib.hid (by
    intro e
    have := Option.some.inj e
    simp only at this
    omega)
  have hs2 : ((W.alloc (.cells #[] 3)).alloc (.cells #[] 3)).heap.size = w.heap.size + 1 + 1 + 1 := by simp [hsz]
  generalize (W.alloc (.cells #[] 3)).alloc (.cells #[] 3) = W2 at *
  clear hb0 hs1
  go_loopw [8, 10] (fun v i wr => ∃ (vv : Value) (j : Nat), vv = v ∧ i = .int .i64 j ∧ j ≤ d.ins ∧ Hid (wr.ownsRow W.heap.size 3 1 v j (nints (Cir.tbits x j))) ∧ Hid (wr.ownsRow W.heap.size 3 1 (.slice (some ⟨w.heap.size + 1 + 1, 0, none⟩) 0 0) 0 (nints (Cir.tbits (x / 2 ^ d.ins) 0))) ∧ Hid (v.ownBlock ≠ some (w.heap.size + 1 + 1)) ∧ Below W.heap.size W wr ∧ w.heap.size + 1 + 1 < wr.heap.size) (fun _ i _ => d.ins - (intOf i).toNat)
  case atStart => exact ⟨_, 0, rfl, rfl, Nat.zero_le _, HA0, HB0, HN0, HBW.out, by omega⟩
  case round =>
    obtain ⟨vv, j, hvv, rfl, hj, Ha, Hb0, Hn, hb, zr⟩ := hrel
    subst hvv
    clear HA0 HB0 HN0 HBW hs2
    have Hb := Lib.hid hb
    have hzb := hb.size
    have PCr := Lib.hid (PC.out.below hb)
    clear hb
    obtain ⟨z, p0, p1, p2, p3⟩ := PCr.out
    by_cases hlt : j < d.ins
    · have hdj : decide (j < d.ins) = true := decide_eq_true hlt
      have HS := Lib.hid (tbits_snoc x j)
      have hq : (x : Int) / 2 ^ j = ((x / 2 ^ j : Nat) : Int) := by rw [Int.natCast_ediv, two_pow]
      have hm := tmod_two (x / 2 ^ j)
      generalize x / 2 ^ j = y at hq hm HS
      generalize y % 2 = r at hm HS
      have Hlit := Lib.hid (Row.of_own (World.ownsRow_lit (base := wr.heap.size) (e := 3) (size := 1) wr #[.int .i64 (r : Nat)] 1 (Nat.le_refl _) (by unfold maxLen; omega) rfl))
      go_wp2_with (at_builtin; refine append_ints rfl (.tmp 20) (.tmp 25) rfl W.heap.size _ j _ rfl (Ha.out.alloc _) _ 1 [.int .i64 (r : Nat)] rfl Hlit.out (by simp [Value.oneCell']) (by omega) (by simp; omega) ?_; intro v7 w7 hown7 hg7 hat7; have Ho7 := Lib.hid hown7; have Hg7 := Lib.hid hg7; have Hat7 := Lib.hid hat7; clear hown7 hg7 hat7)
      go_roundw
      case rel =>
        refine ⟨_, j + 1, rfl, by go_num, by omega, Lib.hid (by rw [HS.out]; exact Ho7.out), Lib.hid (own_kept (Hb0.out.alloc _) Hg7.out (fun g hg e => ?_)), Lib.hid (fun e => ?_), (Hb.out.alloc hzb _).grown Hg7.out (Hb.out.alloc hzb _).size (own_ge0 Ha.out), ?_⟩
        · have hg2 := Option.some.inj hg
          simp only at hg2
          exact Hn.out (by rw [hg2]; exact e)
        · rcases Hat7.out with h | h
          · exact Hn.out (h ▸ e)
          · rw [h] at e
            have := Option.some.inj e
            rw [World.size_alloc] at this
            omega
        · have := Hg7.out.size
          rw [World.size_alloc] at this
          omega
      case measure => simp [intOf] <;> omega
    · obtain rfl : j = d.ins := by omega
      have hdj : decide (d.ins < d.ins) = false := decide_eq_false (by omega)
      have Hap : Hid (∀ g, vv.ownBlock = some g → (Value.slice (some ⟨w.heap.size + 1 + 1, 0, none⟩) 0 0).ownBlock ≠ some g) := Lib.hid (fun g hg e => by
        have hg2 := Option.some.inj e
        simp only at hg2
        exact Hn.out (by rw [hg2]; exact hg))
      go_wp2_with fail
      clear z p0 p1 p2 p3 Hn
      go_loopw [9, 11] (fun v i wr => ∃ (ub : Value) (j : Nat), ub = v ∧ i = .int .i64 j ∧ j ≤ d.next.length ∧ Hid (wr.ownsRow W.heap.size 3 1 vv d.ins (nints (Cir.tbits x d.ins))) ∧ Hid (wr.ownsRow W.heap.size 3 1 v j (nints (Cir.tbits (x / 2 ^ d.ins) j))) ∧ Hid (Apart vv v) ∧ Below W.heap.size W wr) (fun _ i _ => d.next.length - (intOf i).toNat)
      case atStart => exact ⟨_, 0, rfl, rfl, Nat.zero_le _, Ha, Hb0, Hap, Hb.out⟩
      case round =>
        obtain ⟨ub, j, hub, rfl, hj, Ha, Hbb, Hap, hb⟩ := hrel
        subst hub
        clear Hb0 PCr Hb
        have Hb := Lib.hid hb
        have hzb := hb.size
        have PCr := Lib.hid (PC.out.below hb)
        clear hb
        obtain ⟨z, p0, p1, p2, p3⟩ := PCr.out
        by_cases hlt : j < d.next.length
        · have hdj2 : decide (j < d.next.length) = true := decide_eq_true hlt
          have HS := Lib.hid (tbits_snoc (x / 2 ^ d.ins) j)
          have hq : (x : Int) / 2 ^ (d.ins + j) = ((x / 2 ^ d.ins / 2 ^ j : Nat) : Int) := by rw [Nat.div_div_eq_div_mul, ← Nat.pow_add, Int.natCast_ediv, two_pow]
          have hwij : IntKind.i64.wrap ((d.ins : Int) + (j : Int)) = (d.ins : Int) + (j : Int) := IntWalk.i64_in _ (by omega)
          have htn : ((d.ins : Int) + (j : Int)).toNat = d.ins + j := by omega
          have h0ij : ¬ ((d.ins : Int) + (j : Int) < 0) := by omega
          have hm := tmod_two (x / 2 ^ d.ins / 2 ^ j)
          generalize x / 2 ^ d.ins / 2 ^ j = y at hq hm HS
          generalize y % 2 = r at hm HS
          have Hlit := Lib.hid (Row.of_own (World.ownsRow_lit (base := wr.heap.size) (e := 3) (size := 1) wr #[.int .i64 (r : Nat)] 1 (Nat.le_refl _) (by unfold maxLen; omega) rfl))
          go_wp2_with (at_builtin; refine append_ints rfl (.tmp 34) (.tmp 42) rfl W.heap.size _ j _ rfl (Hbb.out.alloc _) _ 1 [.int .i64 (r : Nat)] rfl Hlit.out (by simp [Value.oneCell']) (by omega) (by simp; omega) ?_; intro v7 w7 hown7 hg7 hat7; have Ho7 := Lib.hid hown7; have Hg7 := Lib.hid hg7; have Hat7 := Lib.hid hat7; clear hown7 hg7 hat7)
          go_roundw
          case rel =>
            refine ⟨_, j + 1, rfl, by go_num, by omega, Lib.hid (own_kept (Ha.out.alloc _) Hg7.out (fun g hg => Hap.out g hg)), Lib.hid (by rw [HS.out]; exact Ho7.out), Lib.hid (fun g hg e => ?_), (Hb.out.alloc hzb _).grown Hg7.out (Hb.out.alloc hzb _).size (own_ge0 Hbb.out)⟩
            rcases Hat7.out with h | h
            · exact Hap.out g hg (h ▸ e)
            · rw [h] at e
              have h1 := Option.some.inj e
              rw [World.size_alloc] at h1
              have h2 := (Ha.out.lt g hg).2
              omega
          case measure => simp [intOf] <;> omega
        · obtain rfl : j = d.next.length := by omega
          have hdj2 : decide (d.next.length < d.next.length) = false := decide_eq_false (by omega)
          obtain ⟨g3, c3, hv3, hg3b, hg3l, -⟩ := own_open Ha.out (by omega)
          subst hv3
          obtain ⟨u3, _, hs3, hf3⟩ := own_slot Ha.out (j := k) (by omega)
          have Hst := Lib.hid (Ha.out.stored k (.int .i64 2))
          have HT3 : Hid ((nints (Cir.tbits x d.ins)).set k (.int .i64 2) = nints ((Cir.tbits x d.ins).set k 2)) := Lib.hid (by
            unfold nints ints nats
            simp [List.map_set])
          go_wp2_with fail
          refine bodyPost_ret (v := .tuple #[.slice (some ⟨g3, 0, none⟩) d.ins c3, ub]) (by simp [results, Try.results42, go_sem]) rfl ⟨⟨_, _, rfl, ?_, ?_⟩, ?_⟩
          · have := Hst.out.1
            rw [HT3.out] at this
            exact nats_own this (by rw [List.length_set]; exact tbits_length _ _)
          · exact nats_own (own_kept Hbb.out Hst.out.2 (fun g hg e => Hap.out g e hg)) (tbits_length _ _)
          · exact B0.out.trans ((Hb.out.grown Hst.out.2 hzb (fun q hq => by have := Option.some.inj hq; omega)).mono B0.out.size)
theorem PCells.onlyH {E : Nat → Prop} {w w' : World} {g : Nat} {i : Int} {vn vg vo : Value} (h : PCells w g i vn vg vo) (ho : Only E w w') (hE : ¬ E g) : PCells w' g i vn vg vo := by
  obtain ⟨hg, c0, c1, c2, c3⟩ := h
  have hk := ho.block g hg hE
  exact ⟨Nat.lt_of_lt_of_le hg ho.size, (World.cell?_of_block (a := ⟨g, 0, none⟩) hk).trans c0, (World.cell?_of_block (a := ⟨g, 1, none⟩) hk).trans c1, (World.cell?_of_block (a := ⟨g, 2, none⟩) hk).trans c2, (World.cell?_of_block (a := ⟨g, 3, none⟩) hk).trans c3⟩
set_option maxHeartbeats 16000000 in
theorem specHaz_ok (v : Value) (d : Ci) (w : World) (h : CircAt w v (Cir.toCz d)) (hd : Cir.Ok d) (hv : Cir.valid (Cir.toCz d) = true) :
    Calls Try.prog 11 #[v] w (OwnHaz (Cir.hazards d) w) := by
  have l1 := hd.ins
  have l2 := hd.nexts
  have l3 := hd.gatess
  have l4 := hd.outss
  have HC := Lib.hid h
  obtain ⟨vn, vg, vo, rfl, r1, r2, r3⟩ := h
  obtain ⟨Ao, co, rfl, hco, hcom⟩ := NatsAt.shape (xs := d.outs) r3
  obtain ⟨An, cn, rfl, hcn, hcmn⟩ := NatsAt.shape (xs := d.next) r1
  have hins : (Cir.toCz d).ins = (d.ins : Int) := rfl
  rw [hins] at HC ⊢
  have B0 := Lib.hid (bel_new w (.cells #[.int .i64 d.ins, .slice An d.next.length cn, vg, .slice Ao d.outs.length co] 31))
  have PC := Lib.hid (PCells.boxed w d.ins (.slice An d.next.length cn) vg (.slice Ao d.outs.length co) 31)
  have hsz : (w.alloc (.cells #[.int .i64 d.ins, .slice An d.next.length cn, vg, .slice Ao d.outs.length co] 31)).heap.size = w.heap.size + 1 := by simp
  have HC0 := Lib.hid (HC.out.below B0.out)
  have HV := Lib.hid (fun w' hb => specValid_any _ _ w' (HC0.out.below hb))
  rw [hv] at HV
  have HO := Lib.hid (show NatsAt (w.alloc (.cells #[.int .i64 d.ins, .slice An d.next.length cn, vg, .slice Ao d.outs.length co] 31)) (.slice Ao d.outs.length co) d.outs from Row.below r3 B0.out)
  have Hd := Lib.hid hd
  have Hv := Lib.hid hv
  obtain ⟨M, hM⟩ : ∃ M : Nat, M = 2 ^ (d.ins + d.next.length) := ⟨_, rfl⟩
  have hM128 : M ≤ 128 := by rw [hM]; exact Nat.pow_le_pow_right (show 0 < 2 by decide) (show _ ≤ 7 by omega)
  have eM : (2 : Int) ^ (d.ins + d.next.length) = (M : Int) := by rw [hM]; exact two_pow _
  have hwM := IntWalk.i64_in (M : Int) (by omega)
  have hwS : IntKind.i64.wrap ((d.ins : Int) + (d.next.length : Int)) = (d.ins : Int) + (d.next.length : Int) := IntWalk.i64_in _ (by omega)
  have htS : ((d.ins : Int) + (d.next.length : Int)).toNat = d.ins + d.next.length := by omega
  have h0S : ¬ ((d.ins : Int) + (d.next.length : Int) < 0) := by omega
  have HH : Hid (Cir.hazards d = Cir.hzX d M) := Lib.hid (by rw [hM]; rfl)
  have HLX := Lib.hid (fun x => Cir.hzX_len d hd x)
  have HLK := Lib.hid (fun x k => Cir.hzK_len d hd x k)
  rw [HH.out]
  have HL0 : Hid (((w.alloc (.cells #[.int .i64 d.ins, .slice An d.next.length cn, vg, .slice Ao d.outs.length co] 31)).alloc (.cells #[] 57)).ownsRow (w.heap.size + 1) 57 3 (.slice (some ⟨w.heap.size + 1, 0, none⟩) 0 0) 0 (trips [])) := Lib.hid (by
    have := World.ownsRow_lit (base := w.heap.size + 1) (e := 57) (size := 3) (w.alloc (.cells #[.int .i64 d.ins, .slice An d.next.length cn, vg, .slice Ao d.outs.length co] 31)) #[] 0 (by simp) (by unfold maxLen; omega) rfl
    rwa [World.size_alloc] at this)
  have HB1 := Lib.hid (bel_new (w.alloc (.cells #[.int .i64 d.ins, .slice An d.next.length cn, vg, .slice Ao d.outs.length co] 31)) (.cells #[] 57))
  obtain ⟨z, p0, p1, p2, p3⟩ := PC.out.below HB1.out
  clear r1 r2 r3 hd hins hv HC hco hcom hcn hcmn hM HH
  go_enter Try.func11, Try.ntmps11
  go_wp2_with fail
  generalize w.alloc (.cells #[.int .i64 d.ins, .slice An d.next.length cn, vg, .slice Ao d.outs.length co] 31) = W at *
  refine (HV.out _ HB1.out).mono ?_
  rintro e w1 ⟨rfl, hb1⟩
  have Hb1 := Lib.hid (HB1.out.trans (hb1.mono HB1.out.size))
  have HL1 := Lib.hid (own_below HL0.out hb1)
  clear hb1 HB1 HL0 p0 p1 p2 p3 z HV
  obtain ⟨z, p0, p1, p2, p3⟩ := PC.out.below Hb1.out
  go_wp2_with fail
  clear z p0 p1 p2 p3
  go_loopw [3, 4] (fun v i wr => ∃ (vv : Value) (x : Nat), vv = v ∧ i = .int .i64 x ∧ x ≤ M ∧ Hid (wr.ownsRow W.heap.size 57 3 v (Cir.hzX d x).length (trips (Cir.hzX d x))) ∧ Below W.heap.size W wr) (fun _ i _ => M - (intOf i).toNat)
  case atStart => exact ⟨_, 0, rfl, rfl, Nat.zero_le _, Lib.hid (own_mono HL1.out (by omega)), Hb1.out⟩
  case round =>
    obtain ⟨vv, x, hvv, rfl, hx, Hl, hb⟩ := hrel
    subst hvv
    clear Hb1 HL1
    have Hb := Lib.hid hb
    have zb := hb.size
    have PCr := Lib.hid (PC.out.below hb)
    clear hb
    obtain ⟨z, p0, p1, p2, p3⟩ := PCr.out
    by_cases hlx : x < M
    · have hdx : decide (x < M) = true := decide_eq_true hlx
      have HX1 : Hid (Cir.hzX d (x + 1) = Cir.hzX d x ++ Cir.hzK d x d.ins) := Lib.hid rfl
      have hX := HLX.out x
      obtain ⟨X, hXe⟩ : ∃ X, Cir.hzX d x = X := ⟨_, rfl⟩
      have Hl0 : Hid (wr.ownsRow W.heap.size 57 3 vv (X ++ Cir.hzK d x 0).length (trips (X ++ Cir.hzK d x 0))) := Lib.hid (by rw [← hXe]; rw [show Cir.hzX d x ++ Cir.hzK d x 0 = Cir.hzX d x from List.append_nil _]; exact Hl.out)
      rw [hXe] at HX1 hX
      clear Hl hXe
      go_wp2_with fail
      clear z p0 p1 p2 p3
      go_loopw [3, 5] (fun v i wr => ∃ (vv : Value) (k : Nat), vv = v ∧ i = .int .i64 k ∧ k ≤ d.ins ∧ Hid (wr.ownsRow W.heap.size 57 3 v (X ++ Cir.hzK d x k).length (trips (X ++ Cir.hzK d x k))) ∧ Below W.heap.size W wr) (fun _ i _ => d.ins - (intOf i).toNat)
      case atStart => exact ⟨_, 0, rfl, rfl, Nat.zero_le _, Hl0, Hb.out⟩
      case round =>
        obtain ⟨vv, k, hvv, rfl, hk, Hl, hb⟩ := hrel
        subst hvv
        clear Hl0 PCr Hb zb
        have Hb := Lib.hid hb
        have zb := hb.size
        have PCr := Lib.hid (PC.out.below hb)
        clear hb
        obtain ⟨z, p0, p1, p2, p3⟩ := PCr.out
        by_cases hlk : k < d.ins
        · have hdk : decide (k < d.ins) = true := decide_eq_true hlk
          have g3 : (x : Int) / 2 ^ k = ((x / 2 ^ k : Nat) : Int) := by rw [Int.natCast_ediv, two_pow]
          have g1 := tmod_two (x / 2 ^ k)
          have g2 := (bit_and x k (by omega)).2.1
          have hK := HLK.out x k
          have HKs := Lib.hid (fun h => Cir.hzK_skip (d := d) (x := x) (k := k) h)
          have HKa := Lib.hid (fun h => Cir.hzK_all (d := d) (x := x) (k := k) h)
          generalize x / 2 ^ k = y at g1 g2 g3
          generalize y % 2 = r at g1 g2
          cases hbit : x.testBit k
          · have HKn := Lib.hid (HKa.out hbit)
            rw [hbit] at g2
            have hp8 := Cir.pow_small (k := k) (by omega)
            obtain ⟨p, hp⟩ : ∃ p, 2 ^ k = p := ⟨_, rfl⟩
            have hpI : (2 : Int) ^ k = (p : Int) := by rw [← hp]; exact two_pow k
            rw [hpI] at g3
            rw [hp] at hp8
            have hwp := IntWalk.i64_in (p : Int) (by omega)
            obtain ⟨xp, hxp⟩ : ∃ xp, x + p = xp := ⟨_, rfl⟩
            have hwxp : IntKind.i64.wrap ((x : Int) + (p : Int)) = (xp : Int) := (IntWalk.i64_in _ (by omega)).trans (by omega)
            have Hxp := Lib.hid hxp
            have hxpb : xp ≤ 1000 := by omega
            clear hxp
            clear HKs HKa hbit
            have HCk := Lib.hid (HC0.out.below Hb.out)
            obtain ⟨xq, hxq⟩ : ∃ q : Nat, x / 2 ^ d.ins = q := ⟨_, rfl⟩
            obtain ⟨yq, hyq⟩ : ∃ q : Nat, xp / 2 ^ d.ins = q := ⟨_, rfl⟩
            have hqx : (x : Int) / 2 ^ d.ins = (xq : Int) := by rw [← hxq, Int.natCast_ediv, two_pow]
            have hqy : (xp : Int) / 2 ^ d.ins = (yq : Int) := by rw [← hyq, Int.natCast_ediv, two_pow]
            have hxq2 : xq ≤ 1000 := by rw [← hxq]; exact Nat.le_trans (Nat.div_le_self _ _) (by omega)
            have hyq2 : yq ≤ 1000 := by rw [← hyq]; exact Nat.le_trans (Nat.div_le_self _ _) (by omega)
            have HoA : Hid (Cir.lits (Cir.vals d (Cir.bits xq d.next.length) (Cir.bits x d.ins)) d.outs = Cir.outsA d x) := Lib.hid (by rw [← hxq]; rfl)
            have HoB : Hid (Cir.lits (Cir.vals d (Cir.bits yq d.next.length) (Cir.bits xp d.ins)) d.outs = Cir.outsA d xp) := Lib.hid (by rw [← hyq]; rfl)
            have Hxq := Lib.hid hxq
            clear hxq hyq
            obtain ⟨Wk, hWk⟩ : ∃ Wk, Wk = wr := ⟨_, rfl⟩
            subst hWk
            go_wp2_with fail
            refine wp_region_rs (quietRS Try.prog _ Wk _) quietRS_ok (by kernel_rfl) (by kernel_rfl) (by kernel_rfl) (Nat.le_of_ble_eq_true rfl) trivial trivial ?_
            apply rs_eq quietRS_ok quiet_any
            · intro ρ w' ho hK
              have ho : Only _ Wk w' := ho
              obtain ⟨h0, -⟩ := hK
              have h0' : ρ (.tmp 1) = _ := h0
              have hb := only_below ho
              have q0 := (hb.cell (p := ⟨w.heap.size, 0, none⟩) z).trans p0
              have q1 := (hb.cell (p := ⟨w.heap.size, 1, none⟩) z).trans p1
              have q2 := (hb.cell (p := ⟨w.heap.size, 2, none⟩) z).trans p2
              have q3 := (hb.cell (p := ⟨w.heap.size, 3, none⟩) z).trans p3
              go_simp
              try exact rfl
            refine rs_old quietRS_ok quiet_any _ (.inl rfl) _ rfl rfl ?_
            apply rs_eq quietRS_ok quiet_any
            · intro ρ w' ho hK
              have ho : Only _ Wk w' := ho
              obtain ⟨h0, -⟩ := hK
              have h0' : ρ (.tmp 1) = _ := h0
              go_simp
              try exact rfl
            apply rs_eq quietRS_ok quiet_any
            · intro ρ w' ho hK
              have ho : Only _ Wk w' := ho
              obtain ⟨h0, -⟩ := hK
              have h0' : ρ (.tmp 46) = _ := h0
              have hb := only_below ho
              have q0 := (hb.cell (p := ⟨w.heap.size, 0, none⟩) z).trans p0
              have q1 := (hb.cell (p := ⟨w.heap.size, 1, none⟩) z).trans p1
              have q2 := (hb.cell (p := ⟨w.heap.size, 2, none⟩) z).trans p2
              have q3 := (hb.cell (p := ⟨w.heap.size, 3, none⟩) z).trans p3
              go_simp
              try exact rfl
            apply rs_eq quietRS_ok quiet_any
            · intro ρ w' ho hK
              have ho : Only _ Wk w' := ho
              obtain ⟨h0, h1, -⟩ := hK
              have h0' : ρ (.tmp 45) = _ := h0
              have h1' : ρ (.tmp 47) = _ := h1
              go_simp
              try exact rfl
            apply rs_eq quietRS_ok quiet_any
            · intro ρ w' ho hK
              have ho : Only _ Wk w' := ho
              obtain ⟨h0, -⟩ := hK
              have h0' : ρ (.tmp 1) = _ := h0
              go_simp
              try exact rfl
            apply rs_eq quietRS_ok quiet_any
            · intro ρ w' ho hK
              have ho : Only _ Wk w' := ho
              obtain ⟨h0, -⟩ := hK
              have h0' : ρ (.tmp 49) = _ := h0
              have hb := only_below ho
              have q0 := (hb.cell (p := ⟨w.heap.size, 0, none⟩) z).trans p0
              have q1 := (hb.cell (p := ⟨w.heap.size, 1, none⟩) z).trans p1
              have q2 := (hb.cell (p := ⟨w.heap.size, 2, none⟩) z).trans p2
              have q3 := (hb.cell (p := ⟨w.heap.size, 3, none⟩) z).trans p3
              go_simp
              try exact rfl
            apply rs_eq quietRS_ok quiet_any
            · intro ρ w' ho hK
              have ho : Only _ Wk w' := ho
              obtain ⟨h0, -⟩ := hK
              have h0' : ρ (.tmp 50) = _ := h0
              go_simp
              try exact rfl
            refine rs_call quietRS_ok quiet_any (TBools (Cir.bits xq d.next.length)) (stb_bools _) 41 _ _ rfl (fun ρ w' ho hK => by
              have ho : Only _ Wk w' := ho
              obtain ⟨h0, h1, h2, -⟩ := hK
              have h0' : ρ (.func 41) = .func (.func 41) #[] #[] := h0
              have h1' : ρ (.tmp 48) = _ := h1
              have h2' : ρ (.tmp 51) = _ := h2
              refine ⟨#[ρ (.tmp 48), ρ (.tmp 51)], ?_, ?_⟩
              · go_simp
              · rw [h1', h2']
                refine (l4Bits_any xq d.next.length w' (by omega) (by omega)).mono ?_
                rintro e w2 ⟨v2, rfl, hO, hb⟩
                exact ⟨v2, rfl, Row.of_own hO, hb⟩) ?_
            refine rs_old quietRS_ok quiet_any _ (.inl rfl) _ rfl rfl ?_
            apply rs_eq quietRS_ok quiet_any
            · intro ρ w' ho hK
              have ho : Only _ Wk w' := ho
              obtain ⟨h0, -⟩ := hK
              have h0' : ρ (.tmp 1) = _ := h0
              go_simp
              try exact rfl
            apply rs_eq quietRS_ok quiet_any
            · intro ρ w' ho hK
              have ho : Only _ Wk w' := ho
              obtain ⟨h0, -⟩ := hK
              have h0' : ρ (.tmp 54) = _ := h0
              have hb := only_below ho
              have q0 := (hb.cell (p := ⟨w.heap.size, 0, none⟩) z).trans p0
              have q1 := (hb.cell (p := ⟨w.heap.size, 1, none⟩) z).trans p1
              have q2 := (hb.cell (p := ⟨w.heap.size, 2, none⟩) z).trans p2
              have q3 := (hb.cell (p := ⟨w.heap.size, 3, none⟩) z).trans p3
              go_simp
              try exact rfl
            refine rs_call quietRS_ok quiet_any (TBools (Cir.bits x d.ins)) (stb_bools _) 41 _ _ rfl (fun ρ w' ho hK => by
              have ho : Only _ Wk w' := ho
              obtain ⟨h0, h1, h2, -⟩ := hK
              have h0' : ρ (.func 41) = .func (.func 41) #[] #[] := h0
              have h1' : ρ (.tmp 53) = _ := h1
              have h2' : ρ (.tmp 55) = _ := h2
              refine ⟨#[ρ (.tmp 53), ρ (.tmp 55)], ?_, ?_⟩
              · go_simp
              · rw [h1', h2']
                refine (l4Bits_any x d.ins w' (by omega) (by omega)).mono ?_
                rintro e w2 ⟨v2, rfl, hO, hb⟩
                exact ⟨v2, rfl, Row.of_own hO, hb⟩) ?_
            refine rs_call quietRS_ok quiet_any (TStepIn Wk.heap.size (Cir.outsA d x) (Cir.lits (Cir.vals d (Cir.bits xq d.next.length) (Cir.bits x d.ins)) d.next)) (stb_stepIn _ _ _) 40 _ _ rfl (fun ρ w' ho hK => by
              have ho : Only _ Wk w' := ho
              obtain ⟨h0, h1, h2, h3, -⟩ := hK
              have h0' : ρ (.func 40) = .func (.func 40) #[] #[] := h0
              have h1' : ρ (.tmp 44) = _ := h1
              have h2' : (TBools (Cir.bits xq d.next.length)) w' (ρ (.tmp 52)) := h2
              have h3' : (TBools (Cir.bits x d.ins)) w' (ρ (.tmp 56)) := h3
              refine ⟨#[ρ (.tmp 44), ρ (.tmp 52), ρ (.tmp 56)], ?_, ?_⟩
              · go_simp
              · rw [h1']
                refine (l2Step_any _ _ _ d _ _ w' (HCk.out.below (only_below ho)) Hd.out h2' h3' (Cir.bits_length _ _) (Cir.bits_length _ _)).mono ?_
                rintro e w2 ⟨a, b, rfl, oa, ob, hb⟩
                exact ⟨_, rfl, ⟨a, b, rfl, by rw [← HoA.out]; exact (RowIn.of_own oa).mono (fun g hg => Nat.le_trans (ho.size) hg.1), Row.of_own ob⟩, hb⟩) ?_
            refine rs_look quietRS_ok quiet_any (TInB (From Wk.heap.size) (Cir.outsA d x)) (stb_inB _ _) (fun ρ w' ho hK => by
              obtain ⟨h0, -⟩ := hK
              obtain ⟨a, b, e0, ha, hb⟩ : (TStepIn Wk.heap.size (Cir.outsA d x) (Cir.lits (Cir.vals d (Cir.bits xq d.next.length) (Cir.bits x d.ins)) d.next)) w' (ρ (.tmp 57)) := h0
              obtain ⟨Aa, ca, rfl, -⟩ := Row.shape ha.1
              obtain ⟨Ab, cb, rfl, -⟩ := Row.shape hb
              have hf := fun n m => step_field0 Aa Ab n m ca cb w'
              refine ⟨_, ?_, ha⟩
              go_simp) ?_
            refine rs_same quietRS_ok quiet_any 58 14 (.inr rfl) rfl _ rfl ?_
            intro f w9 k9 hk9 hI9 ht9 hcp9
            have E0 : f 0 = _ := ht9 0 (Nat.le_of_ble_eq_true rfl)
            have E1 : f 1 = _ := ht9 1 (Nat.le_of_ble_eq_true rfl)
            conv at E1 => rhs; whnf
            have E2 : f 2 = _ := ht9 2 (Nat.le_of_ble_eq_true rfl)
            have E3 : f 3 = _ := ht9 3 (Nat.le_of_ble_eq_true rfl)
            have E4 : f 4 = _ := ht9 4 (Nat.le_of_ble_eq_true rfl)
            have E5 : f 5 = _ := ht9 5 (Nat.le_of_ble_eq_true rfl)
            have E6 : f 6 = _ := ht9 6 (Nat.le_of_ble_eq_true rfl)
            have E7 : f 7 = _ := ht9 7 (Nat.le_of_ble_eq_true rfl)
            have E8 : (TBools (Cir.bits xq d.next.length)) w9 (f 8) := ht9 8 (Nat.le_of_ble_eq_true rfl)
            have E9 : f 9 = _ := ht9 9 (Nat.le_of_ble_eq_true rfl)
            conv at E9 => rhs; whnf
            have E10 : f 10 = _ := ht9 10 (Nat.le_of_ble_eq_true rfl)
            have E11 : f 11 = _ := ht9 11 (Nat.le_of_ble_eq_true rfl)
            have E12 : (TBools (Cir.bits x d.ins)) w9 (f 12) := ht9 12 (Nat.le_of_ble_eq_true rfl)
            have E13 : (TStepIn Wk.heap.size (Cir.outsA d x) (Cir.lits (Cir.vals d (Cir.bits xq d.next.length) (Cir.bits x d.ins)) d.next)) w9 (f 13) := ht9 13 (Nat.le_of_ble_eq_true rfl)
            have E14 : (TInB (From Wk.heap.size) (Cir.outsA d x)) w9 (f 14) := ht9 14 (Nat.le_of_ble_eq_true rfl)
            have E15 : (TInB (From Wk.heap.size) (Cir.outsA d x)) w9 (f 15) := ht9 15 (Nat.le_of_ble_eq_true rfl)
            have Ho9 : Only _ Wk w9 := hI9.2.1
            have C15 : f 15 = f 14 := (hcp9 15 _ 58 14 rfl rfl rfl rfl).2
            simp only [putAll, E0, E1, E2, E3, E4, E5, E6, E7, E9, E10, E11, C15, Nat.zero_add, Nat.reduceAdd, Act.put, List.setIfInBounds_toArray, List.set_cons_succ, List.set_cons_zero]
            clear E0 E1 E2 E3 E4 E5 E6 E7 E9 E10 E11
            clear hI9 ht9 hcp9 hk9
            generalize f 8 = r8 at *
            generalize f 12 = r12 at *
            generalize f 13 = r13 at *
            generalize f 14 = r14 at *
            have hb8 := only_below Ho9
            have HA := Lib.hid (show RowIn (From Wk.heap.size) w9 1 r14 (Cir.outsA d x).length (bools (Cir.outsA d x)) from E14)
            have Hb8 := Lib.hid hb8
            have z8 := hb8.size
            have PC8 := Lib.hid (PCr.out.below hb8)
            clear hb8 Ho9 E8 E12 E13 E14 E15 p0 p1 p2 p3 z
            obtain ⟨z, p0, p1, p2, p3⟩ := PC8.out
            obtain ⟨w8, hw8⟩ : ∃ w8, w8 = w9 := ⟨_, rfl⟩
            subst hw8
            obtain ⟨uA, huA⟩ : ∃ u, u = r14 := ⟨_, rfl⟩
            subst huA
            go_wp2_with fail
            refine wp_region_rs (quietRS Try.prog _ w8 _) quietRS_ok (by kernel_rfl) (by kernel_rfl) (by kernel_rfl) (Nat.le_of_ble_eq_true rfl) trivial trivial ?_
            apply rs_eq quietRS_ok quiet_any
            · intro ρ w' ho hK
              have ho : Only _ w8 w' := ho
              obtain ⟨h0, -⟩ := hK
              have h0' : ρ (.tmp 1) = _ := h0
              have hb := only_below ho
              have q0 := (hb.cell (p := ⟨w.heap.size, 0, none⟩) z).trans p0
              have q1 := (hb.cell (p := ⟨w.heap.size, 1, none⟩) z).trans p1
              have q2 := (hb.cell (p := ⟨w.heap.size, 2, none⟩) z).trans p2
              have q3 := (hb.cell (p := ⟨w.heap.size, 3, none⟩) z).trans p3
              go_simp
              try exact rfl
            refine rs_old quietRS_ok quiet_any _ (.inl rfl) _ rfl rfl ?_
            apply rs_eq quietRS_ok quiet_any
            · intro ρ w' ho hK
              have ho : Only _ w8 w' := ho
              obtain ⟨h0, -⟩ := hK
              have h0' : ρ (.tmp 1) = _ := h0
              go_simp
              try exact rfl
            apply rs_eq quietRS_ok quiet_any
            · intro ρ w' ho hK
              have ho : Only _ w8 w' := ho
              obtain ⟨h0, -⟩ := hK
              have h0' : ρ (.tmp 61) = _ := h0
              have hb := only_below ho
              have q0 := (hb.cell (p := ⟨w.heap.size, 0, none⟩) z).trans p0
              have q1 := (hb.cell (p := ⟨w.heap.size, 1, none⟩) z).trans p1
              have q2 := (hb.cell (p := ⟨w.heap.size, 2, none⟩) z).trans p2
              have q3 := (hb.cell (p := ⟨w.heap.size, 3, none⟩) z).trans p3
              go_simp
              try exact rfl
            apply rs_eq quietRS_ok quiet_any
            · intro ρ w' ho hK
              have ho : Only _ w8 w' := ho
              obtain ⟨h0, h1, -⟩ := hK
              have h0' : ρ (.tmp 60) = _ := h0
              have h1' : ρ (.tmp 62) = _ := h1
              go_simp
              try exact rfl
            apply rs_eq quietRS_ok quiet_any
            · intro ρ w' ho hK
              have ho : Only _ w8 w' := ho
              obtain ⟨h0, -⟩ := hK
              have h0' : ρ (.tmp 1) = _ := h0
              go_simp
              try exact rfl
            apply rs_eq quietRS_ok quiet_any
            · intro ρ w' ho hK
              have ho : Only _ w8 w' := ho
              obtain ⟨h0, -⟩ := hK
              have h0' : ρ (.tmp 64) = _ := h0
              have hb := only_below ho
              have q0 := (hb.cell (p := ⟨w.heap.size, 0, none⟩) z).trans p0
              have q1 := (hb.cell (p := ⟨w.heap.size, 1, none⟩) z).trans p1
              have q2 := (hb.cell (p := ⟨w.heap.size, 2, none⟩) z).trans p2
              have q3 := (hb.cell (p := ⟨w.heap.size, 3, none⟩) z).trans p3
              go_simp
              try exact rfl
            apply rs_eq quietRS_ok quiet_any
            · intro ρ w' ho hK
              have ho : Only _ w8 w' := ho
              obtain ⟨h0, -⟩ := hK
              have h0' : ρ (.tmp 65) = _ := h0
              go_simp
              try exact rfl
            refine rs_call quietRS_ok quiet_any (TBools (Cir.bits yq d.next.length)) (stb_bools _) 41 _ _ rfl (fun ρ w' ho hK => by
              have ho : Only _ w8 w' := ho
              obtain ⟨h0, h1, h2, -⟩ := hK
              have h0' : ρ (.func 41) = .func (.func 41) #[] #[] := h0
              have h1' : ρ (.tmp 63) = _ := h1
              have h2' : ρ (.tmp 66) = _ := h2
              refine ⟨#[ρ (.tmp 63), ρ (.tmp 66)], ?_, ?_⟩
              · go_simp
              · rw [h1', h2']
                refine (l4Bits_any yq d.next.length w' (by omega) (by omega)).mono ?_
                rintro e w2 ⟨v2, rfl, hO, hb⟩
                exact ⟨v2, rfl, Row.of_own hO, hb⟩) ?_
            refine rs_old quietRS_ok quiet_any _ (.inl rfl) _ rfl rfl ?_
            apply rs_eq quietRS_ok quiet_any
            · intro ρ w' ho hK
              have ho : Only _ w8 w' := ho
              obtain ⟨h0, -⟩ := hK
              have h0' : ρ (.tmp 1) = _ := h0
              go_simp
              try exact rfl
            apply rs_eq quietRS_ok quiet_any
            · intro ρ w' ho hK
              have ho : Only _ w8 w' := ho
              obtain ⟨h0, -⟩ := hK
              have h0' : ρ (.tmp 69) = _ := h0
              have hb := only_below ho
              have q0 := (hb.cell (p := ⟨w.heap.size, 0, none⟩) z).trans p0
              have q1 := (hb.cell (p := ⟨w.heap.size, 1, none⟩) z).trans p1
              have q2 := (hb.cell (p := ⟨w.heap.size, 2, none⟩) z).trans p2
              have q3 := (hb.cell (p := ⟨w.heap.size, 3, none⟩) z).trans p3
              go_simp
              try exact rfl
            refine rs_call quietRS_ok quiet_any (TBools (Cir.bits xp d.ins)) (stb_bools _) 41 _ _ rfl (fun ρ w' ho hK => by
              have ho : Only _ w8 w' := ho
              obtain ⟨h0, h1, h2, -⟩ := hK
              have h0' : ρ (.func 41) = .func (.func 41) #[] #[] := h0
              have h1' : ρ (.tmp 68) = _ := h1
              have h2' : ρ (.tmp 70) = _ := h2
              refine ⟨#[ρ (.tmp 68), ρ (.tmp 70)], ?_, ?_⟩
              · go_simp
              · rw [h1', h2']
                refine (l4Bits_any xp d.ins w' (by omega) (by omega)).mono ?_
                rintro e w2 ⟨v2, rfl, hO, hb⟩
                exact ⟨v2, rfl, Row.of_own hO, hb⟩) ?_
            refine rs_call quietRS_ok quiet_any (TStepIn Wk.heap.size (Cir.outsA d xp) (Cir.lits (Cir.vals d (Cir.bits yq d.next.length) (Cir.bits xp d.ins)) d.next)) (stb_stepIn _ _ _) 40 _ _ rfl (fun ρ w' ho hK => by
              have ho : Only _ w8 w' := ho
              obtain ⟨h0, h1, h2, h3, -⟩ := hK
              have h0' : ρ (.func 40) = .func (.func 40) #[] #[] := h0
              have h1' : ρ (.tmp 59) = _ := h1
              have h2' : (TBools (Cir.bits yq d.next.length)) w' (ρ (.tmp 67)) := h2
              have h3' : (TBools (Cir.bits xp d.ins)) w' (ρ (.tmp 71)) := h3
              refine ⟨#[ρ (.tmp 59), ρ (.tmp 67), ρ (.tmp 71)], ?_, ?_⟩
              · go_simp
              · rw [h1']
                refine (l2Step_any _ _ _ d _ _ w' (HCk.out.below (Hb8.out.trans ((only_below ho).mono z8))) Hd.out h2' h3' (Cir.bits_length _ _) (Cir.bits_length _ _)).mono ?_
                rintro e w2 ⟨a, b, rfl, oa, ob, hb⟩
                exact ⟨_, rfl, ⟨a, b, rfl, by rw [← HoB.out]; exact (RowIn.of_own oa).mono (fun g hg => Nat.le_trans (Nat.le_trans z8 ho.size) hg.1), Row.of_own ob⟩, hb⟩) ?_
            refine rs_look quietRS_ok quiet_any (TInB (From Wk.heap.size) (Cir.outsA d xp)) (stb_inB _ _) (fun ρ w' ho hK => by
              obtain ⟨h0, -⟩ := hK
              obtain ⟨a, b, e0, ha, hb⟩ : (TStepIn Wk.heap.size (Cir.outsA d xp) (Cir.lits (Cir.vals d (Cir.bits yq d.next.length) (Cir.bits xp d.ins)) d.next)) w' (ρ (.tmp 72)) := h0
              obtain ⟨Aa, ca, rfl, -⟩ := Row.shape ha.1
              obtain ⟨Ab, cb, rfl, -⟩ := Row.shape hb
              have hf := fun n m => step_field0 Aa Ab n m ca cb w'
              refine ⟨_, ?_, ha⟩
              go_simp) ?_
            refine rs_same quietRS_ok quiet_any 73 14 (.inr rfl) rfl _ rfl ?_
            intro f w9 k9 hk9 hI9 ht9 hcp9
            have E0 : f 0 = _ := ht9 0 (Nat.le_of_ble_eq_true rfl)
            have E1 : f 1 = _ := ht9 1 (Nat.le_of_ble_eq_true rfl)
            conv at E1 => rhs; whnf
            have E2 : f 2 = _ := ht9 2 (Nat.le_of_ble_eq_true rfl)
            have E3 : f 3 = _ := ht9 3 (Nat.le_of_ble_eq_true rfl)
            have E4 : f 4 = _ := ht9 4 (Nat.le_of_ble_eq_true rfl)
            have E5 : f 5 = _ := ht9 5 (Nat.le_of_ble_eq_true rfl)
            have E6 : f 6 = _ := ht9 6 (Nat.le_of_ble_eq_true rfl)
            have E7 : f 7 = _ := ht9 7 (Nat.le_of_ble_eq_true rfl)
            have E8 : (TBools (Cir.bits yq d.next.length)) w9 (f 8) := ht9 8 (Nat.le_of_ble_eq_true rfl)
            have E9 : f 9 = _ := ht9 9 (Nat.le_of_ble_eq_true rfl)
            conv at E9 => rhs; whnf
            have E10 : f 10 = _ := ht9 10 (Nat.le_of_ble_eq_true rfl)
            have E11 : f 11 = _ := ht9 11 (Nat.le_of_ble_eq_true rfl)
            have E12 : (TBools (Cir.bits xp d.ins)) w9 (f 12) := ht9 12 (Nat.le_of_ble_eq_true rfl)
            have E13 : (TStepIn Wk.heap.size (Cir.outsA d xp) (Cir.lits (Cir.vals d (Cir.bits yq d.next.length) (Cir.bits xp d.ins)) d.next)) w9 (f 13) := ht9 13 (Nat.le_of_ble_eq_true rfl)
            have E14 : (TInB (From Wk.heap.size) (Cir.outsA d xp)) w9 (f 14) := ht9 14 (Nat.le_of_ble_eq_true rfl)
            have E15 : (TInB (From Wk.heap.size) (Cir.outsA d xp)) w9 (f 15) := ht9 15 (Nat.le_of_ble_eq_true rfl)
            have Ho9 : Only _ w8 w9 := hI9.2.1
            have C15 : f 15 = f 14 := (hcp9 15 _ 73 14 rfl rfl rfl rfl).2
            simp only [putAll, E0, E1, E2, E3, E4, E5, E6, E7, E9, E10, E11, C15, Nat.zero_add, Nat.reduceAdd, Act.put, List.setIfInBounds_toArray, List.set_cons_succ, List.set_cons_zero]
            clear E0 E1 E2 E3 E4 E5 E6 E7 E9 E10 E11
            clear hI9 ht9 hcp9 hk9
            generalize f 8 = r8 at *
            generalize f 12 = r12 at *
            generalize f 13 = r13 at *
            generalize f 14 = r14 at *
            have hb9 := only_below Ho9
            have HA9 := Lib.hid (HA.out.below hb9)
            have HB9 := Lib.hid (show RowIn (From Wk.heap.size) w9 1 r14 (Cir.outsA d xp).length (bools (Cir.outsA d xp)) from E14)
            have Hb9 := Lib.hid (Hb8.out.trans (hb9.mono z8))
            have z9 := Nat.le_trans z8 hb9.size
            have PC9 := Lib.hid (PCr.out.below Hb9.out)
            clear hb9 Ho9 E8 E12 E13 E14 E15 p0 p1 p2 p3 z PC8 HA HoA HoB hqx hqy hxq2 hyq2 g1 g2 g3
            obtain ⟨z, p0, p1, p2, p3⟩ := PC9.out
            obtain ⟨wa, hwa⟩ : ∃ wa, wa = w9 := ⟨_, rfl⟩
            subst hwa
            obtain ⟨uB, huB⟩ : ∃ u, u = r14 := ⟨_, rfl⟩
            subst huB
            go_wp2_with fail
            refine (l33Terns_any _ d x k _ (HCk.out.below Hb9.out) Hd.out (by omega) hlk).mono ?_
            rintro e wb ⟨⟨ta, tb, rfl, hta, htb⟩, hbb⟩
            rw [Hxq.out] at htb
            have Hta := Lib.hid hta
            have Htb := Lib.hid htb
            have HAb := Lib.hid (HA9.out.below hbb)
            have HBb := Lib.hid (HB9.out.below hbb)
            have Hbb := Lib.hid (Hb9.out.trans (hbb.mono z9))
            have zb2 := Nat.le_trans z9 hbb.size
            have PCb := Lib.hid (PCr.out.below Hbb.out)
            clear hta htb hbb HA9 HB9 p0 p1 p2 p3 z PC9
            obtain ⟨z, p0, p1, p2, p3⟩ := PCb.out
            go_wp2_with fail
            refine (specEvalT_ok _ _ _ d _ _ _ (HCk.out.below Hbb.out) Hd.out Hv.out Htb.out Hta.out (by rw [List.length_set]; exact tbits_length _ _) (tbits_length _ _) (Cir.terns_le _) (fun t ht => by
              rcases List.mem_or_eq_of_mem_set ht with h | h
              · exact Cir.terns_le _ t h
              · omega)).mono ?_
            rintro e wc ⟨v7, rfl, hown7, hbc⟩
            have HV7 : Hid (Cir.tvals d (Cir.tbits xq d.next.length) ((Cir.tbits x d.ins).set k 2) = Cir.hzV d x k) := Lib.hid (by rw [← Hxq.out]; rfl)
            rw [HV7.out] at hown7
            have HT := Lib.hid (show RowIn (From Wk.heap.size) wc 1 v7 (nats (Cir.hzV d x k)).length (ints (nats (Cir.hzV d x k))) from (RowIn.of_own hown7).mono fun g hg => Nat.le_trans zb2 hg.1)
            have HA := Lib.hid (HAb.out.below hbc)
            have HB := Lib.hid (HBb.out.below hbc)
            have Hb9 := Lib.hid (Hbb.out.trans (hbc.mono zb2))
            have z9 := Nat.le_trans zb2 hbc.size
            clear hown7 hbc HAb HBb Hta Htb p0 p1 p2 p3 z PCb HV7 Hbb zb2 Hb8 z8
            have PC9 := Lib.hid (PCr.out.below Hb9.out)
            have HbW := Lib.hid (Hb.out.trans (Hb9.out.mono zb))
            have HO9 := Lib.hid ((RowIn.of_row (show Row W 1 (.slice Ao d.outs.length co) (nats d.outs).length (ints (nats d.outs)) from HO.out)).below HbW.out)
            have HP0 : Hid (∀ g, vv.ownBlock = some g → W.heap.size ≤ g ∧ (g < Wk.heap.size ∨ wc.heap.size ≤ g)) := Lib.hid fun g hg => ⟨(Hl.out.lt g hg).1, .inl (Hl.out.lt g hg).2⟩
            obtain ⟨z, p0, p1, p2, p3⟩ := PC9.out
            have hvl := Cir.hzV_length d x k
            have hvle := Lib.hid (Cir.hzV_le d x k)
            have hnv : Cir.nvars d ≤ 22 := by unfold Cir.nvars Cir.nfirst; omega
            obtain ⟨n0, hn0⟩ : ∃ n0, (X ++ Cir.hzK d x k).length = n0 := ⟨_, rfl⟩
            have hn0b : n0 ≤ 12 * x + 3 * k := by rw [← hn0, List.length_append]; omega
            have Hl0 : Hid (wc.ownsRow W.heap.size 57 3 vv ((X ++ Cir.hzK d x k) ++ Cir.hzO d x k 0).length (trips ((X ++ Cir.hzK d x k) ++ Cir.hzO d x k 0))) := Lib.hid (by
              rw [show (X ++ Cir.hzK d x k) ++ Cir.hzO d x k 0 = X ++ Cir.hzK d x k from List.append_nil _]
              exact own_below Hl.out Hb9.out)
            have HKn2 : Hid (X ++ Cir.hzK d x (k + 1) = (X ++ Cir.hzK d x k) ++ Cir.hzO d x k d.outs.length) := Lib.hid (by rw [HKn.out, List.append_assoc])
            have HZ : Hid (∀ o, Cir.hz d x k o = ((Cir.outsA d x).getD o false == (Cir.outsA d xp).getD o false && Cir.tlit (Cir.hzV d x k) (d.outs.getD o 0) == 2)) := Lib.hid (fun o => by rw [← Hxp.out, ← hp]; rfl)
            have HY : Hid (∀ o, Cir.hz d x k o = true → Cir.hzO d x k (o + 1) = Cir.hzO d x k o ++ [(x, xp, o)]) := Lib.hid (fun o h => by rw [← Hxp.out, ← hp]; exact Cir.hzO_yes h)
            have HNo : Hid (∀ o, Cir.hz d x k o = false → Cir.hzO d x k (o + 1) = Cir.hzO d x k o) := Lib.hid (fun o h => Cir.hzO_no h)
            have HLO := Lib.hid (fun o => Cir.hzO_len d x k o)
            generalize X ++ Cir.hzK d x k = Y at *
            generalize Cir.hzV d x k = V at *
            have HAl := Lib.hid (fun o (ho : o < d.outs.length) => Cir.outsA_get (d := d) (x := x) ho)
            have HBl := Lib.hid (fun o (ho : o < d.outs.length) => Cir.outsA_get (d := d) (x := xp) ho)
            have hLA := Cir.outsA_length d x
            have hLB := Cir.outsA_length d xp
            generalize Cir.outsA d x = OA at *
            generalize Cir.outsA d xp = OB at *
            obtain ⟨A7, c7, e7, -, -⟩ := NatsAt.shape (xs := V) HT.out.1
            subst e7
            clear hpI hwp hp hp8 HKn hK HCk hdk
            go_wp2_with fail
            clear z p0 p1 p2 p3
            go_loopw [3, 12] (fun v i wr => ∃ (vv : Value) (o : Nat), vv = v ∧ i = .int .i64 o ∧ o ≤ d.outs.length ∧ Hid (wr.ownsRow W.heap.size 57 3 v (Y ++ Cir.hzO d x k o).length (trips (Y ++ Cir.hzO d x k o))) ∧ Hid (∀ g, v.ownBlock = some g → W.heap.size ≤ g ∧ (g < Wk.heap.size ∨ wc.heap.size ≤ g)) ∧ Only (fun g => W.heap.size ≤ g ∧ g < Wk.heap.size) wc wr) (fun _ i _ => d.outs.length - (intOf i).toNat)
            case atStart => exact ⟨_, 0, rfl, rfl, Nat.zero_le _, Hl0, HP0, Only.refl _ _⟩
            case round =>
              obtain ⟨uu, o, huu, rfl, ho, Hu, HP, hb⟩ := hrel
              subst huu
              clear Hl0
              have Hbo := Lib.hid hb
              have zo := hb.size
              have PCo := Lib.hid (PCells.onlyH PC9.out hb (by omega))
              clear hb
              obtain ⟨z, p0, p1, p2, p3⟩ := PCo.out
              by_cases hlo : o < d.outs.length
              · have hdo : decide (o < d.outs.length) = true := decide_eq_true hlo
                obtain ⟨bA, oA, cA, eA, hbA, hcA⟩ := boolsAt_cell (HA.out.only Hbo.out (fun g h e => Nat.lt_irrefl _ (Nat.lt_of_lt_of_le e.2 h))).1 (HAl.out o hlo)
                obtain ⟨bB, oB, cB, eB, hbB, hcB⟩ := boolsAt_cell (HB.out.only Hbo.out (fun g h e => Nat.lt_irrefl _ (Nat.lt_of_lt_of_le e.2 h))).1 (HBl.out o hlo)
                rw [hLA] at eA
                rw [hLB] at eB
                subst eA eB
                obtain ⟨b', o', l, rfl, hbl', hx0, hs0⟩ := nats_cell (nats_row (show NatsAt _ (.slice Ao d.outs.length co) d.outs from (HO9.out.only Hbo.out (fun g h e => Nat.lt_irrefl _ (Nat.lt_of_lt_of_le h e.1))).1)) rfl hlo
                have hl2 := Hd.out.out l (List.mem_of_getElem? hx0.out)
                have hgl : d.outs.getD o 0 = l := by rw [List.getD_eq_getElem?_getD, hx0.out]; rfl
                have HZo := Lib.hid (HZ.out o)
                rw [hgl] at HZo
                have hlO := HLO.out o
                have hlen : (Y ++ Cir.hzO d x k o).length ≤ n0 + 3 := by rw [List.length_append]; omega
                have ht2 := Cir.tlit_le hvle.out l
                have HTr := Lib.hid (show NatsAt wr (.slice A7 V.length c7) V from (HT.out.only Hbo.out (fun g h e => Nat.lt_irrefl _ (Nat.lt_of_lt_of_le e.2 h))).1)
                have ga := gw_cell hcA hbA
                have gb := gw_cell hcB hbB
                have gs := gw_cell hs0 hbl'
                have g0 := gw_cell p0 z
                have g1 := gw_cell p1 z
                have g2 := gw_cell p2 z
                have g3 := gw_cell p3 z
                have HTC : Hid (∀ n : GW wr, Calls Try.prog 44 #[.slice A7 (Cir.nvars d) c7, .int .i64 (l : Nat)] (gw n) fun e w' => e = .returned (.int .i64 (Cir.tlit V l : Nat)) ∧ gw n = w') := Lib.hid fun n => (by rw [← hvl]; exact l27Lit_any _ V l (gw n) (Row.below HTr.out (gw_below n)) (by rw [hvl]; exact hl2) (by omega) hvle.out)
                obtain ⟨T, hTe⟩ : ∃ T, Cir.tlit V l = T := ⟨_, rfl⟩
                rw [hTe] at HTC HZo ht2
                clear hTe
                have HYo := Lib.hid (HY.out o)
                have HNoo := Lib.hid (HNo.out o)
                obtain ⟨ba, hba⟩ : ∃ ba, OA.getD o false = ba := ⟨_, rfl⟩
                rw [hba] at hcA ga HZo
                clear hba
                obtain ⟨bb, hbb⟩ : ∃ bb, OB.getD o false = bb := ⟨_, rfl⟩
                rw [hbb] at hcB gb HZo
                clear hbb
                clear hx0 hgl hl2 HZ HY HNo hlO
                rcases (Bool.eq_false_or_eq_true (ba == bb)).symm with hab | hab
                · have HR := Lib.hid (HNoo.out (hz_no1 HZo.out hab))
                  clear HYo HNoo HZo HTC
                  go_wp2_with fail
                  refine wp_region_grow (by kernel_rfl) (by kernel_rfl) ?_
                  repeat (go_big_quiet_step ((fail)))
                  refine wpQuiet_nil ?_
                  intro _ hw'
                  obtain ⟨nq, hw''⟩ := hw'
                  subst hw''
                  have hgq := gw_below nq
                  generalize gw nq = wq at *
                  clear nq
                  have Hb10 := Lib.hid (Hbo.out.trans (Only.of_below _ hgq))
                  have Hu10 := Lib.hid (own_below Hu.out hgq)
                  clear hgq ga gb gs g0 g1 g2 g3 hcA hcB hs0 z p0 p1 p2 p3
                  go_wp2_with fail
                  go_roundw
                  case rel => exact ⟨_, o + 1, rfl, by go_num, by omega, Lib.hid (by rw [HR.out]; exact Hu10.out), HP, Hb10.out⟩
                  case measure => simp [intOf] <;> omega
                · by_cases hT : T = 2
                  · have HR := Lib.hid (HYo.out (hz_yes HZo.out hab (by rw [hT]; rfl)))
                    subst hT
                    clear HYo HNoo HZo
                    go_wp2_with fail
                    refine wp_region_grow (by kernel_rfl) (by kernel_rfl) ?_
                    repeat (go_big_quiet_step ((go_at_call 44; exact grow_same (HTC.out _))))
                    refine wpQuiet_nil ?_
                    intro _ hw'
                    obtain ⟨nq, hw''⟩ := hw'
                    subst hw''
                    have hgq := gw_below nq
                    generalize gw nq = wq at *
                    clear nq
                    have Hb10 := Lib.hid (Hbo.out.trans (Only.of_below _ hgq))
                    have Hu10 := Lib.hid (own_below Hu.out hgq)
                    have z10 := Nat.le_trans zo hgq.size
                    clear hgq ga gb gs g0 g1 g2 g3 hcA hcB hs0 HTC z p0 p1 p2 p3
                    have Hlit := Lib.hid (Row.of_own (World.ownsRow_lit (base := wq.heap.size) (e := 57) (size := 3) wq #[.int .i64 x, .int .i64 (xp : Int), .int .i64 o] 1 (Nat.le_refl _) (by unfold maxLen; omega) rfl))
                    have HRt : Hid (trips (Y ++ Cir.hzO d x k (o + 1)) = trips (Y ++ Cir.hzO d x k o) ++ [.int .i64 x, .int .i64 (xp : Int), .int .i64 o]) := Lib.hid (by rw [HR.out]; exact trips_snoc' _ _ _)
                    have HRl : Hid ((Y ++ Cir.hzO d x k (o + 1)).length = (Y ++ Cir.hzO d x k o).length + 1) := Lib.hid (by rw [HR.out]; exact len_snoc' _ _ _)
                    clear HR
                    obtain ⟨TY, hTY⟩ : ∃ TY, trips (Y ++ Cir.hzO d x k o) = TY := ⟨_, rfl⟩
                    rw [hTY] at HRt Hu10
                    clear hTY
                    obtain ⟨nY, hnY⟩ : ∃ nY, (Y ++ Cir.hzO d x k o).length = nY := ⟨_, rfl⟩
                    rw [hnY] at HRl Hu10 hlen
                    clear hnY
                    have hWq : W.heap.size ≤ wq.heap.size := by omega
                    go_wp2_with (at_builtin; refine append_haz rfl (.tmp 111) (.tmp 116) rfl W.heap.size _ nY TY rfl (Hu10.out.alloc _) _ 1 _ rfl Hlit.out (by simp [Value.oneCell']) (by omega) (by simp; omega) ?_; intro v7 w7 hown7 hg7 hat7; have Ho7 := Lib.hid hown7; have Hg7 := Lib.hid hg7; have Hat7 := Lib.hid hat7; clear hown7 hg7 hat7)
                    go_roundw
                    case rel => exact ⟨_, o + 1, rfl, by go_num, by omega, Lib.hid (by rw [HRt.out, HRl.out]; exact Ho7.out), Lib.hid (fun g hg => by
                      rcases Hat7.out with h | h
                      · exact HP.out g (h ▸ hg)
                      · rw [h] at hg
                        have h1 := Option.some.inj hg
                        rw [World.size_alloc] at h1
                        exact ⟨by omega, .inr (by omega)⟩), (Hb10.out.trans (Only.of_below _ (bel_new _ _))).aftH (Only.grown Hg7.out fun g hg => hg) (fun g hg => (HP.out g hg).2.elim (fun h => .inr ⟨(HP.out g hg).1, h⟩) .inl)⟩
                    case measure => simp [intOf] <;> omega
                  · have hT2 : (T == 2) = false := by simpa using hT
                    have hT3 : ((T : Int) == 2) = false := by simp; omega
                    have HR := Lib.hid (HNoo.out (hz_no2 HZo.out hT2))
                    clear HYo HNoo HZo hT hT2
                    go_wp2_with fail
                    refine wp_region_grow (by kernel_rfl) (by kernel_rfl) ?_
                    repeat (go_big_quiet_step ((go_at_call 44; exact grow_same (HTC.out _))))
                    refine wpQuiet_nil ?_
                    intro _ hw'
                    obtain ⟨nq, hw''⟩ := hw'
                    subst hw''
                    have hgq := gw_below nq
                    generalize gw nq = wq at *
                    clear nq
                    have Hb10 := Lib.hid (Hbo.out.trans (Only.of_below _ hgq))
                    have Hu10 := Lib.hid (own_below Hu.out hgq)
                    clear hgq ga gb gs g0 g1 g2 g3 hcA hcB hs0 HTC z p0 p1 p2 p3
                    go_wp2_with fail
                    go_roundw
                    case rel => exact ⟨_, o + 1, rfl, by go_num, by omega, Lib.hid (by rw [HR.out]; exact Hu10.out), HP, Hb10.out⟩
                    case measure => simp [intOf] <;> omega
              · obtain rfl : o = d.outs.length := by omega
                have hdo : decide (d.outs.length < d.outs.length) = false := decide_eq_false (by omega)
                go_wp2_with fail
                go_roundw
                case rel => exact ⟨_, k + 1, rfl, by go_num, by omega, Lib.hid (by rw [HKn2.out]; exact Hu.out), Only.below HbW.out Hbo.out HbW.out.size (fun k hk => hk.1)⟩
                case measure => simp [intOf] <;> omega
          · have HKn := Lib.hid (HKs.out hbit)
            rw [hbit] at g2
            clear HKs HKa hbit
            go_wp2_with fail
            go_roundw
            case rel => exact ⟨_, k + 1, rfl, by go_num, by omega, Lib.hid (by rw [HKn.out]; exact Hl.out), Hb.out⟩
            case measure => simp [intOf] <;> omega
        · obtain rfl : k = d.ins := by omega
          have hdk : decide (d.ins < d.ins) = false := decide_eq_false (by omega)
          go_wp2_with fail
          go_roundw
          case rel => exact ⟨_, x + 1, rfl, by go_num, by omega, Lib.hid (by rw [HX1.out]; exact Hl.out), Hb.out⟩
          case measure => simp [intOf] <;> omega
    · obtain rfl : x = M := by omega
      have hdx : decide (x < x) = false := decide_eq_false (by omega)
      go_wp2_with fail
      go_ret
      exact ⟨_, rfl, own_mono Hl.out (by omega), B0.out.trans (Hb.out.mono B0.out.size)⟩
end Go.Proofs.Ytlbfejdbfhgifaa

namespace Go.Proofs.Ytlbfejdbfhgifaa
open Go.RowKit
set_option maxRecDepth 100000
/-! Hazards, by the reference: any circuit; HazardFree. -/
set_option maxHeartbeats 4000000 in
theorem specHaz_no (v : Value) (c : Cz) (w : World) (h : CircAt w v c) (hv : Cir.valid c = false) :
    Calls Try.prog 11 #[v] w (OwnHaz [] w) := by
  have HC := Lib.hid h
  obtain ⟨vn, vg, vo, rfl, r1, r2, r3⟩ := h
  have B0 := Lib.hid (bel_new w (.cells #[.int .i64 c.ins, vn, vg, vo] 31))
  have PC := Lib.hid (PCells.boxed w c.ins vn vg vo 31)
  have hsz : (w.alloc (.cells #[.int .i64 c.ins, vn, vg, vo] 31)).heap.size = w.heap.size + 1 := by simp
  have HC0 := Lib.hid (HC.out.below B0.out)
  have HV := Lib.hid (fun w' hb => specValid_any _ _ w' (HC0.out.below hb))
  rw [hv] at HV
  have HL0 : Hid (((w.alloc (.cells #[.int .i64 c.ins, vn, vg, vo] 31)).alloc (.cells #[] 57)).ownsRow (w.heap.size + 1) 57 3 (.slice (some ⟨w.heap.size + 1, 0, none⟩) 0 0) 0 (trips [])) := Lib.hid (by
    have := World.ownsRow_lit (base := w.heap.size + 1) (e := 57) (size := 3) (w.alloc (.cells #[.int .i64 c.ins, vn, vg, vo] 31)) #[] 0 (by simp) (by unfold maxLen; omega) rfl
    rwa [World.size_alloc] at this)
  have HB1 := Lib.hid (bel_new (w.alloc (.cells #[.int .i64 c.ins, vn, vg, vo] 31)) (.cells #[] 57))
  obtain ⟨z, p0, p1, p2, p3⟩ := PC.out.below HB1.out
  clear r1 r2 r3 hv HC
  go_enter Try.func11, Try.ntmps11
  go_wp2_with fail
  generalize w.alloc (.cells #[.int .i64 c.ins, vn, vg, vo] 31) = W at *
  refine (HV.out _ HB1.out).mono ?_
  rintro e w1 ⟨rfl, hb1⟩
  have Hb1 := Lib.hid (HB1.out.trans (hb1.mono HB1.out.size))
  have HL1 := Lib.hid (own_below HL0.out hb1)
  clear hb1 HB1 HL0 p0 p1 p2 p3 z HV
  go_wp2_with fail
  go_ret
  exact ⟨_, rfl, own_mono HL1.out (by omega), B0.out.trans (Hb1.out.mono B0.out.size)⟩
theorem specHaz_any (v : Value) (c : Cz) (w : World) (h : CircAt w v c) :
    Calls Try.prog 11 #[v] w (OwnHaz (Cir.hazI c) w) := by
  cases hv : Cir.valid c
  · rw [show Cir.hazI c = [] from by unfold Cir.hazI; rw [hv]; rfl]
    exact specHaz_no v c w h hv
  · rw [show Cir.hazI c = Cir.hazards (Cir.nat c) from by unfold Cir.hazI; rw [hv]; rfl]
    obtain ⟨d1, d2⟩ := Cir.nat_ok hv
    exact specHaz_ok v (Cir.nat c) w (by rw [← d1]; exact h) d2 (by rw [← d1]; exact hv)
theorem hazI_len (c : Cz) : (Cir.hazI c).length ≤ 1536 := by
  unfold Cir.hazI
  split
  · rename_i hv
    obtain ⟨-, hd⟩ := Cir.nat_ok hv
    have l1 := hd.ins
    have l2 := hd.nexts
    have := Cir.hzX_len (Cir.nat c) hd (2 ^ ((Cir.nat c).ins + (Cir.nat c).next.length))
    have h128 : 2 ^ ((Cir.nat c).ins + (Cir.nat c).next.length) ≤ 128 := Nat.pow_le_pow_right (show 0 < 2 by decide) (show _ ≤ 7 by omega)
    have : Cir.hazards (Cir.nat c) = Cir.hzX (Cir.nat c) (2 ^ ((Cir.nat c).ins + (Cir.nat c).next.length)) := rfl
    rw [this]
    omega
  · simp
def Cir.hazF (c : Cz) : Bool := Cir.valid c && ((Cir.hazI c).length == 0)
set_option maxHeartbeats 4000000 in
theorem implHazF_any (v : Value) (c : Cz) (w : World) (h : CircAt w v c) :
    Calls Try.prog 20 #[v] w fun e w' => e = .returned (.bool (Cir.hazF c)) ∧ Below w.heap.size w w' := by
  have HC := Lib.hid h
  obtain ⟨vn, vg, vo, rfl, r1, r2, r3⟩ := h
  have B0 := Lib.hid (bel_new w (.cells #[.int .i64 c.ins, vn, vg, vo] 31))
  have PC := Lib.hid (PCells.boxed w c.ins vn vg vo 31)
  have hsz : (w.alloc (.cells #[.int .i64 c.ins, vn, vg, vo] 31)).heap.size = w.heap.size + 1 := by simp
  have HC0 := Lib.hid (HC.out.below B0.out)
  have HV := Lib.hid (implValid_any _ _ _ HC0.out)
  obtain ⟨z, p0, p1, p2, p3⟩ := PC.out
  clear r1 r2 r3 HC
  cases hv : Cir.valid c
  · rw [hv] at HV
    have HR : Hid (Cir.hazF c = false) := Lib.hid (by unfold Cir.hazF; rw [hv]; rfl)
    rw [HR.out]
    clear HR hv
    go_enter Try.func20, Try.ntmps20
    go_wp2_with fail
    refine HV.out.mono ?_
    rintro e w1 ⟨rfl, hb1⟩
    have B1 := Lib.hid (B0.out.trans (hb1.mono B0.out.size))
    clear hb1
    go_wp2_with fail
    go_ret
    exact ⟨rfl, B1.out⟩
  · rw [hv] at HV
    have HR : Hid (Cir.hazF c = decide ((Cir.hazI c).length = 0)) := Lib.hid (by unfold Cir.hazF; rw [hv, Bool.true_and]; rfl)
    rw [HR.out]
    obtain ⟨n, hn⟩ : ∃ n, (Cir.hazI c).length = n := ⟨_, rfl⟩
    have HN := Lib.hid hn
    rw [hn]
    clear hn
    have hq : (((n : Nat) : Int) == 0) = decide (n = 0) := by rw [Bool.eq_iff_iff, beq_iff_eq, decide_eq_true_iff]; omega
    clear HR hv
    go_enter Try.func20, Try.ntmps20
    go_wp2_with fail
    refine HV.out.mono ?_
    rintro e w1 ⟨rfl, hb1⟩
    have Hb1 := Lib.hid hb1
    obtain ⟨z, p0, p1, p2, p3⟩ := PC.out.below hb1
    clear hb1
    go_wp2_with fail
    refine (implHaz_any _ c _ (HC0.out.below Hb1.out)).mono ?_
    rintro e w2 ⟨v2, rfl, hO, hb2⟩
    obtain ⟨A2, c2, e2, -, -⟩ := (Row.of_own hO).shape
    rw [HN.out] at e2
    subst e2
    have B2 := Lib.hid (B0.out.trans ((Hb1.out.trans (hb2.mono Hb1.out.size)).mono B0.out.size))
    clear hb2 hO Hb1 HC0
    go_wp2_with fail
    go_ret
    exact ⟨rfl, B2.out⟩
set_option maxHeartbeats 4000000 in
theorem specHazF_any (v : Value) (c : Cz) (w : World) (h : CircAt w v c) :
    Calls Try.prog 19 #[v] w fun e w' => e = .returned (.bool (Cir.hazF c)) ∧ Below w.heap.size w w' := by
  have HC := Lib.hid h
  obtain ⟨vn, vg, vo, rfl, r1, r2, r3⟩ := h
  have B0 := Lib.hid (bel_new w (.cells #[.int .i64 c.ins, vn, vg, vo] 31))
  have PC := Lib.hid (PCells.boxed w c.ins vn vg vo 31)
  have hsz : (w.alloc (.cells #[.int .i64 c.ins, vn, vg, vo] 31)).heap.size = w.heap.size + 1 := by simp
  have HC0 := Lib.hid (HC.out.below B0.out)
  have HV := Lib.hid (specValid_any _ _ _ HC0.out)
  obtain ⟨z, p0, p1, p2, p3⟩ := PC.out
  clear r1 r2 r3 HC
  cases hv : Cir.valid c
  · rw [hv] at HV
    have HR : Hid (Cir.hazF c = false) := Lib.hid (by unfold Cir.hazF; rw [hv]; rfl)
    rw [HR.out]
    clear HR hv
    go_enter Try.func19, Try.ntmps19
    go_wp2_with fail
    refine HV.out.mono ?_
    rintro e w1 ⟨rfl, hb1⟩
    have B1 := Lib.hid (B0.out.trans (hb1.mono B0.out.size))
    clear hb1
    go_wp2_with fail
    go_ret
    exact ⟨rfl, B1.out⟩
  · rw [hv] at HV
    have HR : Hid (Cir.hazF c = decide ((Cir.hazI c).length = 0)) := Lib.hid (by unfold Cir.hazF; rw [hv, Bool.true_and]; rfl)
    rw [HR.out]
    obtain ⟨n, hn⟩ : ∃ n, (Cir.hazI c).length = n := ⟨_, rfl⟩
    have HN := Lib.hid hn
    rw [hn]
    clear hn
    have hq : (((n : Nat) : Int) == 0) = decide (n = 0) := by rw [Bool.eq_iff_iff, beq_iff_eq, decide_eq_true_iff]; omega
    clear HR hv
    go_enter Try.func19, Try.ntmps19
    go_wp2_with fail
    refine HV.out.mono ?_
    rintro e w1 ⟨rfl, hb1⟩
    have Hb1 := Lib.hid hb1
    obtain ⟨z, p0, p1, p2, p3⟩ := PC.out.below hb1
    clear hb1
    go_wp2_with fail
    refine (specHaz_any _ c _ (HC0.out.below Hb1.out)).mono ?_
    rintro e w2 ⟨v2, rfl, hO, hb2⟩
    obtain ⟨A2, c2, e2, -, -⟩ := (Row.of_own hO).shape
    rw [HN.out] at e2
    subst e2
    have B2 := Lib.hid (B0.out.trans ((Hb1.out.trans (hb2.mono Hb1.out.size)).mono B0.out.size))
    clear hb2 hO Hb1 HC0
    go_wp2_with fail
    go_ret
    exact ⟨rfl, B2.out⟩
theorem trips_of_row {B T : Nat} {e : TypeId} {v : Value} {xs : List (Nat × Nat × Nat)} {w : World} (h : RowT B T e 3 v xs.length (trips xs) w) : TripsAt w v xs := Row.of_own h.1
theorem Kept.atH {v : Value} {xs : List (Nat × Nat × Nat)} {T : Nat} {w : World} (h : Kept (fun w' => TripsAt w' v xs) T w) : TripsAt w v xs := by
  obtain ⟨w0, h, _, hb⟩ := h
  exact Row.below h hb
theorem markHazardS_own (B T : Nat) (v : Value) (n k : Nat) (cs : List Value) (w : World) (h : RowT B T 57 3 v n cs w) (hn : n ≤ 1048576) (hk : k ≤ 100000000) :
    Calls Try.prog 17 #[v, .int .i64 k] w fun e w' => e = .returned (.int .i64 ((k + n * 3 : Nat) : Int)) ∧ Only (fun g => B ≤ g ∧ g < T) w w' ∧ Has B w'.heap.size (RowT B w'.heap.size 57 3 v n (runI k (n * 3))) w' :=
  (markHazardS_any B v n k cs w h.1 hn hk).mono fun _ _ ⟨h1, h2, h3⟩ => ⟨h1, Only.grown h3 fun g hg => ⟨(h.1.lt g hg).1, h.2 g hg⟩, has_row h2⟩
end Go.Proofs.Ytlbfejdbfhgifaa
