import Derived.Test.YtdgminjbgjbamaaS02
import Derived.Deep.RegionWith
import Derived.Test.YtdgminjbgjbamaaProg
import Derived.Test.YtdgminjbgjbamaaS01
import Derived.StillTailTactics
import Derived.BigRegion
import Derived.WalkKit
import Derived.Orders
import Derived.Laws.AppendOwn
import Derived.Below
import Derived.Laws.CopyOwn
set_option linter.unusedVariables false
set_option linter.unusedSimpArgs false
set_option maxRecDepth 100000
set_option maxHeartbeats 16000000
namespace Go.Proofs.Ytdgminjbgjbamaa
open Go.RowKit
theorem isLit_in (x V : Int) : decide (0 ≤ x ∧ x ≤ 2 * V - 1) = Cir.isLit x V := by
  unfold Cir.isLit
  exact decide_eq_decide.2 ⟨fun h => by omega, fun h => by omega⟩
theorem l1Lits_any (v : Value) (xs : List Int) (V : Int) (w : World) (h : IntsAt w v xs) (h1 : -1000000 ≤ V) (h2 : V ≤ 1000000) :
    Calls Try.prog 45 #[v, .int .i64 V] w fun e w' => e = .returned (.bool (xs.all (Cir.isLit · V))) ∧ w = w' := by
  obtain ⟨A, c, hv, hc, hcm⟩ := h.shape
  subst hv
  unfold maxLen at hcm
  have h0 : Hid (xs.all (Cir.isLit · V) = (xs.drop 0).all (Cir.isLit · V)) := Lib.hid rfl
  generalize xs.all (Cir.isLit · V) = res at h0 ⊢
  go_enter Try.func45, Try.ntmps45
  go_wp2_with fail
  go_loop [5] (fun i => ∃ k : Nat, k ≤ xs.length ∧ i = .int .i64 k ∧ Hid (res = (xs.drop k).all (Cir.isLit · V))) (fun i => xs.length - (intOf i).toNat)
  case atStart => exact ⟨0, Nat.zero_le _, rfl, h0⟩
  case round =>
    obtain ⟨k, hk, rfl, hres⟩ := hrel
    by_cases hlt : k < xs.length
    · obtain ⟨b, o, x, rfl, hbl, hx, hs1⟩ := ints_open h (Below.refl _ _) rfl hlt
      have Hstep := Lib.hid (all_drop (p := (Cir.isLit · V)) hx.out)
      have Hin := Lib.hid (isLit_in x V)
      clear h h0
      cases h3 : Cir.isLit x V
      · have H1 := Lib.hid h3
        have hr : res = false := by rw [hres.out, Hstep.out, h3]; rfl
        subst hr
        clear h3
        go_wp2_with fail
        refine (l1In_any _ _ _ _).mono ?_
        rintro e w' ⟨rfl, rfl⟩
        rw [Hin.out, H1.out]
        go_wp2_with fail
        go_ret
        exact ⟨rfl, rfl⟩
      · have H1 := Lib.hid h3
        have Hn : Hid (res = (xs.drop (k + 1)).all (Cir.isLit · V)) := Lib.hid (by rw [hres.out, Hstep.out, h3]; rfl)
        clear h3
        go_wp2_with fail
        refine (l1In_any _ _ _ _).mono ?_
        rintro e w' ⟨rfl, rfl⟩
        rw [Hin.out, H1.out]
        go_wp2_with fail
        go_round
        case rel => exact ⟨k + 1, by omega, by go_num, Hn⟩
        case measure => simp [intOf] <;> omega
    · have hr : res = true := by rw [hres.out, List.drop_eq_nil_of_le (by omega : xs.length ≤ k)]; rfl
      subst hr
      go_wp2_with fail
      go_ret
      exact ⟨rfl, rfl⟩
theorem l1First_any (v : Value) (c : Cz) (w : World) (h : CircAt w v c) (h1 : 0 ≤ c.ins) (h2 : c.ins ≤ 100) (h3 : c.next.length ≤ 100) :
    Calls Try.prog 44 #[v] w fun e w' => e = .returned (.int .i64 (Cir.first c)) ∧ Below w.heap.size w w' := by
  obtain ⟨vn, vg, vo, rfl, r1, r2, r3⟩ := h
  obtain ⟨An, cn, hvn, hcn, hcmn⟩ := r1.shape
  subst hvn
  clear r1 r2 r3
  have hF : Hid (c.ins + c.next.length + 1 = Cir.first c) := Lib.hid (by unfold Cir.first; omega)
  go_enter Try.func44, Try.ntmps44
  go_wp2
  go_ret
  exact ⟨ret_int hF.out, (Below.refl _ _).alloc (Nat.le_refl _) _⟩
def PCells (w : World) (g : Nat) (i : Int) (vn vg vo : Value) : Prop := g < w.heap.size ∧ w.cell? ⟨g, 0, none⟩ = some (.int .i64 i) ∧ w.cell? ⟨g, 1, none⟩ = some vn ∧ w.cell? ⟨g, 2, none⟩ = some vg ∧ w.cell? ⟨g, 3, none⟩ = some vo
theorem PCells.below {w w' : World} {g : Nat} {i : Int} {vn vg vo : Value} (h : PCells w g i vn vg vo) (hb : Below w.heap.size w w') : PCells w' g i vn vg vo := by
  obtain ⟨hg, c0, c1, c2, c3⟩ := h
  exact ⟨Nat.lt_of_lt_of_le hg hb.size, (hb.cell (p := ⟨g, 0, none⟩) hg).trans c0, (hb.cell (p := ⟨g, 1, none⟩) hg).trans c1, (hb.cell (p := ⟨g, 2, none⟩) hg).trans c2, (hb.cell (p := ⟨g, 3, none⟩) hg).trans c3⟩
theorem PCells.boxed (w : World) (i : Int) (vn vg vo : Value) (t : TypeId) : PCells (w.alloc (.cells #[.int .i64 i, vn, vg, vo] t)) w.heap.size i vn vg vo :=
  ⟨by simp, World.cell?_alloc_new _ _ _ 0, World.cell?_alloc_new _ _ _ 1, World.cell?_alloc_new _ _ _ 2, World.cell?_alloc_new _ _ _ 3⟩
theorem specValid_any (v : Value) (c : Cz) (w : World) (h : CircAt w v c) :
    Calls Try.prog 11 #[v] w fun e w' => e = .returned (.bool (Cir.valid c)) ∧ Below w.heap.size w w' := by
  obtain ⟨vn, vg, vo, rfl, r1, r2, r3⟩ := h
  have hP := PCirc.boxed 26 r1 r2 r3
  have hC : CircAt (w.alloc (.cells #[.int .i64 c.ins, vn, vg, vo] 26)) (.agg #[.int .i64 c.ins, vn, vg, vo]) c := ⟨vn, vg, vo, rfl, Row.alloc r1 _, Row.alloc r2 _, Row.alloc r3 _⟩
  have hb0 : Below w.heap.size w (w.alloc (.cells #[.int .i64 c.ins, vn, vg, vo] 26)) := (Below.refl _ _).alloc (Nat.le_refl _) _
  obtain ⟨An, cn, hvn, hcn, hcmn⟩ := r1.shape
  obtain ⟨Ag, cg, hvg, hcg, hcmg⟩ := Row.shape r2
  obtain ⟨Ao, co, hvo, hco, hcmo⟩ := r3.shape
  subst hvn hvg hvo
  unfold maxLen at hcmn hcmg hcmo
  cases hs : Cir.sizes c
  · have hv : Cir.valid c = false := by unfold Cir.valid; rw [hs]; rfl
    rw [hv]
    clear hv hP hC r1 r2 r3
    have B0 := Lib.hid hb0
    clear hb0
    have hsc : (decide (0 ≤ c.ins ∧ c.ins ≤ 4) = false) ∨ (decide (0 ≤ c.ins ∧ c.ins ≤ 4) = true ∧ (3 : Int) < c.next.length) ∨ (decide (0 ≤ c.ins ∧ c.ins ≤ 4) = true ∧ (c.next.length : Int) ≤ 3 ∧ (14 : Int) < c.gates.length) ∨ (decide (0 ≤ c.ins ∧ c.ins ≤ 4) = true ∧ (c.next.length : Int) ≤ 3 ∧ (c.gates.length : Int) ≤ 14 ∧ (3 : Int) < c.outs.length) := by
      rw [decide_eq_false_iff_not, decide_eq_true_eq]
      rcases sizes_cases hs with g | ⟨g0, g1⟩ | ⟨g0, g1, g2⟩ | ⟨g0, g1, g2, g3⟩ | ⟨g0, g1, g2, g3, g4⟩
      · exact .inl (by omega)
      · exact .inl (by omega)
      · exact .inr (.inl ⟨⟨g0, g1⟩, g2⟩)
      · exact .inr (.inr (.inl ⟨⟨g0, g1⟩, g2, g3⟩))
      · exact .inr (.inr (.inr ⟨⟨g0, g1⟩, g2, g3, g4⟩))
    rcases hsc with d | ⟨d, g2⟩ | ⟨d, g2, g3⟩ | ⟨d, g2, g3, g4⟩
    all_goals
      clear hs
      have D := Lib.hid d
      clear d
      go_enter Try.func11, Try.ntmps11
      go_wp2_with fail
      refine (l1In_any _ _ _ _).mono ?_
      rintro e w' ⟨rfl, rfl⟩
      rw [D.out]
      go_wp2_with fail
      go_ret
      exact ⟨rfl, B0.out⟩
  · obtain ⟨s1, s2, s3, s4, s5⟩ : 0 ≤ c.ins ∧ c.ins ≤ 4 ∧ c.next.length ≤ 3 ∧ c.gates.length ≤ 14 ∧ c.outs.length ≤ 3 := by unfold Cir.sizes at hs; simpa using hs
    have hv : Cir.valid c = (Cir.gatesOk (Cir.first c) 0 (c.gates.drop 0) && (c.next ++ c.outs).all (Cir.isLit · (Cir.vars c))) := by unfold Cir.valid; rw [hs]; rfl
    have HV := Lib.hid hv
    have HP := Lib.hid hP
    have HC := Lib.hid hC
    have B0 := Lib.hid hb0
    have D : Hid (decide (0 ≤ c.ins ∧ c.ins ≤ 4) = true) := Lib.hid (decide_eq_true ⟨s1, s2⟩)
    have t1 : (c.next.length : Int) ≤ 3 := by omega
    have t2 : (c.gates.length : Int) ≤ 14 := by omega
    have t3 : (c.outs.length : Int) ≤ 3 := by omega
    have R2 := Lib.hid (Row.alloc r2 (.cells #[.int .i64 c.ins, .slice An c.next.length cn, .slice Ag c.gates.length cg, .slice Ao c.outs.length co] 26))
    have HF : Hid (Cir.vars c = Cir.first c + c.gates.length) := Lib.hid rfl
    have hfb : 1 ≤ Cir.first c ∧ Cir.first c ≤ 10 := by unfold Cir.first; omega
    obtain ⟨hf1, hf2⟩ := hfb
    clear hs hv hP hC hb0 r2
    generalize Cir.valid c = res at HV ⊢
    have R1x := Lib.hid r1
    have R3x := Lib.hid r3
    clear r1 r3
    go_enter Try.func11, Try.ntmps11
    go_wp2_with fail
    refine (l1In_any _ _ _ _).mono ?_
    rintro e w' ⟨rfl, rfl⟩
    rw [D.out]
    go_wp2_with fail
    refine (l1First_any _ c _ HC.out s1 (by omega) (by omega)).mono ?_
    rintro e w1 ⟨rfl, hb1⟩
    have B1 := Lib.hid (B0.out.trans (hb1.mono (by simp)))
    have R21 := Lib.hid (Row.below R2.out hb1)
    have RN := Lib.hid (Row.below (Row.alloc R1x.out (.cells #[.int .i64 c.ins, .slice An c.next.length cn, .slice Ag c.gates.length cg, .slice Ao c.outs.length co] 26)) hb1)
    have RO := Lib.hid (Row.below (Row.alloc R3x.out (.cells #[.int .i64 c.ins, .slice An c.next.length cn, .slice Ag c.gates.length cg, .slice Ao c.outs.length co] 26)) hb1)
    have K1 := Lib.hid ((PCells.boxed w c.ins (.slice An c.next.length cn) (.slice Ag c.gates.length cg) (.slice Ao c.outs.length co) 26).below hb1)
    clear hb1 R1x R3x HC B0 R2
    go_wp2_with fail
    go_loopw [4] (fun t wr => ∃ k : Nat, k ≤ c.gates.length ∧ t = .int .i64 k ∧ Hid (res = (Cir.gatesOk (Cir.first c) k (c.gates.drop k) && (c.next ++ c.outs).all (Cir.isLit · (Cir.vars c)))) ∧ Below w1.heap.size w1 wr) (fun t _ => c.gates.length - (intOf t).toNat)
    case atStart => exact ⟨0, Nat.zero_le _, rfl, HV, Below.refl _ _⟩
    case round =>
      obtain ⟨k, hk, rfl, hres, hb⟩ := hrel
      obtain ⟨kg, k0, k1, k2, k3⟩ := K1.out.below hb
      have Hb := Lib.hid hb
      have hz1 := B1.out.size
      have hz2 := hb.size
      by_cases hlt : k < c.gates.length
      · obtain ⟨b, o, x, rfl, hbl, hx, hs1, hs2⟩ := cubes_open R21.out hb rfl hlt
        have Hstep := Lib.hid (Cir.gatesOk_drop (f := Cir.first c) hx.out)
        have hbr : b < wr.heap.size := by omega
        have hwf := IntWalk.i64_in (Cir.first c + k) (by omega)
        clear hb HV
        have hV : -1000000 ≤ Cir.first c + k ∧ Cir.first c + k ≤ 1000000 := by omega
        obtain ⟨bb, hbb⟩ : ∃ bb, [x.1, x.2].all (Cir.isLit · (Cir.first c + k)) = bb := ⟨_, rfl⟩
        have HL : Hid (∀ w2 : World, Calls Try.prog 45 #[.slice (some ⟨w2.heap.size, 0, none⟩) 2 2, .int .i64 (Cir.first c + k)] (w2.alloc (.cells #[.int .i64 x.1, .int .i64 x.2] 3)).drew fun e w' => e = .returned (.bool bb) ∧ (w2.alloc (.cells #[.int .i64 x.1, .int .i64 x.2] 3)).drew = w') := Lib.hid fun w2 => by
          rw [← hbb]
          exact l1Lits_any _ [x.1, x.2] _ _ (Row.of_own (World.ownsRow_lit (base := 0) (e := 3) (size := 1) w2 #[.int .i64 x.1, .int .i64 x.2] 2 (Nat.zero_le _) (by unfold maxLen; omega) rfl)) hV.1 hV.2
        have hbb' : (Cir.isLit x.1 (Cir.first c + k) && Cir.isLit x.2 (Cir.first c + k)) = bb := by rw [← hbb]; simp
        cases bb
        · have hr : res = false := by rw [hres.out, Hstep.out, hbb']; rfl
          subst hr
          clear hbb hbb'
          go_wp2_with fail
          go_region_with ((go_at_call 45; refine (HL.out _).mono ?_; rintro e w' ⟨rfl, rfl⟩))
          all_goals
            go_wp2_with fail
            go_ret
            exact ⟨rfl, B1.out.trans (((Hb.out.alloc hz2 _).drew).mono hz1)⟩
        · have Hn : Hid (res = (Cir.gatesOk (Cir.first c) (k + 1) (c.gates.drop (k + 1)) && (c.next ++ c.outs).all (Cir.isLit · (Cir.vars c)))) := Lib.hid (by rw [hres.out, Hstep.out, hbb']; rfl)
          clear hbb hbb'
          go_wp2_with fail
          go_region_with ((go_at_call 45; refine (HL.out _).mono ?_; rintro e w' ⟨rfl, rfl⟩))
          all_goals
            go_wp2_with fail
            go_roundw
            case rel => exact ⟨k + 1, by omega, by go_num, Hn, (Hb.out.alloc hz2 _).drew⟩
            case measure => simp [intOf] <;> omega
      · have hr : Hid (res = (c.next.all (Cir.isLit · (Cir.first c + c.gates.length)) && c.outs.all (Cir.isLit · (Cir.first c + c.gates.length)))) := Lib.hid (by rw [hres.out, List.drop_eq_nil_of_le (by omega : c.gates.length ≤ k), HF.out, List.all_append]; rfl)
        have HRN := Lib.hid (Row.below RN.out hb)
        have HRO := Lib.hid (Row.below RO.out hb)
        have B2 := Lib.hid (B1.out.trans (hb.mono hz1))
        have hV : -1000000 ≤ Cir.first c + c.gates.length ∧ Cir.first c + c.gates.length ≤ 1000000 := by omega
        have hwf := IntWalk.i64_in (Cir.first c + c.gates.length) (by omega)
        clear hres hb HV
        have hL1 := l1Lits_any _ c.next (Cir.first c + c.gates.length) wr HRN.out hV.1 hV.2
        have hL2 := l1Lits_any _ c.outs (Cir.first c + c.gates.length) wr HRO.out hV.1 hV.2
        cases h1 : c.next.all (Cir.isLit · (Cir.first c + c.gates.length))
        · rw [h1] at hL1
          have HL1 := Lib.hid hL1
          have hrr : res = false := by rw [hr.out, h1]; rfl
          subst hrr
          clear hL1 hL2 h1
          go_wp2_with fail
          refine HL1.out.mono ?_
          rintro e w' ⟨rfl, rfl⟩
          go_wp2_with fail
          go_ret
          exact ⟨rfl, B2.out⟩
        · rw [h1] at hL1
          have HL1 := Lib.hid hL1
          have HL2 := Lib.hid hL2
          have hrr : Hid (res = c.outs.all (Cir.isLit · (Cir.first c + c.gates.length))) := Lib.hid (by rw [hr.out, h1]; rfl)
          clear hL1 hL2 h1
          go_wp2_with fail
          refine HL1.out.mono ?_
          rintro e w' ⟨rfl, rfl⟩
          go_wp2_with fail
          refine HL2.out.mono ?_
          rintro e w' ⟨rfl, rfl⟩
          go_wp2_with fail
          go_ret
          exact ⟨ret_bool hrr.out.symm, B2.out⟩
end Go.Proofs.Ytdgminjbgjbamaa
namespace Go.Proofs.Ytdgminjbgjbamaa
open Go.RowKit
theorem info_gate : (Try.prog.info? 72).map (fun i => (i.zero, i.size, i.bytes)) = some (some (.agg #[.int .i64 0, .int .i64 0]), 2, 16) := by kernel_rfl
end Go.Proofs.Ytdgminjbgjbamaa
namespace Go.Proofs.Ytdgminjbgjbamaa
open Go.RowKit
def SzCir (c : Cz) (w : World) (e : Ending) (w' : World) : Prop :=
  ∃ r : Int, e = .returned (.int .i64 r) ∧ (r = -1 ∨ (0 ≤ r ∧ r ≤ 1048576 ∧ c.next.length ≤ 1048576 ∧ c.gates.length ≤ 1048576 ∧ c.outs.length ≤ 1048576)) ∧ Below w.heap.size w w'
def OwnCirc (b : Nat) (v : Value) (c : Cz) (w : World) : Prop :=
  ∃ vn vg vo b2 b3, v = .agg #[.int .i64 c.ins, vn, vg, vo] ∧ b ≤ b2 ∧ b2 ≤ b3 ∧ (∀ g, vn.ownBlock = some g → g < b2) ∧ (∀ g, vg.ownBlock = some g → g < b3) ∧
    w.ownsRow b 3 1 vn c.next.length (ints c.next) ∧ w.ownsRow b2 72 2 vg c.gates.length (cubes c.gates) ∧ w.ownsRow b3 3 1 vo c.outs.length (ints c.outs)
def ToCir (c : Cz) (w : World) (e : Ending) (w' : World) : Prop := ∃ v, e = .returned v ∧ OwnCirc w.heap.size v c w' ∧ Below w.heap.size w w'
end Go.Proofs.Ytdgminjbgjbamaa
namespace Go.Proofs.Ytdgminjbgjbamaa
open Go.RowKit
theorem info_bool : (Try.prog.info? 4).map (fun i => (i.zero, i.size, i.bytes)) = some (some (.bool false), 1, 1) := by kernel_rfl
end Go.Proofs.Ytdgminjbgjbamaa
namespace Go.Proofs.Ytdgminjbgjbamaa
open Go.RowKit
theorem bools_open {w wr : World} {A : Option Addr} {n c : Nat} {xs : List Bool} (h : Row w 1 (.slice A n c) n (bools xs)) (hb : Below w.heap.size w wr) {i : Nat} (hn : n = xs.length) (hi : i < xs.length) :
    ∃ b o x, A = some ⟨b, o, none⟩ ∧ b < w.heap.size ∧ Hid (xs[i]? = some x) ∧ wr.cell? ⟨b, o + i, none⟩ = some (.bool x) := by
  subst hn
  obtain ⟨b, o, c', hv, _, _, hbl, hcell⟩ := h.open (by omega)
  obtain ⟨rfl, _⟩ : A = some ⟨b, o, none⟩ ∧ True := by injection hv with e1; exact ⟨e1, trivial⟩
  obtain ⟨x, hx, hs⟩ := bools_at hi
  exact ⟨b, o, x, rfl, hbl, Lib.hid hx, (hb.cell (p := ⟨b, _, none⟩) hbl).trans (hcell _ _ hs)⟩
theorem lit_of {v : List Bool} {l : Nat} {x : Bool} (h : v[l / 2]? = some x) : Cir.lit v l = (x != (l % 2 == 1)) := by
  unfold Cir.lit
  rw [List.getD_eq_getElem?_getD, h]
  rfl
theorem append_bools {w : World} {ops : Array Oper} {rest : List Oper} {o : Oper} {a : Act} {Q : Exit → Act → World → Prop} (hgd : o.guard = none) (s x : Operand)
    (ho : o.op = .call { callee := .builtin .append, args := #[s, x], argTypes := #[64, 64] })
    (base : Nat) (v : Value) (n : Nat) (xs : List Value) (hs : a.eval s = v) (hown : w.ownsRow base 4 1 v n xs) (sv : Value) (m : Nat) (news : List Value) (hx : a.eval x = sv) (hr : Row w 1 sv m news) (h1 : ∀ u ∈ news, u.oneCell' = true)
    (h63 : n + m ≤ 10000000) (hbase : base ≤ w.heap.size)
    (h : ∀ v' w', w'.ownsRow base 4 1 v' (n + m) (xs ++ news) → w.grownBy w' v.ownBlock → (v'.ownBlock = v.ownBlock ∨ v'.ownBlock = some w.heap.size) → wpList Try.prog ops Q rest (a.put o.dst v') w') : wpList Try.prog ops Q (o :: rest) a w := by
  obtain ⟨i, hi, hz0, hz1, hz2⟩ := info_parts info_bool
  exact wpList_append_at hgd s x 64 ho base 4 i _ 1 1 Try.underlying64 hi hz0 hz1 hz2 rfl (by decide) v n xs hs hown sv m news hx hr h1 (by unfold maxLen; omega) (by omega) hbase h
theorem bools_one (xs : List Bool) : ∀ u ∈ bools xs, u.oneCell' = true := by
  intro u hu
  obtain ⟨x, _, rfl⟩ := List.mem_map.1 hu
  rfl
theorem bools_append (a b : List Bool) : bools (a ++ b) = bools a ++ bools b := List.map_append
def OwnBools (xs : List Bool) (w : World) (e : Ending) (w' : World) : Prop := ∃ v, e = .returned v ∧ w'.ownsRow w.heap.size 4 1 v xs.length (bools xs) ∧ Below w.heap.size w w'
theorem ownBools_at {w : World} {b : Nat} {v : Value} {xs : List Bool} (h : w.ownsRow b 4 1 v xs.length (bools xs)) : BoolsAt w v xs := Row.of_own h
end Go.Proofs.Ytdgminjbgjbamaa
namespace Go.Proofs.Ytdgminjbgjbamaa
open Go.RowKit
namespace Cir
def tab (c : Ci) (l : Nat) : Nat → Nat
  | 0 => 0
  | k + 1 => tab c l k + (if lit (vals c [] (bits k c.ins)) l then 2 ^ k else 0)
end Cir
end Go.Proofs.Ytdgminjbgjbamaa
namespace Go.Proofs.Ytdgminjbgjbamaa
open Go.RowKit
theorem litValue_any (v : Value) (xs : List Bool) (l : Nat) (w : World) (h : BoolsAt w v xs) (hl : l < 2 * xs.length) (hb : l ≤ 1000000) :
    Calls Try.prog 104 #[v, .int .i64 l] w fun e w' => e = .returned (.bool (Cir.lit xs l)) ∧ w = w' := by
  obtain ⟨A, c, hv, hc, hcm⟩ := Row.shape h
  subst hv
  have hi : l / 2 < xs.length := by omega
  obtain ⟨b, o, x, rfl, hbl, hx, hs⟩ := bools_open h (Below.refl _ _) rfl hi
  have HL := Lib.hid (lit_of hx.out)
  have hq : (l : Int).tdiv 2 = ((l / 2 : Nat) : Int) := by rw [Int.tdiv_eq_ediv_of_nonneg (by omega)]; omega
  have hm : bits .and .i64 (l : Int) 1 = ((l % 2 : Nat) : Int) := by
    have := i64_and_nat l 1 (by omega) (by omega)
    rw [Nat.and_one_is_mod] at this
    exact this
  have he : (((l % 2 : Nat) : Int) == 1) = (l % 2 == 1) := by
    rw [Bool.eq_iff_iff, beq_iff_eq, beq_iff_eq]
    omega
  have hqb : l / 2 ≤ 1000000 := by omega
  generalize l / 2 = q at *
  generalize l % 2 = r at *
  have hwr : IntKind.i64.wrap (q : Int) = q := IntWalk.i64_in _ (by omega)
  go_enter Try.func104, Try.ntmps104
  go_wp2
  go_ret
  refine ⟨ret_bool ?_, rfl⟩
  rw [HL.out]
  simp
  generalize (r == 1) = p
  cases x <;> cases p <;> rfl
theorem bits_get {x n k : Nat} (h : k < n) : (bools (Cir.bits x n))[k]? = some (.bool (x.testBit k)) := by
  simp [bools, Cir.bits, h]
theorem bitsOf_any (x n : Nat) (w : World) (hx : x ≤ 1000000) (hn : n ≤ 16) :
    Calls Try.prog 83 #[.int .i64 x, .int .i64 n] w (OwnBools (Cir.bits x n) w) := by
  have hmk := run_make_row' (P := Try.prog) 64 4 (.bool false) 1 Try.underlying64 info_bool rfl .i64 .i64 n (by omega) (by omega)
  go_enter Try.func83, Try.ntmps83
  go_wp2
  have hown0 := World.ownsRow_lit (base := w.heap.size) (e := 4) (size := 1) w (madeCells #[Value.bool false] n) n (Nat.le_refl _) (by unfold maxLen; omega) (by simp [madeCells])
  have hb0 : Below w.heap.size w (w.alloc (.cells (madeCells #[Value.bool false] n) 4)) := (Below.refl _ _).alloc (Nat.le_refl _) _
  go_loopw [11] (fun i wr => ∃ (k : Nat) (cs : List Value), k ≤ n ∧ i = .int .i64 k ∧ wr.ownsRow w.heap.size 4 1 (.slice (some ⟨w.heap.size, 0, none⟩) n n) n cs ∧ cs.take k = (bools (Cir.bits x n)).take k ∧ Below w.heap.size w wr)
    (fun i _ => n - (intOf i).toNat)
  case atStart => exact ⟨0, _, Nat.zero_le _, rfl, hown0, rfl, hb0⟩
  case round =>
    obtain ⟨k, cs, hk, rfl, hown, htk, hb⟩ := hrel
    clear hmk hown0 hb0
    by_cases hlt : k < n
    · have hq : (x : Int) / 2 ^ k = ((x / 2 ^ k : Nat) : Int) := by
        rw [Int.natCast_ediv, two_pow]
      have hy : x / 2 ^ k ≤ 1000000 := Nat.le_trans (Nat.div_le_self _ _) hx
      have hm : bits .and .i64 ((x / 2 ^ k : Nat) : Int) 1 = ((x / 2 ^ k % 2 : Nat) : Int) := by
        have := i64_and_nat (x / 2 ^ k) 1 (by omega) (by omega)
        rw [Nat.and_one_is_mod] at this
        exact this
      have he : (((x / 2 ^ k % 2 : Nat) : Int) == 1) = x.testBit k := by
        rw [Nat.testBit_eq_decide_div_mod_eq, Bool.eq_iff_iff, beq_iff_eq, decide_eq_true_iff]
        omega
      have hs := bits_get (x := x) hlt
      generalize x / 2 ^ k = y at hq hm he hy
      generalize y % 2 = r at hm he
      generalize x.testBit k = b at he hs
      have hl := hown.1
      obtain ⟨u0, _, hd, hf⟩ := own_slot hown (j := k) (by omega)
      have Hown := Lib.hid (hown.stored k (.bool b)).1
      have Hstep := Lib.hid (take_set_succ (by omega) htk hs)
      clear hs hl htk hown hy
      go_wp2
      go_roundw
      case rel => exact ⟨k + 1, _, by omega, by go_num, Hown.out, Hstep.out, hb.setCell (Nat.le_refl _) _⟩
      case measure => simp [intOf]; omega
    · go_wp2
      go_ret
      have hl2 : (Cir.bits x n).length = n := by simp [Cir.bits]
      have e : cs = bools (Cir.bits x n) := by
        have hl := hown.1
        rw [List.take_of_length_le (by omega), List.take_of_length_le (by rw [bools_length]; omega)] at htk
        exact htk
      exact ⟨_, rfl, by rw [hl2]; exact e ▸ hown, hb⟩
end Go.Proofs.Ytdgminjbgjbamaa
namespace Go.Proofs.Ytdgminjbgjbamaa
def ancB (ops : Array Oper) : Nat → Nat → Nat → Bool
  | 0, i, j => i == j
  | n + 1, i, j => i == j || ((ops[j]?).map fun o => o.after.any fun e => Region.binds .any e && ancB ops n i e.on).getD false
def Shut (ops : Array Oper) (L : Nat → Bool) : Prop := ∀ j o, L j = true → ops[j]? = some o → ∀ e ∈ o.after, Region.binds .any e = true → L e.on = true
theorem ancB_shut {ops : Array Oper} {L : Nat → Bool} (hC : Shut ops L) : ∀ n i j, ancB ops n i j = true → L j = true → L i = true
  | 0, i, j, h, hj => by
    have : i = j := by simpa [ancB] using h
    exact this ▸ hj
  | n + 1, i, j, h, hj => by
    rw [ancB, Bool.or_eq_true] at h
    rcases h with h | h
    · have : i = j := by simpa using h
      exact this ▸ hj
    · cases ho : ops[j]? with
      | none => simp [ho] at h
      | some o =>
        simp only [ho, Option.map_some, Option.getD_some, Array.any_eq_true] at h
        obtain ⟨k, hk, h⟩ := h
        rw [Bool.and_eq_true] at h
        exact ancB_shut hC n i _ h.2 (hC j o hj ho _ (Array.getElem_mem hk) h.1)
def tmpsOf (xs : List Operand) : List Tmp := xs.filterMap fun | .tmp t => some t | _ => none
def clash (x y : Oper) : Bool :=
  (match x.dst with | some d => (tmpsOf y.op.operands.toList).contains d | none => false) ||
  (match y.dst with | some d => (tmpsOf x.op.operands.toList).contains d | none => false)
def rgB (ops : Array Oper) : Bool :=
  (List.range ops.size).all fun i => match ops[i]? with
    | none => true
    | some o => o.guard.isNone && o.after.all (fun e => !Region.binds .any e || decide (e.on < i)) &&
        (match o.op with | .select .. => false | _ => true) &&
        (List.range i).all fun j => match ops[j]? with
          | none => true
          | some p => (p.dst.isNone || p.dst != o.dst) && (!clash p o || ancB ops 4 j i)
section
variable {P : Program} {ops : Array Oper}
structure RgOk (ops : Array Oper) (i : Nat) (o : Oper) : Prop where
  guard : o.guard = none
  back : ∀ e ∈ o.after, Region.binds .any e = true → e.on < i
  sel : ∀ cs b, o.op ≠ .select cs b
  one : ∀ j p, j < i → ops[j]? = some p → ∀ d, p.dst = some d → o.dst ≠ some d
  anc : ∀ j p, j < i → ops[j]? = some p → clash p o = true → ancB ops 4 j i = true
theorem rgB_ok (h : rgB ops = true) {i : Nat} {o : Oper} (ho : ops[i]? = some o) : RgOk ops i o := by
  have hlt : i < ops.size := (Array.getElem?_eq_some_iff.1 ho).1
  have h1 := List.all_eq_true.1 h i (List.mem_range.2 hlt)
  simp only [ho, Bool.and_eq_true] at h1
  obtain ⟨⟨⟨h1, h2⟩, h3⟩, h4⟩ := h1
  refine ⟨by simpa using h1, fun e he hb => ?_, fun cs b e => by simp [e] at h3, fun j p hj hp d hd e => ?_, fun j p hj hp hc => ?_⟩
  · have := Array.all_eq_true_iff_forall_mem.1 h2 e he
    simpa [hb] using this
  · have := List.all_eq_true.1 h4 j (List.mem_range.2 hj)
    simp [hp, hd, e] at this
  · have := List.all_eq_true.1 h4 j (List.mem_range.2 hj)
    simp only [hp, Bool.and_eq_true] at this
    simpa [hc] using this.2
structure Is (ops : Array Oper) (a0 : Act) (L : Nat → Bool) (f : Nat → Value) (a : Act) : Prop where
  defers : a.defers = a0.defers
  size : a.tmps.size = a0.tmps.size
  mine : ∀ i o t, L i = true → ops[i]? = some o → o.dst = some t → t < a0.tmps.size → a.tmps.getD t undef = f i
  old : ∀ t, (∀ i o, L i = true → ops[i]? = some o → o.dst ≠ some t) → a.tmps.getD t undef = a0.tmps.getD t undef
theorem put_size (a : Act) (d : Option Tmp) (v : Value) : (a.put d v).tmps.size = a.tmps.size := by cases d <;> simp [Act.put]
theorem put_defers (a : Act) (d : Option Tmp) (v : Value) : (a.put d v).defers = a.defers := by cases d <;> rfl
theorem put_get (a : Act) (d : Tmp) (v : Value) (h : d < a.tmps.size) : (a.put (some d) v).tmps.getD d undef = v := by simp [Act.put, h]
theorem put_get_ne (a : Act) (d : Option Tmp) (v : Value) (t : Tmp) (h : d ≠ some t) : (a.put d v).tmps.getD t undef = a.tmps.getD t undef := by
  cases d with
  | none => rfl
  | some d =>
    have : d ≠ t := fun e => h (by rw [e])
    simp [Act.put, Array.getElem?_setIfInBounds_ne this]
theorem Is.start (a0 : Act) (f : Nat → Value) : Is ops a0 (fun _ => false) f a0 := ⟨rfl, rfl, fun _ _ _ h => (by cases h), fun _ _ => rfl⟩
theorem Is.step (hB : rgB ops = true) {a0 a : Act} {L : Nat → Bool} {f : Nat → Value} (h : Is ops a0 L f a) {i : Nat} {o : Oper} (ho : ops[i]? = some o) (hL : L i = false) (v : Value) :
    Is ops a0 (fun j => if j = i then true else L j) (fun j => if j = i then v else f j) (a.put o.dst v) := by
  refine ⟨(put_defers _ _ _).trans h.defers, (put_size _ _ _).trans h.size, fun j p t hj hp ht hlt => ?_, fun t ht => ?_⟩
  · by_cases e : j = i
    · subst e
      obtain rfl := Option.some.inj (ho.symm.trans hp)
      simp only [if_true]
      rw [ht]
      exact put_get _ _ _ (by rw [h.size]; exact hlt)
    · simp only [e, if_false] at hj ⊢
      rw [put_get_ne]
      · exact h.mine j p t hj hp ht hlt
      · intro hd
        rcases Nat.lt_or_gt_of_ne e with hlt' | hgt
        · exact (rgB_ok hB ho).one j p hlt' hp t ht hd
        · exact (rgB_ok hB hp).one i o hgt ho t hd ht
  · rw [put_get_ne]
    · exact h.old t fun j p hj hp => ht j p (by by_cases e : j = i <;> simp [e, hj]) hp
    · exact ht i o (by simp) ho
theorem Is.same {a0 a b : Act} {L : Nat → Bool} {f : Nat → Value} (h : Is ops a0 L f a) (h' : Is ops a0 L f b) : a = b := by
  have hd : a.defers = b.defers := h.defers.trans h'.defers.symm
  have ht : a.tmps = b.tmps := by
    apply Array.ext (h.size.trans h'.size.symm)
    intro t h1 h2
    have key : a.tmps.getD t undef = b.tmps.getD t undef := by
      by_cases hw : ∃ i o, L i = true ∧ ops[i]? = some o ∧ o.dst = some t
      · obtain ⟨i, o, hi, ho, hd⟩ := hw
        rw [h.mine i o t hi ho hd (by rw [← h.size]; exact h1), h'.mine i o t hi ho hd (by rw [← h.size]; exact h1)]
      · have hn : ∀ i o, L i = true → ops[i]? = some o → o.dst ≠ some t := fun i o hi ho hd => hw ⟨i, o, hi, ho, hd⟩
        rw [h.old t hn, h'.old t hn]
    simpa [Array.getD, h1, h2] using key
  cases a; cases b
  simp only at hd ht
  subst hd ht
  rfl
def putAll : List Oper → (Nat → Value) → Nat → Act → Act
  | [], _, _, a => a
  | o :: l, f, k, a => putAll l f (k + 1) (a.put o.dst (f k))
theorem putAll_is (hB : rgB ops = true) {a0 : Act} {f : Nat → Value} : ∀ (l : List Oper) (k : Nat) (a : Act), ops.toList.drop k = l → Is ops a0 (fun j => decide (j < k)) f a → Is ops a0 (fun j => decide (j < ops.size)) f (putAll l f k a)
  | [], k, a, hl, h => by
    have hk : ops.size ≤ k := by simpa using hl
    have e : Is ops a0 (fun j => decide (j < ops.size)) f a := ⟨h.defers, h.size, fun i o t hi ho => h.mine i o t (by simp at hi ⊢; omega) ho, fun t ht => h.old t fun i o hi ho => ht i o (by
      have := (Array.getElem?_eq_some_iff.1 ho).1
      simpa using this) ho⟩
    exact e
  | o :: l, k, a, hl, h => by
    have hk : k < ops.toList.length := by
      rcases Nat.lt_or_ge k ops.toList.length with h' | h'
      · exact h'
      · rw [List.drop_eq_nil_of_le h'] at hl; cases hl
    rw [List.drop_eq_getElem_cons hk] at hl
    injection hl with h1 h2
    have ho : ops[k]? = some o := by
      rw [← h1, ← Array.getElem?_toList, List.getElem?_eq_getElem hk]
    have hs := h.step hB ho (by simp) (f k)
    refine putAll_is hB l (k + 1) _ h2 ?_
    have e1 : (fun j => if j = k then true else decide (j < k)) = fun j => decide (j < k + 1) := by
      funext j
      by_cases e : j = k
      · subst e; simp
      · simp [e]; omega
    have e2 : (fun j => if j = k then f k else f j) = f := by
      funext j
      by_cases e : j = k <;> simp [e]
    rw [e1, e2] at hs
    exact hs
def Good (P : Program) (o : Oper) (ρ : Operand → Value) (w : World) (R : Value → World → Prop) : Prop :=
  match (execOp ρ o).run P w with
  | .ok (.value v) w' => R v w'
  | .ok .skip w' => R undef w'
  | .ok (.enter f args) w' => Calls P f args w' fun e w'' => match e with | .returned v => R v w'' | _ => False
  | _ => False
def writer (ops : Array Oper) (i t : Nat) : Option Nat := (List.range i).find? fun j => ((ops[j]?).bind (·.dst)) == some t
def Known (ops : Array Oper) (τ : Nat → World → Value → Prop) (a0 : Act) (ρ : Operand → Value) (w : World) (i : Nat) : List Operand → Prop
  | [] => True
  | .tmp t :: xs => (match writer ops i t with | some j => τ j w (ρ (.tmp t)) | none => ρ (.tmp t) = a0.eval (.tmp t)) ∧ Known ops τ a0 ρ w i xs
  | x :: xs => ρ x = a0.eval x ∧ Known ops τ a0 ρ w i xs
theorem countP_lt {α : Type} {p q : α → Bool} : ∀ {l : List α}, (∀ x ∈ l, p x = true → q x = true) → (∃ x ∈ l, q x = true ∧ p x = false) → l.countP p < l.countP q
  | [], _, ⟨x, hx, _⟩ => by cases hx
  | y :: l, h, ⟨x, hx, hq, hp⟩ => by
    have hle : l.countP p ≤ l.countP q := List.countP_mono_left fun z hz => h z (List.mem_cons_of_mem _ hz)
    rw [List.countP_cons, List.countP_cons]
    rcases List.mem_cons.1 hx with e | hx'
    · subst e
      simp [hq, hp]; omega
    · have hlt := countP_lt (fun z hz => h z (List.mem_cons_of_mem _ hz)) ⟨x, hx', hq, hp⟩
      have := h y (by simp)
      by_cases hy : p y = true
      · simp [hy, this hy]; exact hlt
      · simp [hy]; split <;> omega
theorem Good.wp {Q : Exit → Act → World → Prop} {o : Oper} {a : Act} {w : World} {R : Value → World → Prop} {K : Act → World → Prop} (h : Good P o a.eval w R) (hK : ∀ v w', R v w' → K (a.put o.dst v) w') : o.wp P a w K Q := by
  unfold Good at h
  unfold Oper.wp
  generalize (execOp a.eval o).run P w = r at h
  match r, h with
  | .ok (.value v) w', h => exact hK v w' h
  | .ok .skip w', h => exact hK _ w' h
  | .ok (.enter f args) w', h =>
    refine Calls.mono h fun e w'' he => ?_
    match e, he with
    | .returned v, he => exact hK v w'' he
def Copies (ops : Array Oper) (L : Nat → Bool) (f : Nat → Value) : Prop := ∀ i o t j, L i = true → ops[i]? = some o → o.op = .assign (.tmp t) → writer ops i t = some j → L j = true ∧ f i = f j
theorem Good.assign {o : Oper} {ρ : Operand → Value} {w : World} {R : Value → World → Prop} (h : Good P o ρ w R) : Good P o ρ w fun v w' => R v w' ∧ ∀ x, o.op = .assign x → v = ρ x := by
  by_cases hx : ∃ x, o.op = .assign x
  · obtain ⟨x, hx⟩ := hx
    have hr : (execOp ρ o).run P w = .ok (.value (ρ x)) w := by simp [execOp, hx, go_sem]
    unfold Good at h ⊢
    rw [hr] at h ⊢
    exact ⟨h, fun y hy => by rw [hx] at hy; injection hy with hy; rw [hy]⟩
  · have hno : ∀ (v : Value) x, o.op = .assign x → v = ρ x := fun v x h => absurd ⟨x, h⟩ hx
    unfold Good at h ⊢
    generalize (execOp ρ o).run P w = r at h ⊢
    match r, h with
    | .ok (.value v) w', h => exact ⟨h, hno v⟩
    | .ok .skip w', h => exact ⟨h, hno _⟩
    | .ok (.enter f args) w', h =>
      refine Calls.mono h fun e w'' he => ?_
      match e, he with
      | .returned v, he => exact ⟨he, hno v⟩
structure Inv (ops : Array Oper) (τ : Nat → World → Value → Prop) (d : Nat) (I : Option Value → World → Prop) (a0 : Act) (L : Nat → Bool) (a : Act) (w : World) : Prop where
  shut : Shut ops L
  vals : ∃ f, Is ops a0 L f a ∧ I (if L d then some (f d) else none) w ∧ (∀ i, L i = true → i < ops.size ∧ τ i w (f i)) ∧ Copies ops L f
theorem Inv.known {τ : Nat → World → Value → Prop} {d : Nat} {I : Option Value → World → Prop} {a0 a : Act} {L : Nat → Bool} {w : World} (hB : rgB ops = true) (hS : (ops.all fun o => match o.dst with | some t => decide (t < a0.tmps.size) | none => true) = true)
    (h : Inv ops τ d I a0 L a w) {i : Nat} {o : Oper} (ho : ops[i]? = some o) (hL : L i = false) (hr : ∀ e ∈ o.after, Region.binds .any e = true → L e.on = true) : Known ops τ a0 a.eval w i o.op.operands.toList := by
  obtain ⟨hC, f, hf, hI, hτ, _⟩ := h
  have anc : ∀ j, ancB ops 4 j i = true → j ≠ i → L j = true := by
    intro j hj hne
    rw [show (4 : Nat) = 3 + 1 from rfl, ancB, Bool.or_eq_true] at hj
    rcases hj with hj | hj
    · exact absurd (by simpa using hj) hne
    · simp only [ho, Option.map_some, Option.getD_some, Array.any_eq_true] at hj
      obtain ⟨k, hk, hj⟩ := hj
      rw [Bool.and_eq_true] at hj
      exact ancB_shut hC 3 j _ hj.2 (hr _ (Array.getElem_mem hk) hj.1)
  have hdst : ∀ (j : Nat) (p : Oper) (t : Tmp), ops[j]? = some p → p.dst = some t → t < a0.tmps.size := by
    intro j p t hp ht
    have := Array.all_eq_true_iff_forall_mem.1 hS p (Array.mem_of_getElem? hp)
    simpa [ht] using this
  have mem : ∀ t, .tmp t ∈ o.op.operands.toList → ∀ p : Oper, p.dst = some t → clash p o = true := by
    intro t ht p hp
    unfold clash
    rw [hp]
    simp only [Bool.or_eq_true]
    left
    rw [List.contains_iff_mem]
    exact List.mem_filterMap.2 ⟨_, ht, rfl⟩
  have mem' : ∀ t, .tmp t ∈ o.op.operands.toList → ∀ p : Oper, p.dst = some t → clash o p = true := by
    intro t ht p hp
    unfold clash
    rw [hp]
    simp only [Bool.or_eq_true]
    right
    rw [List.contains_iff_mem]
    exact List.mem_filterMap.2 ⟨_, ht, rfl⟩
  -- only what the operation looks at is asked
  have go : ∀ xs : List Operand, (∀ x ∈ xs, x ∈ o.op.operands.toList) → Known ops τ a0 a.eval w i xs := by
    intro xs
    induction xs with
    | nil => intro _; trivial
    | cons x xs ih =>
      intro hx
      have hrest := ih fun y hy => hx y (List.mem_cons_of_mem _ hy)
      cases x with
      | tmp t =>
        have ht := hx (.tmp t) (by simp)
        refine ⟨?_, hrest⟩
        cases hj : writer ops i t with
        | none =>
          show a.tmps.getD t undef = a0.tmps.getD t undef
          refine hf.old t fun j p hLj hp hd => ?_
          have hji : ¬ j < i := fun hlt => by
            have := List.find?_eq_none.1 hj j (List.mem_range.2 hlt)
            simp [hp, hd] at this
          have hne : j ≠ i := fun e => by subst e; rw [hL] at hLj; cases hLj
          -- j comes behind i: then i is listed too
          have hlt : i < j := by omega
          have := ancB_shut hC 4 i j ((rgB_ok hB hp).anc i o hlt ho (mem' t ht p hd)) hLj
          rw [hL] at this; cases this
        | some j =>
          have hj' := List.find?_some hj
          have hji : j < i := List.mem_range.1 (List.mem_of_find?_eq_some hj)
          cases hp : ops[j]? with
          | none => simp [hp] at hj'
          | some p =>
            have hd : p.dst = some t := by simpa [hp] using hj'
            have hLj := anc j ((rgB_ok hB ho).anc j p hji hp (mem t ht p hd)) (by omega)
            have := hf.mine j p t hLj hp hd (hdst j p t hp hd)
            show τ j w (a.tmps.getD t undef)
            rw [this]
            exact (hτ j hLj).2
      | const v => exact ⟨rfl, hrest⟩
      | global v => exact ⟨rfl, hrest⟩
      | func v => exact ⟨rfl, hrest⟩
  exact go _ fun _ h => h
theorem Inv.copy {τ : Nat → World → Value → Prop} {d : Nat} {I : Option Value → World → Prop} {a0 a : Act} {L : Nat → Bool} {w : World} (hB : rgB ops = true) (hS : (ops.all fun o => match o.dst with | some t => decide (t < a0.tmps.size) | none => true) = true)
    (h : Inv ops τ d I a0 L a w) {i : Nat} {o : Oper} (ho : ops[i]? = some o) (hL : L i = false) (hr : ∀ e ∈ o.after, Region.binds .any e = true → L e.on = true) {f : Nat → Value} (hf : Is ops a0 L f a) {t : Tmp} {j : Nat}
    (ha : o.op = .assign (.tmp t)) (hj : writer ops i t = some j) : L j = true ∧ a.eval (.tmp t) = f j := by
  have hC := h.shut
  have hj' := List.find?_some hj
  have hji : j < i := List.mem_range.1 (List.mem_of_find?_eq_some hj)
  cases hp : ops[j]? with
  | none => simp [hp] at hj'
  | some p =>
    have hd : p.dst = some t := by simpa [hp] using hj'
    have hcl : clash p o = true := by
      unfold clash
      rw [hd]
      simp only [Bool.or_eq_true]
      left
      rw [List.contains_iff_mem]
      exact List.mem_filterMap.2 ⟨.tmp t, by rw [ha]; simp [Op.operands], rfl⟩
    have hanc := (rgB_ok hB ho).anc j p hji hp hcl
    have hLj : L j = true := by
      rw [show (4 : Nat) = 3 + 1 from rfl, ancB, Bool.or_eq_true] at hanc
      rcases hanc with h1 | h1
      · exact absurd (by simpa using h1) (Nat.ne_of_lt hji)
      · simp only [ho, Option.map_some, Option.getD_some, Array.any_eq_true] at h1
        obtain ⟨k, hk, h1⟩ := h1
        rw [Bool.and_eq_true] at h1
        exact ancB_shut hC 3 j _ h1.2 (hr _ (Array.getElem_mem hk) h1.1)
    have hdst : t < a0.tmps.size := by
      have := Array.all_eq_true_iff_forall_mem.1 hS p (Array.mem_of_getElem? hp)
      simpa [hd] using this
    exact ⟨hLj, hf.mine j p t hLj hp hd hdst⟩
def open_ (ops : Array Oper) (listed : Array Bool) : Nat := (List.range ops.size).countP fun i => !listed.getD i false
theorem rg_any {Q : Exit → Act → World → Prop} {τ : Nat → World → Value → Prop} {d : Nat} {I : Nat → Option Value → World → Prop} {G : World → World → Prop} {a0 : Act} (hB : rgB ops = true) (hS : (ops.all fun o => match o.dst with | some t => decide (t < a0.tmps.size) | none => true) = true)
    (hG : ∀ i v w w', τ i w v → G w w' → τ i w' v)
    (hstep : ∀ i o, ops[i]? = some o → ∀ k ov ρ w, k < ops.size → I k ov w → (ancB ops 8 i d = true → ov = none) → Known ops τ a0 ρ w i o.op.operands.toList → Good P o ρ w fun v w' => τ i w' v ∧ I (k + 1) (if i = d then some v else ov) w' ∧ G w w')
    (hd : d < ops.size) (hend : ∀ f w' k, k ≤ ops.size → I k (some (f d)) w' → (∀ i, i < ops.size → τ i w' (f i)) → Copies ops (fun j => decide (j < ops.size)) f → Q .normal (putAll ops.toList f 0 a0) w') :
    ∀ (fuel : Nat) (listed : Array Bool) (a : Act) (w : World) (k : Nat), k + fuel = ops.size → listed.size = ops.size → open_ ops listed ≤ fuel → Inv ops τ d (I k) a0 (fun i => listed.getD i false) a w → wpAny P .any ops Q fuel listed a w := by
  have last : ∀ (listed : Array Bool) (a : Act) (w : World) (k : Nat), k ≤ ops.size → listed.size = ops.size → Inv ops τ d (I k) a0 (fun i => listed.getD i false) a w → Region.ready .any ops listed = [] → Q .normal a w := by
    intro listed a w k hk hsz h hr
    have hall : ∀ i, i < ops.size → listed.getD i false = true := by
      intro i
      induction i using Nat.strongRecOn with
      | _ i ih =>
        intro hi
        rcases hb : listed.getD i false with _ | _
        · exfalso
          have hm : i ∈ Region.ready .any ops listed := mem_ready.2 ⟨by
            have : i < listed.size := by omega
            simpa [Array.getD, this] using hb, ops[i], Array.getElem?_eq_getElem hi, fun e he hbn => ih e.on ((rgB_ok hB (Array.getElem?_eq_getElem hi)).back e he hbn) (by
              have := (rgB_ok hB (Array.getElem?_eq_getElem hi)).back e he hbn
              omega)⟩
          rw [hr] at hm
          cases hm
        · rfl
    obtain ⟨_, f, hf, hI, hτ, hcp⟩ := h
    have hI : I k (some (f d)) w := by simpa [hall d hd] using hI
    have e1 : Is ops a0 (fun j => decide (j < ops.size)) f a := ⟨hf.defers, hf.size, fun i o t hi ho hd hl => hf.mine i o t (hall i (Array.getElem?_eq_some_iff.1 ho).1) ho hd hl,
      fun t ht => hf.old t fun i o hi ho => ht i o (by simpa using (Array.getElem?_eq_some_iff.1 ho).1) ho⟩
    have e0 : Is ops a0 (fun j => decide (j < 0)) f a0 := ⟨rfl, rfl, fun _ _ _ h => by simp at h, fun _ _ => rfl⟩
    rw [e1.same (putAll_is hB ops.toList 0 a0 rfl e0)]
    refine hend f w k hk hI (fun i hi => (hτ i (hall i hi)).2) fun i o t j hi ho ha hw => ?_
    have hi' : i < ops.size := by simpa using hi
    obtain ⟨h1, h2⟩ := hcp i o t j (hall i hi') ho ha hw
    exact ⟨by simpa using (hτ j h1).1, h2⟩
  intro fuel
  induction fuel with
  | zero =>
    intro listed a w k hk hsz hc h
    have hr : Region.ready .any ops listed = [] := by
      refine List.eq_nil_iff_forall_not_mem.2 fun i hi => ?_
      obtain ⟨h1, o, ho, _⟩ := mem_ready.1 hi
      have hlt := (Array.getElem?_eq_some_iff.1 ho).1
      have hpos : 0 < open_ ops listed := List.countP_pos_iff.2 ⟨i, List.mem_range.2 hlt, by
        have : i < listed.size := by omega
        simpa [Array.getD, this] using h1⟩
      omega
    exact ⟨hr, last listed a w k (by omega) hsz h hr⟩
  | succ fuel ih =>
    intro listed a w k hk0 hsz hc h
    refine ⟨last listed a w k (by omega) hsz h, fun i hi => ?_⟩
    obtain ⟨h1, o, ho, hr⟩ := mem_ready.1 hi
    have hlt := (Array.getElem?_eq_some_iff.1 ho).1
    have hil : i < listed.size := by omega
    have h1' : listed.getD i false = false := by simpa [Array.getD, hil] using h1
    have hk := h.known hB hS ho h1' hr
    have hcopy : ∀ (f : Nat → Value), Is ops a0 (fun i => listed.getD i false) f a → ∀ t j, o.op = .assign (.tmp t) → writer ops i t = some j → listed.getD j false = true ∧ a.eval (.tmp t) = f j := fun f hf t j ha hw => h.copy hB hS ho h1' hr hf ha hw
    obtain ⟨hC, f, hf, hI, hτ, hcp⟩ := h
    have hg := hstep i o ho k _ a.eval w (by omega) hI (fun e => if_neg (fun hdl => by have := ancB_shut hC 8 i d e hdl; rw [h1'] at this; cases this)) hk
    unfold wpOp
    simp only [ho]
    rw [if_pos (by simp [Region.wanted, (rgB_ok hB ho).guard])]
    refine .inl (Good.wp hg.assign fun v w' ⟨⟨hv, hI', hgw⟩, hva⟩ => ?_)
    have eL : (fun j => (listed.setIfInBounds i true).getD j false) = fun j => if j = i then true else listed.getD j false := by
      funext j
      by_cases e : j = i
      · subst e; simp [hil]
      · simp only [e, if_false]
        exact getD_set_ne false (fun h => e h.symm)
    refine ih _ _ _ (k + 1) (by omega) (by simpa using hsz) ?_ ?_
    · have : open_ ops (listed.setIfInBounds i true) < open_ ops listed := by
        refine countP_lt (fun x _ hx => ?_) ⟨i, List.mem_range.2 hlt, by simpa using h1', ?_⟩
        · have : (listed.setIfInBounds i true).getD x false = if x = i then true else listed.getD x false := congrFun eL x
          rw [this] at hx
          by_cases e : x = i
          · simp [e] at hx
          · simpa [e] using hx
        · have : (listed.setIfInBounds i true).getD i false = if i = i then true else listed.getD i false := congrFun eL i
          rw [this]
          simp
      omega
    · rw [eL]
      refine ⟨fun j p hj hp e he hb => ?_, _, hf.step hB ho h1' v, ?_, fun j hj => ?_, fun j p t q hj hp ha hw => ?_⟩
      · by_cases ej : j = i
        · subst ej
          obtain rfl := Option.some.inj (ho.symm.trans hp)
          have := hr e he hb
          by_cases ee : e.on = j <;> simp [ee, this]
        · simp only [ej, if_false] at hj
          have := hC j p hj hp e he hb
          by_cases ee : e.on = i <;> simp [ee, this]
      · by_cases ed : i = d
        · subst ed
          simpa using hI'
        · simpa [ed, show ¬ d = i from fun h => ed h.symm] using hI'
      · by_cases ej : j = i
        · subst ej
          exact ⟨hlt, by simpa using hv⟩
        · simp only [ej, if_false] at hj ⊢
          exact ⟨(hτ j hj).1, hG j _ _ _ (hτ j hj).2 hgw⟩
      · have hqj : q < j := List.mem_range.1 (List.mem_of_find?_eq_some hw)
        by_cases ej : j = i
        · subst ej
          obtain rfl := Option.some.inj (ho.symm.trans hp)
          obtain ⟨h5, h6⟩ := hcopy f hf t q ha hw
          have hne : q ≠ j := by omega
          exact ⟨by simp only [hne, if_false]; exact h5, by simp only [hne, if_false, if_true]; rw [hva _ ha, h6]⟩
        · simp only [ej, if_false] at hj ⊢
          obtain ⟨h5, h6⟩ := hcp j p t q hj hp ha hw
          have h5' : listed.getD q false = true := h5
          have hne : q ≠ i := fun e => by rw [e, h1'] at h5'; cases h5'
          simp only [hne, if_false]
          exact ⟨h5, h6⟩
theorem ancB_self (ops : Array Oper) : ∀ (n i : Nat), ancB ops n i i = true
  | 0, i => by simp [ancB]
  | n + 1, i => by simp [ancB]
theorem wp_region_rga {id : Nat} {Q : Exit → Act → World → Prop} {a0 : Act} {w : World} (τ : Nat → World → Value → Prop) (d : Nat) (I : Nat → Option Value → World → Prop) (G : World → World → Prop)
    (hm : P.follows .mixedOrders = true) (hB : rgB ops = true) (hS : (ops.all fun o => match o.dst with | some t => decide (t < a0.tmps.size) | none => true) = true) (h0 : I 0 none w.drew)
    (hG : ∀ i v w w', τ i w v → G w w' → τ i w' v)
    (hstep : ∀ i o, ops[i]? = some o → ∀ k ov ρ w, k < ops.size → I k ov w → (ancB ops 8 i d = true → ov = none) → Known ops τ a0 ρ w i o.op.operands.toList → Good P o ρ w fun v w' => τ i w' v ∧ I (k + 1) (if i = d then some v else ov) w' ∧ G w w')
    (hd : d < ops.size) (hend : ∀ f w' k, k ≤ ops.size → I k (some (f d)) w' → (∀ i, i < ops.size → τ i w' (f i)) → Copies ops (fun j => decide (j < ops.size)) f → Q .normal (putAll ops.toList f 0 a0) w') : (Code.region id ops true).wp P Q a0 w := by
  refine wp_region_any hm (rg_any hB hS hG hstep hd hend ops.size (Array.replicate ops.size false) a0 _ 0 (by omega) (by simp) ?_ ?_)
  · unfold open_
    exact Nat.le_trans List.countP_le_length (by simp)
  · have e : (fun i => (Array.replicate ops.size false).getD i false) = fun _ => false := by
      funext i
      by_cases h : i < ops.size <;> simp [Array.getD, h]
    rw [e]
    exact ⟨(fun j o hj => (by cases hj)), ⟨fun _ => undef, Is.start a0 _, h0, (fun i hi => (by cases hi)), (fun i o t j hi => (by cases hi))⟩⟩
end
end Go.Proofs.Ytdgminjbgjbamaa
namespace Go.Proofs.Ytdgminjbgjbamaa
open Go.RowKit
def Rd (w : World) (R P : Nat) : Prop :=
  ∃ (A : Option Addr) (c p : Nat) (bs : List Int), w.heap[R]? = some (.cells #[.slice A bs.length c, .int .i64 p] 103 (0, 0)) ∧ p ≤ P ∧ bs.length ≤ 2000 ∧ bs.length ≤ c ∧ c ≤ maxLen ∧
    (0 < bs.length → ∃ b o, A = some ⟨b, o, none⟩ ∧ b < R ∧ ∀ (i : Nat) (x : Int), bs[i]? = some x → w.cell? ⟨b, o + i, none⟩ = some (.int .u8 x) ∧ 0 ≤ x ∧ x ≤ 255)
theorem Rd.lt {w : World} {R P : Nat} (h : Rd w R P) : R < w.heap.size := by
  obtain ⟨A, c, p, bs, hh, _⟩ := h
  rcases Nat.lt_or_ge R w.heap.size with hl | hl
  · exact hl
  · rw [Array.getElem?_eq_none hl] at hh; cases hh
theorem Rd.more {w : World} {R P Q : Nat} (h : Rd w R P) (hq : P ≤ Q) : Rd w R Q := by
  obtain ⟨A, c, p, bs, hh, hp, hr⟩ := h
  exact ⟨A, c, p, bs, hh, by omega, hr⟩
theorem Rd.keep {w w' : World} {R P : Nat} (h : Rd w R P) (hb : ∀ k, k ≤ R → w'.heap[k]? = w.heap[k]?) : Rd w' R P := by
  obtain ⟨A, c, p, bs, hh, hp, h1, h2, h3, h4⟩ := h
  refine ⟨A, c, p, bs, (hb R (Nat.le_refl _)).trans hh, hp, h1, h2, h3, fun hn => ?_⟩
  obtain ⟨b, o, hA, hbR, hc⟩ := h4 hn
  exact ⟨b, o, hA, hbR, fun i x hx => ⟨(World.cell?_of_block (hb b (by omega))).trans (hc i x hx).1, (hc i x hx).2⟩⟩
theorem Rd.below {w w' : World} {R P B : Nat} (h : Rd w R P) (hb : Below B w w') (hR : R < B) : Rd w' R P := h.keep fun k hk => hb.block k (by omega)
theorem Rd.grown {w w' : World} {R P : Nat} {row : Option Nat} (h : Rd w R P) (hb : w.grownBy w' row) (hR : ∀ k, row = some k → R < k) : Rd w' R P :=
  h.keep fun k hk => hb.block k (by have := h.lt; omega) (fun e => by have := hR k e.symm; omega)
theorem Rd.alloc {w : World} {R P : Nat} (h : Rd w R P) (o : Obj) : Rd (w.alloc o) R P := h.grown (World.grownBy_alloc w o none) (by simp)
theorem Rd.drewN {w : World} {R P : Nat} (h : Rd w R P) (n : Nat) : Rd (w.drewN n) R P := h
theorem Rd.drew1 {w : World} {R P : Nat} (h : Rd w R P) : Rd w.drew R P := h
theorem grownBy_drewN {a b : World} {r : Option Nat} (h : a.grownBy b r) (n : Nat) : a.grownBy (b.drewN n) r :=
  ⟨h.os, h.tape, h.output, h.size, h.block⟩
theorem Rd.stored {w : World} {R P c p : Nat} {A : Option Addr} {bs : List Int} (hh : w.heap[R]? = some (.cells #[.slice A bs.length c, .int .i64 p] 103 (0, 0))) (hp : p ≤ P) (h1 : bs.length ≤ 2000) (h2 : bs.length ≤ c) (h3 : c ≤ maxLen)
    (h4 : 0 < bs.length → ∃ b o, A = some ⟨b, o, none⟩ ∧ b < R ∧ ∀ (i : Nat) (x : Int), bs[i]? = some x → w.cell? ⟨b, o + i, none⟩ = some (.int .u8 x) ∧ 0 ≤ x ∧ x ≤ 255) :
    Rd (w.setCell ⟨R, 1, none⟩ (.int .i64 ((p : Int) + 1))) R (P + 1) ∧ w.grownBy (w.setCell ⟨R, 1, none⟩ (.int .i64 ((p : Int) + 1))) (some R) := by
  refine ⟨⟨A, c, p + 1, bs, ?_, by omega, h1, h2, h3, fun hn => ?_⟩, ⟨rfl, rfl, rfl, by simp [World.setCell], fun k _ hk => heap_setCell_other w ⟨R, 1, none⟩ k _ (fun e => hk (by simp [e]))⟩⟩
  · rw [heap_setCell_same w R 1 _ _ _ hh]
    simp
  · obtain ⟨b, o, hA, hb, hc⟩ := h4 hn
    exact ⟨b, o, hA, hb, fun i x hx => ⟨(World.cell?_setCell_other w ⟨R, 1, none⟩ ⟨b, o + i, none⟩ _ (fun e => by have := congrArg Addr.block e; simp at this; omega)).trans (hc i x hx).1, (hc i x hx).2⟩⟩
theorem pick_res (S n : Int) (h0 : 0 ≤ S) (h1 : S < 1000000000) (hn : 1 ≤ n) : 0 ≤ (bits BinOp.xor IntKind.i64 S (S / 64)).tmod n ∧ (bits BinOp.xor IntKind.i64 S (S / 64)).tmod n < n := by
  have h2 : 0 ≤ S / 64 ∧ S / 64 ≤ S := by omega
  rw [i64_xor S (S / 64) h0 (by omega) h2.1 (by omega), Int.tmod_eq_emod_of_nonneg (by omega)]
  exact ⟨Int.emod_nonneg _ (by omega), Int.emod_lt_of_pos _ (by omega)⟩
def Picked (n : Int) (R P : Nat) (w : World) (e : Ending) (w' : World) : Prop :=
  ∃ x : Int, 0 ≤ x ∧ x < n ∧ e = .returned (.int .i64 x) ∧ Rd w' R (P + 1) ∧ w.grownBy w' (some R)
theorem pick_any (n : Int) (R P : Nat) (w : World) (h : Rd w R P) (hP : P ≤ 1000000) (h1 : 1 ≤ n) (h2 : n ≤ 1000000) :
    Calls Try.prog 33 #[.pointer (some ⟨R, 0, none⟩), .int .i64 n] w (Picked n R P w) := by
  obtain ⟨A, c, p, bs, hh, hp, hl, hc, hcm, hrow⟩ := h
  have c0 : w.cell? ⟨R, 0, none⟩ = some (.slice A bs.length c) := by simp [World.cell?, hh]
  have c1 : w.cell? ⟨R, 1, none⟩ = some (.int .i64 p) := by simp [World.cell?, hh]
  have f1 : w.frozen? ⟨R, 1, none⟩ = false := by simp [World.frozen?, hh]
  have H := Lib.hid (Rd.stored hh hp hl hc hcm hrow)
  clear hh
  rcases Nat.eq_zero_or_pos bs.length with hz | hz
  · have d0 : ((bs.length : Int) == 0) = true := by rw [beq_iff_eq]; omega
    clear hrow
    have Hz := Lib.hid hz
    clear hz
    go_enter Try.func33, Try.ntmps33
    go_wp2
    go_ret
    exact ⟨0, by omega, by omega, rfl, H.out⟩
  · have d0 : ((bs.length : Int) == 0) = false := by rw [beq_eq_false_iff_ne]; omega
    obtain ⟨b, o, rfl, hb, hcell⟩ := hrow hz
    by_cases hk : p < bs.length
    · obtain ⟨x, hx⟩ : ∃ x, bs[p]? = some x := ⟨_, List.getElem?_eq_getElem hk⟩
      obtain ⟨hcx, hx0, hx1⟩ := hcell p x hx
      clear hcell hx hrow
      go_enter Try.func33, Try.ntmps33
      go_wp2
      go_ret
      exact ⟨x % n, Int.emod_nonneg _ (by omega), Int.emod_lt_of_pos _ (by omega), rfl, H.out⟩
    · have hm1 : p % bs.length < bs.length := Nat.mod_lt _ hz
      have hm2 : (p * 7 + 3) % bs.length < bs.length := Nat.mod_lt _ hz
      have e1 : (p : Int).tmod (bs.length : Int) = ((p % bs.length : Nat) : Int) := by rw [Int.tmod_eq_emod_of_nonneg (by omega)]; rfl
      have e2 : ((p : Int) * 7 + 3).tmod (bs.length : Int) = (((p * 7 + 3) % bs.length : Nat) : Int) := by rw [Int.tmod_eq_emod_of_nonneg (by omega)]; rfl
      have e3 : (p : Int).tdiv (bs.length : Int) = ((p / bs.length : Nat) : Int) := by rw [Int.tdiv_eq_ediv_of_nonneg (by omega)]; rfl
      have hm3 : p / bs.length ≤ p := Nat.div_le_self _ _
      obtain ⟨x, hx⟩ : ∃ x, bs[p % bs.length]? = some x := ⟨_, List.getElem?_eq_getElem hm1⟩
      obtain ⟨hcx, hx0, hx1⟩ := hcell _ x hx
      obtain ⟨y, hy⟩ : ∃ y, bs[(p * 7 + 3) % bs.length]? = some y := ⟨_, List.getElem?_eq_getElem hm2⟩
      obtain ⟨hcy, hy0, hy1⟩ := hcell _ y hy
      clear hcell hx hy hrow
      generalize p % bs.length = i at *
      generalize (p * 7 + 3) % bs.length = j at *
      generalize p / bs.length = d at *
      have E1 := Lib.hid e1
      have E2 := Lib.hid e2
      have E3 := Lib.hid e3
      clear e1 e2 e3
      have b0 : b ≠ R := by omega
      go_enter Try.func33, Try.ntmps33
      go_wp2
      have g0 : (w.setCell ⟨R, 1, none⟩ (.int .i64 ((p : Int) + 1))).cell? ⟨R, 0, none⟩ = some (.slice (some ⟨b, o, none⟩) bs.length c) := (World.cell?_setCell_other w ⟨R, 1, none⟩ ⟨R, 0, none⟩ _ (by simp)).trans c0
      have gx : (w.setCell ⟨R, 1, none⟩ (.int .i64 ((p : Int) + 1))).cell? ⟨b, o + i, none⟩ = some (.int .u8 x) := (World.cell?_setCell_other w ⟨R, 1, none⟩ ⟨b, o + i, none⟩ _ (by simp [b0])).trans hcx
      have gy : (w.setCell ⟨R, 1, none⟩ (.int .i64 ((p : Int) + 1))).cell? ⟨b, o + j, none⟩ = some (.int .u8 y) := (World.cell?_setCell_other w ⟨R, 1, none⟩ ⟨b, o + j, none⟩ _ (by simp [b0])).trans hcy
      have H := Lib.hid H.out
      generalize w.setCell ⟨R, 1, none⟩ (.int .i64 ((p : Int) + 1)) = w2 at *
      clear c0 c1 f1 hcx hcy
      have x1 : IntKind.i64.wrap ((p : Int) * 7) = p * 7 := IntWalk.i64_in _ (by omega)
      have x2 : IntKind.i64.wrap ((p : Int) * 7 + 3) = p * 7 + 3 := IntWalk.i64_in _ (by omega)
      have x3 : IntKind.i64.wrap (i : Int) = i := IntWalk.i64_in _ (by omega)
      have x4 : IntKind.i64.wrap (j : Int) = j := IntWalk.i64_in _ (by omega)
      have x5 : IntKind.i64.wrap (d : Int) = d := IntWalk.i64_in _ (by omega)
      have x6 : ¬ ((bs.length : Int) = 0) := by omega
      have e1 := E1.out
      have e2 := E2.out
      have e3 := E3.out
      go_quiet (fail)
      clear e1 e2 e3 x1 x2 x3 x4 x5
      go_wp2
      go_ret
      obtain ⟨r1, r2⟩ := pick_res (x * 131 + y * 1117 + ↑p * 29 + ↑d * 53) n (by omega) (by omega) h1
      exact ⟨_, r1, r2, rfl, H.out.1.drewN nq, grownBy_drewN H.out.2 nq⟩
theorem odd_zero (R P : Nat) (w : World) (hw : Rd w R P) :
    Calls Try.prog 80 #[.pointer (some ⟨R, 0, none⟩), .int .i64 0] w
      fun e w' => e = .returned (.bool false) ∧ w = w' := by
  go_enter Try.func80, Try.ntmps80
  go_wp2
  go_ret
  exact ⟨rfl, rfl⟩
def Odd (R P : Nat) (w : World) (e : Ending) (w' : World) : Prop :=
  ∃ x : Bool, e = .returned (.bool x) ∧ Rd w' R (P + 1) ∧ w.grownBy w' (some R)
theorem odd_any (n : Int) (R P : Nat) (w : World) (h : Rd w R P) (hP : P ≤ 1000000) (h1 : 1 ≤ n) (h2 : n ≤ 1000000) :
    Calls Try.prog 80 #[.pointer (some ⟨R, 0, none⟩), .int .i64 n] w (Odd R P w) := by
  have H := Lib.hid h
  clear h
  go_enter Try.func80, Try.ntmps80
  go_wp2_with fail
  refine (pick_any n R P w H.out hP h1 h2).mono ?_
  rintro e w' ⟨x, hx0, hx1, rfl, hr, hg⟩
  go_wp2_with fail
  go_ret
  exact ⟨_, rfl, hr, hg⟩
theorem Rd.made {w : World} {A : Option Addr} {c : Nat} {bs : List Int} (h : Row w 1 (.slice A bs.length c) bs.length (bs.map (Value.int .u8))) (hb : ∀ x ∈ bs, (Lit.int .u8 x).wf = true) (m : Nat) (hm : m ≤ bs.length) (hm2 : m ≤ 2000) :
    Rd (w.alloc (.cells #[.slice A m c, .int .i64 0] 103)) w.heap.size 0 := by
  obtain ⟨_, A', c', hv, h1, h2, h3⟩ := h
  injection hv with hA _ hc
  subst hA hc
  refine ⟨A, c, 0, bs.take m, ?_, Nat.le_refl _, by simp; omega, by simp; omega, h2, fun hn => ?_⟩
  · rw [List.length_take, Nat.min_eq_left hm]
    exact heap_alloc_new w _
  · obtain ⟨b, o, hA, hbl, hcell⟩ := h3 (by simp at hn; omega)
    refine ⟨b, o, hA, hbl, fun i x hx => ?_⟩
    obtain ⟨hi, hx'⟩ := List.getElem?_eq_some_iff.1 hx
    simp at hi hx'
    have hi2 : i < bs.length := by omega
    have hw := hb x (hx' ▸ List.getElem_mem hi2)
    refine ⟨((World.cell?_alloc_lt w _ ⟨b, o + i, none⟩ hbl).trans (hcell i _ (by simp [hi2, hx']))), ?_⟩
    have := Go.bounds_u8 hw
    omega
theorem open_any (v : Value) (bs : List Int) (w : World) (h : Row w 1 v bs.length (bs.map (Value.int .u8))) (hb : ∀ x ∈ bs, (Lit.int .u8 x).wf = true) (hl : bs.length ≤ 1048576) :
    Calls Try.prog 31 #[v] w
      fun e w' => e = .returned (.pointer (some ⟨w.heap.size, 0, none⟩)) ∧ Rd w' w.heap.size 0 ∧ Below w.heap.size w w' := by
  obtain ⟨A, c, hv, hc, hcm⟩ := h.shape
  subst hv
  go_enter Try.func31, Try.ntmps31
  go_wp2_with fail
  · go_ret
    exact ⟨rfl, Rd.made h hb 2000 (by omega) (by omega), (Below.refl _ _).alloc (Nat.le_refl _) _⟩
  · go_ret
    exact ⟨rfl, Rd.made h hb bs.length (by omega) (by omega), (Below.refl _ _).alloc (Nat.le_refl _) _⟩
theorem lit_cell2 (w w' : World) (a b : Int) (t : TypeId) {R : Nat} (hg : (w.alloc (.cells #[.int .i64 a, .int .i64 b] t)).grownBy w' (some R)) (hR : R < w.heap.size) (y : Int) (h0 : 0 ≤ y) (h1 : y < 2) :
    ∃ v : Int, (v = a ∨ v = b) ∧ 0 ≤ y ∧ w'.cell? ⟨w.heap.size, y.toNat, none⟩ = some (.int .i64 v) := by
  have hc := fun i => cell_of_row (w.alloc (.cells #[.int .i64 a, .int .i64 b] t)) w.heap.size i _ t (0, 0) (heap_alloc_new w _)
  have key : ∀ v, (w.alloc (.cells #[.int .i64 a, .int .i64 b] t)).cell? ⟨w.heap.size, y.toNat, none⟩ = some v → w'.cell? ⟨w.heap.size, y.toNat, none⟩ = some v :=
    fun v hv => World.grownBy.cell hg (a := ⟨w.heap.size, y.toNat, none⟩) hv (by simp; omega)
  obtain h | h : y.toNat = 0 ∨ y.toNat = 1 := by omega
  · exact ⟨a, .inl rfl, h0, key _ (by rw [h, hc]; rfl)⟩
  · exact ⟨b, .inr rfl, h0, key _ (by rw [h, hc]; rfl)⟩
end Go.Proofs.Ytdgminjbgjbamaa
namespace Go.Proofs.Ytdgminjbgjbamaa
open Go.RowKit
abbrev Ty := World → Value → Prop
def TEq (c : Value) : Ty := fun _ v => v = c
def TInt (lo hi : Int) : Ty := fun _ v => ∃ x, v = .int .i64 x ∧ lo ≤ x ∧ x ≤ hi
def TBool : Ty := fun _ v => ∃ x, v = .bool x
def TLit (E : Nat → Prop) (n : Nat) (G : Value → Prop) : Ty := fun w v => ∃ g, v = .slice (some ⟨g, 0, none⟩) n n ∧ ¬ E g ∧ g < w.heap.size ∧ ∀ i, i < n → ∃ x, w.cell? ⟨g, i, none⟩ = some x ∧ G x
def TPtr (E : Nat → Prop) (G : Value → Prop) : Ty := fun w v => ∃ g i x, v = .pointer (some ⟨g, i, none⟩) ∧ ¬ E g ∧ g < w.heap.size ∧ w.cell? ⟨g, i, none⟩ = some x ∧ G x
def TOf (G : Value → Prop) : Ty := fun _ v => G v
def TAny : Ty := fun _ _ => True
def GInt (lo hi : Int) (v : Value) : Prop := ∃ x, v = .int .i64 x ∧ lo ≤ x ∧ x ≤ hi
def Stb (E : Nat → Prop) (T : Ty) : Prop := ∀ v w w', T w v → Only E w w' → T w' v
section
variable (E : Nat → Prop)
theorem stb_eq (c : Value) : Stb E (TEq c) := fun _ _ _ h _ => h
theorem stb_int (lo hi : Int) : Stb E (TInt lo hi) := fun _ _ _ h _ => h
theorem stb_of (G : Value → Prop) : Stb E (TOf G) := fun _ _ _ h _ => h
theorem stb_any : Stb E TAny := fun _ _ _ _ _ => trivial
variable {E} in
theorem cell_on {w w' : World} {g i : Nat} {u : Value} (hg : Only E w w') (hn : ¬ E g) (hl : g < w.heap.size) (h : w.cell? ⟨g, i, none⟩ = some u) : w'.cell? ⟨g, i, none⟩ = some u :=
  (World.cell?_of_block (a := ⟨g, i, none⟩) (hg.block g hl hn)).trans h
theorem stb_lit (n : Nat) (G : Value → Prop) : Stb E (TLit E n G) := by
  rintro v w w' ⟨g, hv, hn, hl, hc⟩ hg
  refine ⟨g, hv, hn, Nat.lt_of_lt_of_le hl hg.size, fun i hi => ?_⟩
  obtain ⟨x, hx, hb⟩ := hc i hi
  exact ⟨x, cell_on hg hn hl hx, hb⟩
theorem stb_ptr (G : Value → Prop) : Stb E (TPtr E G) := by
  rintro v w w' ⟨g, i, x, hv, hn, hl, hc, hb⟩ hg
  exact ⟨g, i, x, hv, hn, Nat.lt_of_lt_of_le hl hg.size, cell_on hg hn hl hc, hb⟩
end
def tys (l : List Ty) (i : Nat) : Ty := l.getD (l.length - 1 - i) (TEq undef)
theorem tys_stb {E : Nat → Prop} {l : List Ty} (h : ∀ T ∈ l, Stb E T) (i : Nat) : Stb E (tys l i) := by
  unfold tys
  rw [List.getD_eq_getElem?_getD]
  cases hi : l[l.length - 1 - i]? with
  | none => exact stb_eq E undef
  | some T => exact h T (List.mem_of_getElem? hi)
theorem tys_old (T : Ty) (l : List Ty) {j : Nat} (h : j < l.length) : tys (T :: l) j = tys l j := by
  unfold tys
  rw [List.length_cons, show l.length + 1 - 1 - j = (l.length - 1 - j) + 1 from by omega]
  rfl
theorem tys_new (T : Ty) (l : List Ty) : tys (T :: l) l.length = T := by
  unfold tys
  rw [List.length_cons, show l.length + 1 - 1 - l.length = 0 from by omega]
  rfl
def RdO (rd : Option (Nat × Nat)) (k : Nat) (w : World) : Prop := match rd with | none => True | some (R, P) => Rd w R (P + 40 * k)
structure RS where
  P : Program
  ops : Array Oper
  E : Nat → Prop
  F : Nat → Prop
  rd : Option (Nat × Nat)
  w0 : World
  J : Option Value → World → Prop
  d : Nat
  a0 : Act
def RS.I (S : RS) (k : Nat) (ov : Option Value) (w : World) : Prop := RdO S.rd k w ∧ Only S.E S.w0 w ∧ S.J ov w
structure RS.Ok (S : RS) : Prop where
  sub : ∀ g, S.F g → S.E g
  keep : ∀ ov w w', S.J ov w → Only S.F w w' → S.J ov w'
  reader : ∀ R P, S.rd = some (R, P) → S.F R ∧ R < S.w0.heap.size
  low : ∀ g, S.E g → g < S.w0.heap.size
def RSeq (S : RS) (Fin : List Ty → Prop) : List Oper → Nat → List Ty → Prop
  | [], _, τs => Fin τs
  | o :: l, i, τs => (∀ T ∈ τs, Stb S.E T) → ∃ T : Ty, Stb S.E T ∧ (∀ k ov ρ w, k < S.ops.size → S.I k ov w → (ancB S.ops 8 i S.d = true → ov = none) → Known S.ops (tys τs) S.a0 ρ w i o.op.operands.toList → Good S.P o ρ w fun v w' => T w' v ∧ S.I (k + 1) (if i = S.d then some v else ov) w' ∧ Only S.E w w') ∧ RSeq S Fin l (i + 1) (T :: τs)
theorem Good.mono {P : Program} {o : Oper} {ρ : Operand → Value} {w : World} {R R' : Value → World → Prop} (h : Good P o ρ w R) (hR : ∀ v w', R v w' → R' v w') : Good P o ρ w R' := by
  unfold Good at h ⊢
  generalize (execOp ρ o).run P w = r at h ⊢
  match r, h with
  | .ok (.value v) w', h => exact hR v w' h
  | .ok .skip w', h => exact hR _ w' h
  | .ok (.enter f args) w', h =>
    refine Calls.mono h fun e w'' he => ?_
    match e, he with
    | .returned v, he => exact hR v w'' he
theorem known_mono {ops : Array Oper} {τ τ' : Nat → World → Value → Prop} {a0 : Act} {ρ : Operand → Value} {w : World} {i : Nat} (h : ∀ j w v, j < i → τ j w v → τ' j w v) : ∀ xs : List Operand, Known ops τ a0 ρ w i xs → Known ops τ' a0 ρ w i xs
  | [], _ => trivial
  | .tmp t :: xs, ⟨h1, h2⟩ => by
    refine ⟨?_, known_mono h xs h2⟩
    cases hw : writer ops i t with
    | none => rw [hw] at h1; exact h1
    | some j =>
      rw [hw] at h1
      have hj : j < i := by
        have := List.mem_of_find?_eq_some hw
        exact List.mem_range.1 this
      exact h j w _ hj h1
  | .const v :: xs, ⟨h1, h2⟩ => ⟨h1, known_mono h xs h2⟩
  | .global v :: xs, ⟨h1, h2⟩ => ⟨h1, known_mono h xs h2⟩
  | .func v :: xs, ⟨h1, h2⟩ => ⟨h1, known_mono h xs h2⟩
theorem rseq_types {S : RS} {Fin : List Ty → Prop} : ∀ (l : List Oper) (τs : List Ty), S.ops.toList.drop τs.length = l → τs.length + l.length = S.ops.size → (∀ T ∈ τs, Stb S.E T) → RSeq S Fin l τs.length τs →
    ∃ τ : List Ty, (∀ j, j < τs.length → tys τ j = tys τs j) ∧ (∀ T ∈ τ, Stb S.E T) ∧ Fin τ ∧ ∀ i o, τs.length ≤ i → S.ops[i]? = some o → ∀ k ov ρ w, k < S.ops.size → S.I k ov w → (ancB S.ops 8 i S.d = true → ov = none) → Known S.ops (tys τ) S.a0 ρ w i o.op.operands.toList → Good S.P o ρ w fun v w' => tys τ i w' v ∧ S.I (k + 1) (if i = S.d then some v else ov) w' ∧ Only S.E w w'
  | [], τs, _, hlen, hst, h => by
    simp at hlen
    refine ⟨τs, fun _ _ => rfl, hst, h, fun i o hi ho => ?_⟩
    have := (Array.getElem?_eq_some_iff.1 ho).1
    omega
  | o :: l, τs, hl, hlen, hst, h => by
    obtain ⟨T, hT, hg, hr⟩ := h hst
    have hst' : ∀ T' ∈ T :: τs, Stb S.E T' := by
      intro T' hT'
      rcases List.mem_cons.1 hT' with h1 | h1
      · rw [h1]; exact hT
      · exact hst T' h1
    have hdrop : S.ops.toList.drop (T :: τs).length = l := by
      rw [List.length_cons, ← List.drop_drop, hl]; rfl
    obtain ⟨τ, h2, h3, h4, h5⟩ := rseq_types l (T :: τs) hdrop (by simp at hlen ⊢; omega) hst' (by rw [List.length_cons]; exact hr)
    rw [List.length_cons] at h2 h5
    have hget : ∀ j, j < τs.length → tys τ j = tys τs j := fun j hj => (h2 j (by omega)).trans (tys_old T τs hj)
    have hgetT : tys τ τs.length = T := (h2 _ (by omega)).trans (tys_new T τs)
    refine ⟨τ, hget, h3, h4, fun i o' hi ho => ?_⟩
    rcases Nat.lt_or_ge τs.length i with hlt | hge
    · exact h5 i o' hlt ho
    · obtain rfl : i = τs.length := by omega
      have : o' = o := by
        have e : S.ops.toList[τs.length]? = some o := by
          have := congrArg (fun l => l[0]?) hl
          simpa using this
        rw [Array.getElem?_toList] at e
        exact Option.some.inj (ho.symm.trans e)
      subst this
      intro k ov ρ w hk hI hd hK
      rw [hgetT]
      exact hg k ov ρ w hk hI hd (known_mono (fun j w v hj h => by rw [← hget j hj]; exact h) _ hK)
theorem wp_region_rs {id : Nat} {Q : Exit → Act → World → Prop} (S : RS) (hO : S.Ok) (hm : S.P.follows .mixedOrders = true) (hB : rgB S.ops = true) (hS : (S.ops.all fun o => match o.dst with | some t => decide (t < S.a0.tmps.size) | none => true) = true) (hd : S.d < S.ops.size)
    (hr : RdO S.rd 0 S.w0) (hJ : S.J none S.w0)
    (h : RSeq S (fun τ => ∀ f w' k, k ≤ S.ops.size → S.I k (some (f S.d)) w' → (∀ i, i < S.ops.size → tys τ i w' (f i)) → Copies S.ops (fun j => decide (j < S.ops.size)) f → Q .normal (putAll S.ops.toList f 0 S.a0) w') S.ops.toList 0 []) : (Code.region id S.ops true).wp S.P Q S.a0 S.w0 := by
  obtain ⟨τ, _, h3, h4, h5⟩ := rseq_types S.ops.toList [] (by simp) (by simp) (by simp) h
  refine wp_region_rga (tys τ) S.d S.I (Only S.E) hm hB hS ⟨?_, Only.drew _ _, hO.keep _ _ _ hJ (Only.drew _ _)⟩ (fun i v w w' ht hg => tys_stb h3 i v w w' ht hg) (fun i o ho => h5 i o (Nat.zero_le _) ho) hd (fun f w' k hk hI ht hc => h4 f w' k hk hI ht hc)
  cases hrd : S.rd with
  | none => trivial
  | some x =>
    rw [hrd] at hr
    exact Rd.drew1 hr
section
variable {S : RS} {Fin : List Ty → Prop} {o : Oper} {l : List Oper} {i : Nat} {τs : List Ty}
theorem rs_plain (hO : S.Ok) (hid : i ≠ S.d ∨ ∀ ov w, S.J ov w) (T : Ty) (hT : Stb S.E T)
    (h : ∀ k ρ w, k < S.ops.size → RdO S.rd k w → Only S.E S.w0 w → Known S.ops (tys τs) S.a0 ρ w i o.op.operands.toList → Good S.P o ρ w fun v w' => T w' v ∧ RdO S.rd (k + 1) w' ∧ Only S.F w w')
    (rest : RSeq S Fin l (i + 1) (T :: τs)) : RSeq S Fin (o :: l) i τs := by
  intro _
  refine ⟨T, hT, fun k ov ρ w hk hI _ hK => ?_, rest⟩
  refine (h k ρ w hk hI.1 hI.2.1 hK).mono fun v w' ⟨h1, h2, h3⟩ => ?_
  refine ⟨h1, ⟨h2, hI.2.1.trans (h3.mono hO.sub), ?_⟩, h3.mono hO.sub⟩
  rcases hid with hid | hid
  · rw [if_neg hid]
    exact hO.keep _ _ _ hI.2.2 h3
  · exact hid _ _
theorem rdO_more {rd : Option (Nat × Nat)} {k : Nat} {w : World} (h : RdO rd k w) : RdO rd (k + 1) w := by
  cases rd with
  | none => trivial
  | some x => exact Rd.more h (by omega)
theorem rs_pure (hO : S.Ok) (hid : i ≠ S.d ∨ ∀ ov w, S.J ov w) (T : Ty) (hT : Stb S.E T)
    (h : ∀ ρ w, Known S.ops (tys τs) S.a0 ρ w i o.op.operands.toList → ∃ v, (execOp ρ o).run S.P w = .ok (.value v) w ∧ T w v)
    (rest : RSeq S Fin l (i + 1) (T :: τs)) : RSeq S Fin (o :: l) i τs := by
  refine rs_plain hO hid T hT (fun k ρ w _ hr _ hK => ?_) rest
  obtain ⟨v, h1, h2⟩ := h ρ w hK
  unfold Good
  rw [h1]
  exact ⟨h2, rdO_more hr, Only.refl _ _⟩
theorem rs_old (hO : S.Ok) (hid : i ≠ S.d ∨ ∀ ov w, S.J ov w) (x : Operand) (ho : o.op = .move x ∨ o.op = .assign x) (c : Value) (hx : S.a0.eval x = c) (hw : (match x with | .tmp t => writer S.ops i t | _ => none) = none)
    (rest : RSeq S Fin l (i + 1) (TEq c :: τs)) : RSeq S Fin (o :: l) i τs := by
  refine rs_pure hO hid _ (stb_eq _ _) (fun ρ w hK => ⟨ρ x, ?_, ?_⟩) rest
  · rcases ho with ho | ho <;> simp [execOp, ho, go_sem]
  · have he : o.op.operands.toList = [x] := by rcases ho with ho | ho <;> rw [ho] <;> rfl
    rw [he] at hK
    show ρ x = c
    rw [← hx]
    cases x with
    | tmp t =>
      have h1 := hK.1
      rw [show writer S.ops i t = none from hw] at h1
      exact h1
    | const v => exact hK.1
    | global v => exact hK.1
    | func v => exact hK.1
theorem rs_same (hO : S.Ok) (hid : i ≠ S.d ∨ ∀ ov w, S.J ov w) (t j : Nat) (ho : o.op = .move (.tmp t) ∨ o.op = .assign (.tmp t)) (hw : writer S.ops i t = some j) (T : Ty) (hT : tys τs j = T)
    (rest : RSeq S Fin l (i + 1) (T :: τs)) : RSeq S Fin (o :: l) i τs := by
  intro hst
  refine rs_pure hO hid T (hT ▸ tys_stb hst j) (fun ρ w hK => ⟨ρ (.tmp t), ?_, ?_⟩) rest hst
  · rcases ho with ho | ho <;> simp [execOp, ho, go_sem]
  · have he : o.op.operands.toList = [.tmp t] := by rcases ho with ho | ho <;> rw [ho] <;> rfl
    rw [he] at hK
    have h1 := hK.1
    rw [hw] at h1
    rw [← hT]
    exact h1
def FnOk (P' : Program) (f : FuncId) : Prop := ∀ (args : Array Value) (w : World), (callFunc f args).run P' w = .ok (.enter f args) w
theorem rs_pick (hO : S.Ok) (hid : i ≠ S.d ∨ ∀ ov w, S.J ov w) (f : FuncId) (x y : Operand) (at_ : Array TypeId) (R P hi : Nat) (ho : o.op = .call { callee := .value (.func f), args := #[x, y], argTypes := at_ }) (hrd : S.rd = some (R, P)) (hcf : FnOk S.P f)
    (hx : ∀ ρ w, Known S.ops (tys τs) S.a0 ρ w i [.func f, x, y] → ρ (.func f) = .func (.func f) #[] #[] ∧ ρ x = .pointer (some ⟨R, 0, none⟩) ∧ ∃ n : Int, ρ y = .int .i64 n ∧ 1 ≤ n ∧ n ≤ hi + 1)
    (hc : ∀ (n : Int) (k : Nat) (w : World), k < S.ops.size → 1 ≤ n → n ≤ hi + 1 → Rd w R (P + 40 * k) → Calls S.P f #[.pointer (some ⟨R, 0, none⟩), .int .i64 n] w fun e w' => ∃ x : Int, 0 ≤ x ∧ x ≤ hi ∧ e = .returned (.int .i64 x) ∧ Rd w' R (P + 40 * k + 1) ∧ w.grownBy w' (some R))
    (rest : RSeq S Fin l (i + 1) (TInt 0 hi :: τs)) : RSeq S Fin (o :: l) i τs := by
  refine rs_plain hO hid _ (stb_int _ _ _) (fun k ρ w hk hr hon hK => ?_) rest
  rw [ho] at hK
  obtain ⟨h1, h2, n, h3, h3', h4⟩ := hx ρ w hK
  rw [hrd] at hr
  have hrun : (execOp ρ o).run S.P w = .ok (.enter f #[.pointer (some ⟨R, 0, none⟩), .int .i64 n]) w := by
    simp [execOp, ho, h1, h2, h3, go_sem, Result.andThen]
    exact hcf _ _
  unfold Good
  rw [hrun]
  refine (hc n k w hk h3' h4 hr).mono ?_
  rintro e w' ⟨y, h5, h6, rfl, hr', hg⟩
  refine ⟨⟨y, rfl, h5, h6⟩, by rw [hrd]; exact hr'.more (by omega), Only.grown hg fun q hq => ?_⟩
  cases hq
  exact (hO.reader R P hrd).1
theorem rs_call (hO : S.Ok) (hid : i ≠ S.d ∨ ∀ ov w, S.J ov w) (T : Ty) (hT : Stb S.E T) (f : FuncId) (args : Array Operand) (at_ : Array TypeId) (ho : o.op = .call { callee := .value (.func f), args := args, argTypes := at_ })
    (h : ∀ ρ w, Only S.E S.w0 w → Known S.ops (tys τs) S.a0 ρ w i (.func f :: args.toList) → ∃ vs, (execOp ρ o).run S.P w = .ok (.enter f vs) w ∧ Calls S.P f vs w fun e w' => ∃ v, e = .returned v ∧ T w' v ∧ Below w.heap.size w w')
    (rest : RSeq S Fin l (i + 1) (T :: τs)) : RSeq S Fin (o :: l) i τs := by
  refine rs_plain hO hid T hT (fun k ρ w hk hr hon hK => ?_) rest
  have he : o.op.operands.toList = .func f :: args.toList := by rw [ho]; simp [Op.operands, Call.operands]
  rw [he] at hK
  obtain ⟨vs, h1, h2⟩ := h ρ w hon hK
  unfold Good
  rw [h1]
  refine h2.mono ?_
  rintro e w' ⟨v, rfl, h3, h4⟩
  refine ⟨h3, ?_, Only.of_below _ h4⟩
  have hr' := rdO_more hr
  cases hrd : S.rd with
  | none => trivial
  | some x =>
    rw [hrd] at hr'
    exact Rd.below hr' h4 (Rd.lt hr')
theorem rs_build (hO : S.Ok) (hid : i ≠ S.d ∨ ∀ ov w, S.J ov w) (n : Nat) (G : Value → Prop) (e : TypeId)
    (h : ∀ ρ w, Known S.ops (tys τs) S.a0 ρ w i o.op.operands.toList → ∃ cs : Array Value, cs.size = n ∧ (execOp ρ o).run S.P w = .ok (.value (.slice (some ⟨w.heap.size, 0, none⟩) n n)) (w.alloc (.cells cs e)) ∧ ∀ c ∈ cs, G c)
    (rest : RSeq S Fin l (i + 1) (TLit S.E n G :: τs)) : RSeq S Fin (o :: l) i τs := by
  refine rs_plain hO hid _ (stb_lit _ _ _) (fun k ρ w hk hr hon hK => ?_) rest
  obtain ⟨cs, h1, h2, h3⟩ := h ρ w hK
  unfold Good
  rw [h2]
  have hb : Below w.heap.size w (w.alloc (.cells cs e)) := (Below.refl _ _).alloc (Nat.le_refl _) _
  refine ⟨⟨w.heap.size, rfl, fun hE => ?_, by simp, fun j hj => ?_⟩, ?_, Only.of_below _ hb⟩
  · have h4 := hO.low _ hE
    have h5 := hon.size
    omega
  · have hj' : j < cs.size := by omega
    exact ⟨cs[j], by rw [World.cell?_alloc_new]; exact Array.getElem?_eq_getElem hj', h3 _ (Array.getElem_mem hj')⟩
  · have hr' := rdO_more hr
    cases hrd : S.rd with
    | none => trivial
    | some x =>
      rw [hrd] at hr'
      exact Rd.alloc hr' _
def IxOk (P' : Program) (t : TypeId) : Prop := ∀ (w : World) (g n j : Nat), j < n → n ≤ 1000 → (Instr.indexAt t (.slice (some ⟨g, 0, none⟩) n n) (.int .i64 (j : Int))).run P' w = .ok (.pointer (some ⟨g, j, none⟩)) w
theorem rs_index (hO : S.Ok) (hid : i ≠ S.d ∨ ∀ ov w, S.J ov w) (t : TypeId) (x y : Nat) (n : Nat) (G : Value → Prop) (hi : Int) (ho : o.op = .indexAddr t (.tmp x) (.tmp y)) (jx jy : Nat) (hx : writer S.ops i x = some jx) (hy : writer S.ops i y = some jy) (hTx : tys τs jx = TLit S.E n G) (hTy : tys τs jy = TInt 0 hi)
    (hn : n ≤ 1000) (hlt : hi < n) (hix : IxOk S.P t) (rest : RSeq S Fin l (i + 1) (TPtr S.E G :: τs)) : RSeq S Fin (o :: l) i τs := by
  refine rs_pure hO hid _ (stb_ptr _ _) (fun ρ w hK => ?_) rest
  rw [ho] at hK
  have h1 := hK.1
  have h2 := hK.2.1
  rw [hx] at h1
  rw [hy] at h2
  simp only [hTx] at h1
  simp only [hTy] at h2
  obtain ⟨g, hv, hg, hl, hc⟩ := h1
  obtain ⟨j, hj, h0, h1⟩ := h2
  obtain ⟨j', rfl⟩ := Int.eq_ofNat_of_zero_le h0
  obtain ⟨z, hz, hb⟩ := hc j' (by omega)
  refine ⟨.pointer (some ⟨g, j', none⟩), ?_, ⟨g, j', z, rfl, hg, hl, hz, hb⟩⟩
  have : j' < n := by omega
  have hr := hix w g n j' this hn
  simp [execOp, ho, hv, hj, Result.andThen, hr]
theorem rs_load (hO : S.Ok) (hid : i ≠ S.d ∨ ∀ ov w, S.J ov w) (t : TypeId) (x : Nat) (G : Value → Prop) (ho : o.op = .load t (.tmp x)) (jx : Nat) (hx : writer S.ops i x = some jx) (hTx : tys τs jx = TPtr S.E G) (ht : ∀ w, (isAgg t).run S.P w = .ok false w)
    (rest : RSeq S Fin l (i + 1) (TOf G :: τs)) : RSeq S Fin (o :: l) i τs := by
  refine rs_pure hO hid _ (stb_of _ _) (fun ρ w hK => ?_) rest
  rw [ho] at hK
  have h1 := hK.1
  rw [hx] at h1
  simp only [hTx] at h1
  obtain ⟨g, i, z, hv, hn, hl, hc, hG⟩ := h1
  refine ⟨z, ?_, hG⟩
  simp [execOp, ho, hv, go_sem, hc, ht, Result.andThen]
end
end Go.Proofs.Ytdgminjbgjbamaa
namespace Go.Proofs.Ytdgminjbgjbamaa
open Go.RowKit
theorem only_below {w w' : World} (h : Only (fun _ => False) w w') : Below w.heap.size w w' := ⟨h.os, h.tape, h.output, h.size, fun k hk => h.block k hk id⟩
def TBools (xs : List Bool) : Ty := fun w v => BoolsAt w v xs
theorem stb_bools (xs : List Bool) : Stb (fun _ => False) (TBools xs) := fun _ _ _ h ho => Row.below h (only_below ho)
def TInts (xs : List Int) : Ty := fun w v => IntsAt w v xs
def JNo : Option Value → World → Prop := fun _ _ => True
@[reducible] def quietRS (Pg : Program) (ops : Array Oper) (w : World) (a : Act) : RS := { P := Pg, ops := ops, E := fun _ => False, F := fun _ => False, rd := none, w0 := w, J := JNo, d := 0, a0 := a }
theorem quietRS_ok {Pg : Program} {ops : Array Oper} {w : World} {a : Act} : (quietRS Pg ops w a).Ok :=
  ⟨fun _ h => h, fun _ _ _ _ _ => trivial, fun _ _ e => (by cases e), fun _ e => e.elim⟩
theorem quiet_any {Pg : Program} {ops : Array Oper} {w : World} {a : Act} {i : Nat} : i ≠ (quietRS Pg ops w a).d ∨ ∀ ov w', (quietRS Pg ops w a).J ov w' := .inr fun _ _ => trivial
section
variable {S : RS} {Fin : List Ty → Prop} {o : Oper} {l : List Oper} {i : Nat} {τs : List Ty}
theorem rs_look (hO : S.Ok) (hid : i ≠ S.d ∨ ∀ ov w, S.J ov w) (T : Ty) (hT : Stb S.E T)
    (h : ∀ ρ w, Only S.E S.w0 w → Known S.ops (tys τs) S.a0 ρ w i o.op.operands.toList → ∃ v, (execOp ρ o).run S.P w = .ok (.value v) w ∧ T w v)
    (rest : RSeq S Fin l (i + 1) (T :: τs)) : RSeq S Fin (o :: l) i τs := by
  refine rs_plain hO hid T hT (fun k ρ w _ hr ho hK => ?_) rest
  obtain ⟨v, h1, h2⟩ := h ρ w ho hK
  unfold Good
  rw [h1]
  exact ⟨h2, rdO_more hr, Only.refl _ _⟩
theorem rs_alloc (hO : S.Ok) (hid : i ≠ S.d ∨ ∀ ov w, S.J ov w) (T : Ty) (hT : Stb S.E T)
    (h : ∀ ρ w, Only S.E S.w0 w → Known S.ops (tys τs) S.a0 ρ w i o.op.operands.toList → ∃ v c, (execOp ρ o).run S.P w = .ok (.value v) (w.alloc c) ∧ T (w.alloc c) v)
    (rest : RSeq S Fin l (i + 1) (T :: τs)) : RSeq S Fin (o :: l) i τs := by
  refine rs_plain hO hid T hT (fun k ρ w _ hr ho hK => ?_) rest
  obtain ⟨v, c, h1, h2⟩ := h ρ w ho hK
  unfold Good
  rw [h1]
  refine ⟨h2, ?_, Only.of_below _ ((Below.refl _ _).alloc (Nat.le_refl _) c)⟩
  have hr' := rdO_more hr
  cases hrd : S.rd with
  | none => trivial
  | some x =>
    rw [hrd] at hr'
    exact Rd.alloc hr' _
theorem rs_before (hO : S.Ok) (hid : i ≠ S.d) (hanc : ancB S.ops 8 i S.d = true) (T : Ty) (hT : Stb S.E T)
    (h : ∀ k ρ w, RdO S.rd k w → Only S.E S.w0 w → S.J none w → Known S.ops (tys τs) S.a0 ρ w i o.op.operands.toList → Good S.P o ρ w fun v w' => T w' v ∧ RdO S.rd (k + 1) w' ∧ Only S.F w w')
    (rest : RSeq S Fin l (i + 1) (T :: τs)) : RSeq S Fin (o :: l) i τs := by
  intro _
  refine ⟨T, hT, fun k ov ρ w hk hI hov hK => ?_, rest⟩
  obtain rfl := hov hanc
  refine (h k ρ w hI.1 hI.2.1 hI.2.2 hK).mono fun v w' ⟨h1, h2, h3⟩ => ?_
  refine ⟨h1, ⟨h2, hI.2.1.trans (h3.mono hO.sub), ?_⟩, h3.mono hO.sub⟩
  rw [if_neg hid]
  exact hO.keep _ _ _ hI.2.2 h3
end
def JApp (B : Nat) (e : TypeId) (size : Nat) (v : Value) (n : Nat) (cs news : List Value) : Option Value → World → Prop
  | none, w => w.ownsRow B e size v n cs
  | some v', w => w.ownsRow B e size v' (n + 1) (cs ++ news)
@[reducible] def appRS (Pg : Program) (ops : Array Oper) (w : World) (a : Act) (B : Nat) (e : TypeId) (size : Nat) (v : Value) (n : Nat) (cs news : List Value) (d : Nat) : RS :=
  { P := Pg, ops := ops, E := fun g => v.ownBlock = some g, F := fun _ => False, rd := none, w0 := w, J := JApp B e size v n cs news, d := d, a0 := a }
def TNew (E : Nat → Prop) (size m : Nat) (news : List Value) : Ty := fun w v => Row w size v m news ∧ ∃ g c, v = .slice (some ⟨g, 0, none⟩) m c ∧ ¬ E g ∧ g < w.heap.size
theorem stb_new (E : Nat → Prop) (size m : Nat) (news : List Value) : Stb E (TNew E size m news) := by
  rintro v w w' ⟨h, g, c, rfl, hn, hl⟩ ho
  refine ⟨?_, g, c, rfl, hn, Nat.lt_of_lt_of_le hl ho.size⟩
  obtain ⟨h0, A, c', hv, h1, h2, h3⟩ := h
  injection hv with e1 _ e3
  subst e1 e3
  refine ⟨h0, _, c, rfl, h1, h2, fun hp => ?_⟩
  obtain ⟨b, o, hA, hb, hc⟩ := h3 hp
  have hA' := Option.some.inj hA
  injection hA' with e4 e5
  subst e4 e5
  exact ⟨g, 0, rfl, Nat.lt_of_lt_of_le hl ho.size, fun j u hu => (World.cell?_of_block (a := ⟨g, 0 + j, none⟩) (ho.block g hl hn)).trans (hc j u hu)⟩
section
variable {S : RS} {Fin : List Ty → Prop} {o : Oper} {l : List Oper} {i : Nat} {τs : List Ty}
theorem rs_build1 (hO : S.Ok) (hid : i ≠ S.d ∨ ∀ ov w, S.J ov w) (size : Nat) (news : List Value) (e : TypeId) (hs : news.length = size)
    (h : ∀ ρ w, Only S.E S.w0 w → Known S.ops (tys τs) S.a0 ρ w i o.op.operands.toList → (execOp ρ o).run S.P w = .ok (.value (.slice (some ⟨w.heap.size, 0, none⟩) 1 1)) (w.alloc (.cells news.toArray e)))
    (rest : RSeq S Fin l (i + 1) (TNew S.E size 1 news :: τs)) : RSeq S Fin (o :: l) i τs := by
  refine rs_alloc hO hid _ (stb_new _ _ _ _) (fun ρ w hon hK => ?_) rest
  refine ⟨_, _, h ρ w hon hK, Row.of_own (World.ownsRow_lit (base := w.heap.size) (e := e) (size := size) w news.toArray 1 (Nat.le_refl _) (by unfold maxLen; omega) (by simp [hs])), w.heap.size, 1, rfl, fun hE => ?_, by simp⟩
  have h4 := hO.low _ hE
  have h5 := hon.size
  omega
end
end Go.Proofs.Ytdgminjbgjbamaa
namespace Go.Proofs.Ytdgminjbgjbamaa
open Go.RowKit
end Go.Proofs.Ytdgminjbgjbamaa
namespace Go.Proofs.Ytdgminjbgjbamaa
open Go.RowKit
theorem own_of_block {w : World} {base g n : Nat} {e : TypeId} {cs : List Value} (hb : base ≤ g) (hh : w.heap[g]? = some (.cells cs.toArray e (0, 0))) (hl : cs.length = n) (hm : n ≤ maxLen) : w.ownsRow base e 1 (.slice (some ⟨g, 0, none⟩) n n) n cs :=
  ⟨by omega, .inr ⟨g, n, cs.toArray, rfl, hb, hh, Nat.le_refl _, hm, by simp; omega, by rw [List.take_of_length_le]; simp; omega⟩⟩
theorem splice_two {α : Type} (a b : List α) (z : α) (n k : Nat) (hk : k = 1 + a.length) (hn : 1 + a.length + b.length ≤ n) : splice (splice (List.replicate n z) 1 a) k b = z :: (a ++ b) ++ List.replicate (n - (1 + a.length + b.length)) z := by
  subst hk
  obtain ⟨m, rfl⟩ : ∃ m, n = 1 + a.length + b.length + m := ⟨n - (1 + a.length + b.length), by omega⟩
  have e1 : splice (List.replicate (1 + a.length + b.length + m) z) 1 a = (z :: a) ++ List.replicate (b.length + m) z := by
    unfold splice
    rw [List.take_replicate, List.drop_replicate, show min 1 (1 + a.length + b.length + m) = 1 from by omega, show 1 + a.length + b.length + m - (1 + a.length) = b.length + m from by omega]
    rfl
  rw [e1]
  unfold splice
  rw [List.take_append_of_le_length (by simp; omega), List.take_of_length_le (by simp; omega), List.drop_append, List.drop_eq_nil_of_le (by simp; omega), List.nil_append, List.drop_replicate, show b.length + m - (1 + a.length + b.length - (z :: a).length) = m from by simp; omega, show 1 + a.length + b.length + m - (1 + a.length + b.length) = m from by omega]
  simp
theorem lit_append {A B : List Bool} {l : Nat} (h : l / 2 < A.length) : Cir.lit (A ++ B) l = Cir.lit A l := by
  unfold Cir.lit
  rw [List.getD_eq_getElem?_getD, List.getD_eq_getElem?_getD, List.getElem?_append_left h]
structure Stop (p : Prop) : Prop where
  out : p
theorem stop_slice {P : Program} {w : World} {ops : Array Oper} {rest : List Oper} {o : Oper} {a : Act} {Q : Exit → Act → World → Prop} (t : TypeId) (x : Operand) (lo hi mx : Option Operand)
    (ho : o.op = .slice t x lo hi mx) (h : Stop (wpList P ops Q (o :: rest) a w)) : wpList P ops Q (o :: rest) a w := h.out
theorem evaluate_any (g : Nat) (d : Ci) (vs vi : Value) (st inp : List Bool) (w : World) (h : PCirc w g (Cir.toCz d)) (hd : Cir.Ok d) (hs : BoolsAt w vs st) (hi : BoolsAt w vi inp) (h1 : inp.length = d.ins) (h2 : st.length = d.next.length) :
    Calls Try.prog 85 #[.pointer (some ⟨g, 0, none⟩), vs, vi, .int .i64 (-1), .bool false] w (OwnBools (Cir.vals d st inp) w) := by
  have s1 := hd.ins
  have s2 := hd.nexts
  have s3 := hd.gatess
  have HGt := Lib.hid hd.gate
  have hnl : (Cir.toCz d).next.length = d.next.length := List.length_map _
  have hgl : (Cir.toCz d).gates.length = d.gates.length := List.length_map _
  obtain ⟨n, hn⟩ : ∃ n, n = Cir.nvars d := ⟨_, rfl⟩
  have hnd : n = 1 + d.ins + d.next.length + d.gates.length := hn
  have HV := vars_any g _ w h (by show (0 : Int) ≤ (d.ins : Int); omega) (by show (d.ins : Int) ≤ 100; omega) (by omega) (by omega)
  rw [Cir.vars_toCz, ← hn] at HV
  have Hv := Lib.hid HV
  have Hs := Lib.hid hs
  have Hi := Lib.hid hi
  have Hp := Lib.hid h
  obtain ⟨As, cs, hvs, hcs, hcms⟩ := Row.shape hs
  obtain ⟨Ai, ci, hvi, hci, hcmi⟩ := Row.shape hi
  subst hvs hvi
  have hmk := run_make_row' (P := Try.prog) 64 4 (.bool false) 1 Try.underlying64 info_bool rfl .i64 .i64 n (by omega) (by omega)
  obtain ⟨m, hm⟩ : ∃ m, m = n := ⟨_, rfl⟩
  have Hnd : Hid (m = 1 + d.ins + d.next.length + d.gates.length) := Lib.hid (hm.trans hnd)
  have b1 : 1 ≤ n := by omega
  have b2 : n ≤ 22 := by omega
  have b3 : 1 + d.ins ≤ n := by omega
  have b4 : 1 + d.ins + d.next.length ≤ n := by omega
  have Hm := Lib.hid hm
  have HB3 : Hid (1 + d.ins + d.next.length ≤ m) := Lib.hid (by omega)
  rw [h1] at hci Hi ⊢
  rw [h2] at hcs Hs ⊢
  have H1 := Lib.hid h1
  have H2 := Lib.hid h2
  have hww : IntKind.i64.wrap (1 + (d.ins : Int)) = 1 + d.ins := IntWalk.i64_in _ (by omega)
  obtain ⟨vn, vg, vo, hg, c0, c1, c2, c3, r1, r2, r3⟩ := Hp.out
  have C0 : Hid (w.cell? ⟨g, 0, none⟩ = some (.int .i64 d.ins)) := Lib.hid c0
  obtain ⟨Ag, cg, hvg, hcg, hcmg⟩ := Row.shape r2
  rw [hgl] at hvg
  subst hvg
  rw [hgl] at hcg
  have C2 := Lib.hid c2
  have R2 : Hid (Row w 2 (.slice Ag d.gates.length cg) d.gates.length (cubes (Cir.toCz d).gates)) := Lib.hid (by have := r2; unfold CubesAt at this; rwa [hgl] at this)
  have Hgl := Lib.hid hgl
  have SZ : (Try.prog.info? 4).map (·.size) = some 1 := by
    have := info_bool
    cases hi : Try.prog.info? 4 with
    | none => rw [hi] at this; cases this
    | some i => rw [hi] at this; simp at this; simp [this]
  clear r1 r2 r3 c0 c1 c2 c3
  clear HV h hs hi hnl hgl hn hnd h1 h2 hm hd
  go_enter Try.func85, Try.ntmps85
  go_wp2_with fail
  refine Hv.out.mono ?_
  rintro e w1 ⟨rfl, hb1⟩
  have hZ : Hid ((w1.alloc (.cells (madeCells #[Value.bool false] n) 4)).heap[w1.heap.size]? = some (.cells (bools (List.replicate m false)).toArray 4 (0, 0))) := Lib.hid (by
    rw [heap_alloc_new, made_one, Hm.out]
    simp [bools])
  have B1 : Hid (Below w.heap.size w (w1.alloc (.cells (madeCells #[Value.bool false] n) 4))) := Lib.hid (hb1.alloc hb1.size _)
  have hz1 := hb1.size
  have c0 : (w1.alloc (.cells (madeCells #[Value.bool false] n) 4)).cell? ⟨g, 0, none⟩ = some (.int .i64 d.ins) := (B1.out.cell (p := ⟨g, 0, none⟩) hg).trans C0.out
  generalize hW2 : w1.alloc (.cells (madeCells #[Value.bool false] n) 4) = W2 at *
  clear hb1 Hv
  go_wp2_with (refine stop_slice _ _ _ _ _ rfl ?_)
  refine ⟨?_⟩
  clear hmk
  have hcase : (n = 1 ∧ n = 1 + d.ins) ∨ (n ≠ 1 ∧ n = 1 + d.ins) ∨ (n ≠ 1 ∧ n ≠ 1 + d.ins) := by omega
  have hcase2 : ∃ p q : Prop, Hid ((p → n = 1) ∧ (¬ p → n ≠ 1) ∧ (q → n = 1 + d.ins) ∧ (¬ q → n ≠ 1 + d.ins)) ∧ (((n = 1) = True ∧ (n = 1 + d.ins) = True ∧ p ∧ q) ∨ ((n = 1) = False ∧ (n = 1 + d.ins) = True ∧ ¬ p ∧ q) ∨ ((n = 1) = False ∧ (n = 1 + d.ins) = False ∧ ¬ p ∧ ¬ q)) := by
    refine ⟨n = 1, n = 1 + d.ins, Lib.hid ⟨id, id, id, id⟩, ?_⟩
    rcases hcase with ⟨h, h'⟩ | ⟨h, h'⟩ | ⟨h, h'⟩
    · exact .inl ⟨eq_true h, eq_true h', h, h'⟩
    · exact .inr (.inl ⟨eq_false h, eq_true h', h, h'⟩)
    · exact .inr (.inr ⟨eq_false h, eq_false h', h, h'⟩)
  clear hcase
  obtain ⟨pp, qq, HQ, ⟨hq, hq', hp1, hp2⟩ | ⟨hq, hq', hp1, hp2⟩ | ⟨hq, hq', hp1, hp2⟩⟩ := hcase2
  all_goals have HP := Lib.hid (And.intro hp1 hp2)
  all_goals clear hp1 hp2
  all_goals go_wp2_with (first
    | (refine wpList_copy_splice rfl (.tmp 19) (.tmp 20) 64 64 rfl 4 Try.underlying64 SZ _ _ _ _ _ _ rfl rfl w1.heap.size 1 (bools (List.replicate m false)) 4 hZ.out (bools inp) ?_ ?_ ?_ (bools_one _) w.heap.size w B1.out hz1 ?_
       · have hb3 := HB3.out; have hmn := Hm.out; obtain ⟨q1, q2, q3, q4⟩ := HQ.out; obtain ⟨r1, r2⟩ := HP.out; simp only [r1, r2, not_true_eq_false, not_false_eq_true, true_implies, false_implies] at q1 q2 q3 q4; rw [bools_length, H1.out]; show d.ins = min _ _; omega
       · intro hp
         have hb3 := HB3.out
         have hmn := Hm.out
         obtain ⟨q1, q2, q3, q4⟩ := HQ.out
         obtain ⟨r1, r2⟩ := HP.out
         simp only [r1, r2, not_true_eq_false, not_false_eq_true, true_implies, false_implies] at q1 q2 q3 q4
         rw [bools_length, H1.out] at hp
         first
           | (exfalso; omega)
           | (refine ⟨by first | rfl | exact if_neg q2, ?_⟩
              obtain ⟨b, o, c', hv, _, _, _, hcell⟩ := Row.open (Row.below Hi.out B1.out) (by rw [H1.out]; exact hp)
              injection hv with hv1 hv2 hv3
              refine ⟨⟨b, o, none⟩, hv1, fun j u hu => ?_⟩
              rw [Go.WideShapes.add_plain]
              exact hcell j u hu)
       · rw [bools_length, bools_length, H1.out, List.length_replicate, Hnd.out]; omega
       intro w5 HG5 hB5; have HB5 := Lib.hid hB5; have c5 := (hB5.cell (p := ⟨g, 0, none⟩) hg).trans C0.out; clear hB5 c0)
    | (refine wpList_copy_splice rfl (.tmp 28) (.tmp 29) 64 64 rfl 4 Try.underlying64 SZ _ _ _ _ _ _ rfl rfl w1.heap.size (1 + d.ins) (splice (bools (List.replicate m false)) 1 (bools inp)) 4 HG5.out (bools st) ?_ ?_ ?_ (bools_one _) w.heap.size w HB5.out hz1 ?_
       · have hb3 := HB3.out; have hmn := Hm.out; obtain ⟨q1, q2, q3, q4⟩ := HQ.out; obtain ⟨r1, r2⟩ := HP.out; simp only [r1, r2, not_true_eq_false, not_false_eq_true, true_implies, false_implies] at q1 q2 q3 q4; rw [bools_length, H2.out]; show d.next.length = min _ _; omega
       · intro hp
         have hb3 := HB3.out
         have hmn := Hm.out
         obtain ⟨q1, q2, q3, q4⟩ := HQ.out
         obtain ⟨r1, r2⟩ := HP.out
         simp only [r1, r2, not_true_eq_false, not_false_eq_true, true_implies, false_implies] at q1 q2 q3 q4
         rw [bools_length, H2.out] at hp
         first
           | (exfalso; omega)
           | (refine ⟨by first | rfl | exact if_neg q4, ?_⟩
              obtain ⟨b, o, c', hv, _, _, _, hcell⟩ := Row.open (Row.below Hs.out HB5.out) (by rw [H2.out]; exact hp)
              injection hv with hv1 hv2 hv3
              refine ⟨⟨b, o, none⟩, hv1, fun j u hu => ?_⟩
              rw [Go.WideShapes.add_plain]
              exact hcell j u hu)
       · rw [length_splice _ _ _ (by rw [bools_length, bools_length, H1.out, List.length_replicate, Hnd.out]; omega), bools_length, bools_length, H2.out, List.length_replicate, Hnd.out]; omega
       intro w6 HG6 hB6; have HB6 := Lib.hid hB6; have c6 := (hB6.cell (p := ⟨g, 2, none⟩) hg).trans C2.out; clear hB6 c5 HB5 HG5))
  all_goals
    have hmm := Hm.out
    subst hmm
    have hm22 := b2
    have hnf : Cir.nfirst d ≤ 8 := by unfold Cir.nfirst; omega
    have Hnf : Hid (m = Cir.nfirst d + d.gates.length) := Lib.hid (by rw [Hnd.out]; unfold Cir.nfirst; omega)
    have HE : Hid (∀ k, k ≤ d.gates.length → (Cir.evalG (d.gates.take k) (false :: (inp ++ st))).length = Cir.nfirst d + k) := Lib.hid fun k hk => by
      rw [Cir.evalG_length]
      simp [Cir.nfirst, H1.out, H2.out]
      omega
    have Ho0 : Hid (w6.ownsRow w.heap.size 4 1 (.slice (some ⟨w1.heap.size, 0, none⟩) m m) m (bools (Cir.evalG (d.gates.take 0) (false :: (inp ++ st)) ++ List.replicate (d.gates.length - 0) false))) := Lib.hid (by
      have e0 : Cir.evalG (d.gates.take 0) (false :: (inp ++ st)) = false :: (inp ++ st) := rfl
      have hb3 := HB3.out
      have hnd := Hnd.out
      have h1 := H1.out
      have h2 := H2.out
      have e1 : bools (List.replicate m false) = List.replicate m (Value.bool false) := by simp [bools]
      have e2 : splice (splice (bools (List.replicate m false)) 1 (bools inp)) (1 + d.ins) (bools st) = bools (false :: (inp ++ st) ++ List.replicate (d.gates.length - 0) false) := by
        rw [e1, splice_two (bools inp) (bools st) (.bool false) m (1 + d.ins) (by rw [bools_length, h1]) (by rw [bools_length, bools_length, h1, h2]; omega), bools_length, bools_length, h1, h2, show m - (1 + d.ins + d.next.length) = d.gates.length - 0 by omega]
        simp [bools]
      rw [e0, ← e2]
      refine own_of_block hz1 HG6.out ?_ (by unfold maxLen; omega)
      rw [e2, bools_length]
      simp [h1, h2]
      omega)
    have HV : Hid (Cir.evalG (d.gates.take d.gates.length) (false :: (inp ++ st)) = Cir.vals d st inp) := Lib.hid (by rw [List.take_length]; rfl)
    have HPf : Hid (∀ w', Below w.heap.size w w' → Calls Try.prog 61 #[.pointer (some ⟨g, 0, none⟩)] w' fun e w'' => e = .returned (.int .i64 (Cir.nfirst d : Nat)) ∧ Below w'.heap.size w' w'') := Lib.hid fun w' hb => by
      have := firstGate_any g _ w' (Hp.out.below hb) (by show (0 : Int) ≤ (d.ins : Int); omega) (by show (d.ins : Int) ≤ 100; omega) (by show (List.map _ _).length ≤ 100; rw [List.length_map]; omega)
      rwa [Cir.first_toCz] at this
    generalize Cir.vals d st inp = res at *
    generalize Cir.nfirst d = nf at *
    generalize hI0 : (false :: (inp ++ st)) = I0 at *
    clear hq hq' HQ HP c6 C0 C2 hww HB3 Hnd Hm hZ HG6 H1 H2 B1 Hs Hi Hp
    go_loopw [42] (fun i wr => ∃ k : Nat, k ≤ d.gates.length ∧ i = .int .i64 k ∧ Hid (wr.ownsRow w.heap.size 4 1 (.slice (some ⟨w1.heap.size, 0, none⟩) m m) m (bools (Cir.evalG (d.gates.take k) I0 ++ List.replicate (d.gates.length - k) false))) ∧ Below w.heap.size w wr) (fun i _ => d.gates.length - (intOf i).toNat)
    case atStart => exact ⟨0, Nat.zero_le _, rfl, Ho0, HB6.out⟩
    case round =>
      obtain ⟨k, hk, rfl, Ho, hb⟩ := hrel
      clear Ho0 HB6
      by_cases hlt : k < d.gates.length
      · obtain ⟨b, o, x, rfl, hbl, hx, hs1, hs2⟩ := cubes_open R2.out hb Hgl.out.symm (i := k) (by rw [Hgl.out]; exact hlt)
        obtain ⟨gt, hgt⟩ := at_some hlt
        have hxe : x = ((gt.1 : Int), (gt.2 : Int)) := by
          have h1 := hx.out
          unfold Cir.toCz at h1
          simp only [List.getElem?_map, hgt] at h1
          exact (Option.some.inj h1).symm
        subst hxe
        obtain ⟨g1, g2⟩ := HGt.out k gt hgt
        have hEk := HE.out k (by omega)
        have HS := Lib.hid (Cir.evalG_take_snoc hgt I0)
        have hgv : Cir.gval (Cir.evalG (d.gates.take k) I0) gt = (Cir.lit (Cir.evalG (d.gates.take k) I0) gt.1 && Cir.lit (Cir.evalG (d.gates.take k) I0) gt.2) := rfl
        rw [hgv] at HS
        clear hgv hx hgt
        obtain ⟨E2, hE2⟩ : ∃ E2, Cir.evalG (d.gates.take (k + 1)) I0 = E2 := ⟨_, rfl⟩
        rw [hE2] at HS
        have HE2 := Lib.hid hE2
        clear hE2
        generalize Cir.evalG (d.gates.take k) I0 = E at *
        have Hb := Lib.hid hb
        have hz := hb.size
        have hlen : (E ++ List.replicate (d.gates.length - k) false).length = m := by
          have := Hnf.out
          simp [hEk]
          omega
        have HL := Lib.hid hlen
        have hmnf := Hnf.out
        have hkm : nf + k < m := by omega
        have HSet : ∀ u : Bool, Hid ((bools (E ++ List.replicate (d.gates.length - k) false)).set (nf + k) (.bool u) = bools (E ++ [u] ++ List.replicate (d.gates.length - (k + 1)) false)) := fun u => Lib.hid (by
          unfold bools
          rw [← List.map_set, set_mid_at _ _ _ _ _ hEk.symm (by omega), show d.gates.length - k - 1 = d.gates.length - (k + 1) from by omega])
        have HA1 := Lib.hid (lit_append (B := List.replicate (d.gates.length - k) false) (show gt.1 / 2 < E.length by omega))
        have HA2 := Lib.hid (lit_append (B := List.replicate (d.gates.length - k) false) (show gt.2 / 2 < E.length by omega))
        obtain ⟨G1, hG1⟩ : ∃ G1, G1 = gt.1 := ⟨_, rfl⟩
        obtain ⟨G2, hG2⟩ : ∃ G2, G2 = gt.2 := ⟨_, rfl⟩
        rw [← hG1] at g1 HS hs1 HA1
        rw [← hG2] at g2 HS hs2 HA2
        have hwk : IntKind.i64.wrap ((nf : Int) + (k : Int)) = (nf : Int) + (k : Int) := IntWalk.i64_in _ (by omega)
        have hn1 : ((nf : Int) + (k : Int) != -1) = true := by simp; omega
        have hix : ((nf : Int) + (k : Int)).toNat = nf + k := by omega
        clear hb hG1 hG2 hEk hlen hmnf
        go_wp2_with fail
        refine (HPf.out _ (Hb.out.alloc hz _)).mono ?_
        rintro e w9 ⟨rfl, hb9⟩
        have Hb9 := Lib.hid ((Hb.out.alloc hz _).trans (hb9.mono (by simp; omega)))
        have Ho9 := Lib.hid (own_below (Ho.out.alloc _) hb9)
        have q0 := (hb9.cell (p := ⟨wr.heap.size, 0, none⟩) (by simp)).trans (World.cell?_alloc_new _ _ _ 0)
        have q1 := (hb9.cell (p := ⟨wr.heap.size, 1, none⟩) (by simp)).trans (World.cell?_alloc_new _ _ _ 1)
        simp at q0 q1
        obtain ⟨u0, _, hd0, hf0⟩ := own_slot Ho9.out (j := nf + k) (by omega)
        have Hst := fun u => Lib.hid (Ho9.out.stored (nf + k) (.bool u))
        have HBA : Hid (BoolsAt w9 (.slice (some ⟨w1.heap.size, 0, none⟩) m m) (E ++ List.replicate (d.gates.length - k) false)) := Lib.hid (ownBools_at (b := w.heap.size) (by rw [HL.out]; exact Ho9.out))
        clear hb9
        go_wp2_with fail
        refine (litValue_any _ _ G1 _ HBA.out (by rw [HL.out]; omega) (by omega)).mono ?_
        rintro e w' ⟨rfl, rfl⟩
        rw [HA1.out]
        cases hv1 : Cir.lit E G1
        · have HEe : Hid (bools (E2 ++ List.replicate (d.gates.length - (k + 1)) false) = bools (E ++ [false] ++ List.replicate (d.gates.length - (k + 1)) false)) := Lib.hid (by rw [HS.out, hv1]; rfl)
          clear hv1 HS
          go_wp2_with fail
          go_roundw
          case rel => exact ⟨k + 1, by omega, by go_num, Lib.hid (by rw [HE2.out, HEe.out, ← (HSet false).out]; exact (Hst false).out.1), Hb9.out.grown (Hst false).out.2 Hb9.out.size (fun q hq => by have := Option.some.inj hq; omega)⟩
          case measure => simp [intOf] <;> omega
        · have HEe : Hid (bools (E2 ++ List.replicate (d.gates.length - (k + 1)) false) = bools (E ++ [Cir.lit E G2] ++ List.replicate (d.gates.length - (k + 1)) false)) := Lib.hid (by rw [HS.out, hv1, Bool.true_and])
          clear hv1 HS
          go_wp2_with fail
          refine (litValue_any _ _ G2 _ HBA.out (by rw [HL.out]; omega) (by omega)).mono ?_
          rintro e w' ⟨rfl, rfl⟩
          rw [HA2.out]
          generalize Cir.lit E G2 = u at *
          go_wp2_with fail
          go_roundw
          case rel => exact ⟨k + 1, by omega, by go_num, Lib.hid (by rw [HE2.out, HEe.out, ← (HSet u).out]; exact (Hst u).out.1), Hb9.out.grown (Hst u).out.2 Hb9.out.size (fun q hq => by have := Option.some.inj hq; omega)⟩
          case measure => simp [intOf] <;> omega
      · obtain rfl : k = d.gates.length := by omega
        have HR : Hid (res.length = m ∧ bools (Cir.evalG (d.gates.take d.gates.length) I0 ++ List.replicate (d.gates.length - d.gates.length) false) = bools res) := Lib.hid ⟨by rw [← HV.out, HE.out _ (Nat.le_refl _), Hnf.out], by rw [HV.out, Nat.sub_self]; simp⟩
        go_wp2_with fail
        go_ret
        exact ⟨_, rfl, by rw [HR.out.1, ← HR.out.2]; exact Ho.out, hb⟩
end Go.Proofs.Ytdgminjbgjbamaa
namespace Go.Proofs.Ytdgminjbgjbamaa
open Go.RowKit
theorem tdiv_two (l : Nat) : (l : Int).tdiv 2 = ((l / 2 : Nat) : Int) := by rw [Int.tdiv_eq_ediv_of_nonneg (by omega)]; omega
theorem bools_set (V : List Bool) (i : Nat) (b : Bool) : (bools V).set i (.bool b) = bools (V.set i b) := by
  unfold bools
  rw [List.map_set]
theorem rootMark_snoc {n : Nat} {ls : List Nat} {k l : Nat} (h : ls[k]? = some l) : Cir.rootMark n (ls.take (k + 1)) = (Cir.rootMark n (ls.take k)).set (l / 2) true := by
  unfold Cir.rootMark
  rw [List.take_add_one, h, List.foldl_append]
  rfl
theorem reached_any (g : Nat) (d : Ci) (w : World) (h : PCirc w g (Cir.toCz d)) (hd : Cir.Ok d) :
    Calls Try.prog 90 #[.pointer (some ⟨g, 0, none⟩)] w (OwnBools (Cir.reached d) w) := by
  have s1 := hd.ins
  have s2 := hd.nexts
  have s3 := hd.gatess
  have s4 := hd.outss
  have HGt := Lib.hid hd.gate
  have hnl : (Cir.toCz d).next.length = d.next.length := List.length_map _
  have hgl : (Cir.toCz d).gates.length = d.gates.length := List.length_map _
  have hol : (Cir.toCz d).outs.length = d.outs.length := List.length_map _
  obtain ⟨n, hn⟩ : ∃ n, n = Cir.nvars d := ⟨_, rfl⟩
  have hnd : n = 1 + d.ins + d.next.length + d.gates.length := hn
  have HLt : Hid (∀ l ∈ d.next ++ d.outs, l < 2 * n) := Lib.hid fun l hl => by
    rw [hn]
    rcases List.mem_append.1 hl with h | h
    · exact hd.next l h
    · exact hd.out l h
  have HV := vars_any g _ w h (by show (0 : Int) ≤ (d.ins : Int); omega) (by show (d.ins : Int) ≤ 100; omega) (by omega) (by omega)
  rw [Cir.vars_toCz, ← hn] at HV
  have Hv := Lib.hid HV
  have Hp := Lib.hid h
  have hroots : (Cir.toCz d).next ++ (Cir.toCz d).outs = (d.next ++ d.outs).map Int.ofNat := by
    rw [List.map_append]
    rfl
  have HRo : Hid (∀ w', PCirc w' g (Cir.toCz d) → Calls Try.prog 81 #[.pointer (some ⟨g, 0, none⟩)] w' (OwnInts ((d.next ++ d.outs).map Int.ofNat) w')) := Lib.hid fun w' hp => by
    rw [← hroots]
    exact roots_any g _ w' hp (by omega) (by omega)
  have hR0 : Cir.reached d = Cir.reachK (Cir.nfirst d) d.gates d.gates.length (Cir.rootMark n (d.next ++ d.outs)) := by rw [hn]; rfl
  have hRl := Cir.reached_length d
  rw [← hn] at hRl
  have HR0 := Lib.hid hR0
  have HRl := Lib.hid hRl
  generalize Cir.reached d = R at *
  have hLl : (d.next ++ d.outs).length ≤ 6 := by rw [List.length_append]; omega
  generalize d.next ++ d.outs = LS at *
  have hmk := run_make_row' (P := Try.prog) 64 4 (.bool false) 1 Try.underlying64 info_bool rfl .i64 .i64 n (by omega) (by omega)
  obtain ⟨vn, vg, vo, hg, c0, c1, c2, c3, r1, r2, r3⟩ := Hp.out
  obtain ⟨Ag, cg, hvg, hcg, hcmg⟩ := Row.shape r2
  rw [hgl] at hvg
  subst hvg
  rw [hgl] at hcg
  have C2 := Lib.hid c2
  have R2 : Hid (Row w 2 (.slice Ag d.gates.length cg) d.gates.length (cubes (Cir.toCz d).gates)) := Lib.hid (by have := r2; unfold CubesAt at this; rwa [hgl] at this)
  have Hgl := Lib.hid hgl
  have hnf : Cir.nfirst d ≤ 8 := by unfold Cir.nfirst; omega
  have hnn : n = Cir.nfirst d + d.gates.length := by unfold Cir.nfirst; omega
  have HPf : Hid (∀ w', Below w.heap.size w w' → Calls Try.prog 61 #[.pointer (some ⟨g, 0, none⟩)] w' fun e w'' => e = .returned (.int .i64 (Cir.nfirst d : Nat)) ∧ Below w'.heap.size w' w'') := Lib.hid fun w' hb => by
    have := firstGate_any g _ w' (Hp.out.below hb) (by show (0 : Int) ≤ (d.ins : Int); omega) (by show (d.ins : Int) ≤ 100; omega) (by show (List.map _ _).length ≤ 100; rw [List.length_map]; omega)
    rwa [Cir.first_toCz] at this
  generalize Cir.nfirst d = nf at *
  have Hnn := Lib.hid hnn
  have hnu : n ≤ 22 := by omega
  have hn0 : 0 < n := by omega
  have hnk : ∀ k, k < d.gates.length → nf + k < n := fun k hk => by omega
  have Hnk := Lib.hid hnk
  clear r1 r2 r3 c0 c1 c2 c3 HV h hd hroots hR0 hRl hnl hgl hol hn hnd hnn hnk
  go_enter Try.func90, Try.ntmps90
  go_wp2_with fail
  refine Hv.out.mono ?_
  rintro e w1 ⟨rfl, hb1⟩
  have hO0 : (w1.alloc (.cells (madeCells #[Value.bool false] n) 4)).ownsRow w1.heap.size 4 1 (.slice (some ⟨w1.heap.size, 0, none⟩) n n) n (bools (List.replicate n false)) := by
    have h := World.ownsRow_lit (base := w1.heap.size) (e := 4) (size := 1) w1 (madeCells #[Value.bool false] n) n (Nat.le_refl _) (by unfold maxLen; omega) (by simp [madeCells])
    have e : (madeCells #[Value.bool false] n).toList = bools (List.replicate n false) := by simp [madeCells, bools, Nat.mod_one, List.map_const']
    rwa [e] at h
  have hB2 : Below w.heap.size w (w1.alloc (.cells (madeCells #[Value.bool false] n) 4)) := hb1.alloc hb1.size _
  have hz1 := hb1.size
  go_wp2_with fail
  generalize w1.alloc (.cells (madeCells #[Value.bool false] n) 4) = W2 at *
  generalize w1.heap.size = gb at *
  have HO0 := Lib.hid hO0
  have HB2 := Lib.hid hB2
  clear hO0 hB2 hb1 hmk Hv
  refine (HRo.out W2 (Hp.out.below HB2.out)).mono ?_
  rintro e w3 ⟨vr, rfl, hor, hb3⟩
  obtain ⟨Ar, cr, hvr⟩ := slice_of_own hor
  subst hvr
  rw [List.length_map] at hor ⊢
  have Hor := Lib.hid (Row.of_own hor)
  have hrg : ∀ g', (Value.slice Ar LS.length cr).ownBlock = some g' → W2.heap.size ≤ g' := fun g' hg' => (hor.lt g' hg').1
  have Hrg := Lib.hid hrg
  have HOr := Lib.hid hor
  have hgbl : gb < W2.heap.size := by
    obtain ⟨g', c', e', h1, h2, h3, h4⟩ := own_open HO0.out hn0
    injection e' with e1
    injection e1 with e1
    injection e1 with e1
    omega
  have HO3 := Lib.hid (own_below HO0.out hb3)
  have HB3 := Lib.hid (HB2.out.trans (hb3.mono HB2.out.size))
  have hz3 := hb3.size
  clear hor hb3 hrg HRo HO0
  go_wp2_with fail
  go_loopw [13] (fun i wr => ∃ k : Nat, k ≤ LS.length ∧ i = .int .i64 k ∧ Hid (wr.ownsRow gb 4 1 (.slice (some ⟨gb, 0, none⟩) n n) n (bools (Cir.rootMark n (LS.take k)))) ∧ Hid (wr.ownsRow W2.heap.size 3 1 (.slice Ar LS.length cr) LS.length (ints (LS.map Int.ofNat))) ∧ Below w.heap.size w wr) (fun i _ => LS.length - (intOf i).toNat)
  case atStart => exact ⟨0, Nat.zero_le _, rfl, Lib.hid HO3.out, HOr, HB3.out⟩
  case round =>
    obtain ⟨k, hk, rfl, Ho, Hor, hb⟩ := hrel
    clear HO3 HB3 HOr HB2
    by_cases hlt : k < LS.length
    · obtain ⟨l, hl⟩ := at_some hlt
      have hl2 := HLt.out l (List.mem_of_getElem? hl)
      obtain ⟨b, o, x, rfl, hbl, hx, hs⟩ := ints_open (Row.of_own Hor.out) (Below.refl _ _) (by rw [List.length_map]) (i := k) (by rw [List.length_map]; exact hlt)
      have hxe : x = (l : Int) := by
        have h1 := hx.out
        rw [List.getElem?_map, hl] at h1
        exact (Option.some.inj h1).symm
      subst hxe
      have HS := Lib.hid (rootMark_snoc (n := n) hl)
      have hml := Cir.rootMark_length n (LS.take k)
      generalize Cir.rootMark n (LS.take k) = V at *
      have hq := tdiv_two l
      have hq2 : l / 2 < n := by omega
      have HSet := Lib.hid (bools_set V (l / 2) true)
      generalize l / 2 = q at *
      obtain ⟨u0, _, hd0, hf0⟩ := own_slot Ho.out (j := q) (by omega)
      have Hst := Lib.hid (Ho.out.stored q (.bool true))
      have hbz : b ≠ gb := fun e => by
        have := Hrg.out b rfl
        omega
      have HorS := Lib.hid (own_only Hor.out (Only.grown Hst.out.2 (fun k hk => hk)) (fun g' hg' e => by
        have h1 := Hrg.out g' hg'
        have h2 := Option.some.inj e
        omega))
      have Hb := Lib.hid hb
      have hwq : IntKind.i64.wrap (q : Int) = q := IntWalk.i64_in _ (by omega)
      clear hx hl hml hb
      go_wp2_with fail
      go_roundw
      case rel => exact ⟨k + 1, by omega, by go_num, Lib.hid (by rw [HS.out, ← HSet.out]; exact Hst.out.1), HorS, Hb.out.grown Hst.out.2 Hb.out.size (fun q hq => by have := Option.some.inj hq; omega)⟩
      case measure => simp [intOf]; omega
    · obtain rfl : k = LS.length := by omega
      rw [List.take_length] at Ho
      have HR1 := Lib.hid (show Cir.reachK nf d.gates d.gates.length (Cir.rootMark n LS) = R from HR0.out.symm)
      have HV0 := Lib.hid (Cir.rootMark_length n LS)
      generalize Cir.rootMark n LS = V0 at *
      have hb0 := hb.cell (p := ⟨g, 2, none⟩) hg
      have c2 := hb0.trans C2.out
      have Hb := Lib.hid hb
      clear hb hb0 hlt HR0 Hor
      have hwg : IntKind.i64.wrap ((d.gates.length : Int) - 1) = (d.gates.length : Int) - 1 := IntWalk.i64_in _ (by omega)
      go_wp2_with fail
      obtain ⟨W5, hW5⟩ : ∃ W, W = wr := ⟨_, rfl⟩
      subst hW5
      go_loopw [6] (fun i wr => ∃ (k : Nat) (V : List Bool) (j : Int), k ≤ d.gates.length ∧ i = .int .i64 j ∧ j = (k : Int) - 1 ∧ V.length = n ∧ Hid (Cir.reachK nf d.gates k V = R) ∧ Hid (wr.ownsRow gb 4 1 (.slice (some ⟨gb, 0, none⟩) n n) n (bools V)) ∧ Below w.heap.size w wr) (fun i _ => (intOf i + 1).toNat)
      case atStart => exact ⟨d.gates.length, V0, _, Nat.le_refl _, rfl, rfl, HV0.out, HR1, Ho, Hb.out⟩
      case round =>
        obtain ⟨k, V, j, hk, rfl, hj, hVl, HR, Ho, hb⟩ := hrel
        clear HR1 HV0
        cases k with
        | zero =>
          obtain rfl : j = -1 := by omega
          clear hj
          go_wp2_with fail
          go_ret
          have e : V = R := HR.out
          exact ⟨_, rfl, by rw [HRl.out, ← e]; exact own_mono Ho.out hz1, hb⟩
        | succ k =>
          obtain rfl : j = (k : Int) := by omega
          clear hj
          obtain ⟨gt, hgt⟩ := at_some (show k < d.gates.length by omega)
          obtain ⟨g1, g2⟩ := HGt.out k gt hgt
          have hgD : d.gates.getD k (0, 0) = gt := by rw [List.getD_eq_getElem?_getD, hgt, Option.getD_some]
          have hst : Cir.reachK nf d.gates k (Cir.reachStep nf d.gates k V) = R := HR.out
          have hsl := Cir.reachStep_length nf d.gates k V
          have hse : Cir.reachStep nf d.gates k V = if V.getD (nf + k) false then (V.set (gt.1 / 2) true).set (gt.2 / 2) true else V := by unfold Cir.reachStep; rw [hgD]
          have HSt := Lib.hid hst
          have hix : ((nf : Int) + (k : Int)).toNat = nf + k := by omega
          have hwk : IntKind.i64.wrap ((nf : Int) + (k : Int)) = (nf : Int) + (k : Int) := IntWalk.i64_in _ (by omega)
          have hwm : IntKind.i64.wrap ((k : Int) - 1) = (k : Int) - 1 := IntWalk.i64_in _ (by omega)
          have Hb := Lib.hid hb
          have Hgt := Lib.hid hgt
          have hj0 : (0 : Int) ≤ (k : Int) := by omega
          have hjd : decide ((k : Int) ≥ 0) = true := decide_eq_true hj0
          clear hst HR hgD hb hgt
          go_wp2_with fail
          refine (HPf.out _ Hb.out).mono ?_
          rintro e w9 ⟨rfl, hb9⟩
          have Hb9 := Lib.hid (Hb.out.trans (hb9.mono Hb.out.size))
          have Ho9 := Lib.hid (own_below Ho.out hb9)
          have hz9 := Hb9.out.size
          have hnk := Hnk.out k (by omega)
          have hsk : (bools V)[nf + k]? = some (.bool (V.getD (nf + k) false)) := by
            unfold bools
            rw [List.getElem?_map, List.getElem?_eq_getElem (by omega), List.getD_eq_getElem?_getD, List.getElem?_eq_getElem (by omega)]
            rfl
          obtain ⟨u0, hu0, hd0, hf0⟩ := own_slot Ho9.out (j := nf + k) (by omega)
          obtain rfl : u0 = .bool (V.getD (nf + k) false) := Option.some.inj (hu0.symm.trans hsk)
          clear hu0 hb9 hsk Ho
          cases hfl : V.getD (nf + k) false
          · rw [hfl] at hd0 hse
            rw [if_neg (by simp)] at hse
            rw [hse] at HSt
            clear hse hfl hsl
            go_wp2_with fail
            go_roundw
            case rel => exact ⟨k, V, _, by omega, rfl, rfl, hVl, HSt, Ho9, Hb9.out⟩
            case measure => simp [intOf] <;> omega
          · rw [hfl] at hd0 hse
            rw [if_pos rfl] at hse
            clear hfl
            have q0 := (Hb9.out.cell (p := ⟨g, 2, none⟩) hg).trans C2.out
            obtain ⟨b, o, x, rfl, hbl, hx, hs1, hs2⟩ := cubes_open R2.out Hb9.out Hgl.out.symm (i := k) (by rw [Hgl.out]; omega)
            have hxe : x = ((gt.1 : Int), (gt.2 : Int)) := by
              have h1 := hx.out
              unfold Cir.toCz at h1
              simp only [List.getElem?_map, Hgt.out] at h1
              exact (Option.some.inj h1).symm
            subst hxe
            obtain ⟨G1, hG1⟩ : ∃ G1, G1 = gt.1 := ⟨_, rfl⟩
            obtain ⟨G2, hG2⟩ : ∃ G2, G2 = gt.2 := ⟨_, rfl⟩
            rw [← hG1] at g1 hs1 hse
            rw [← hG2] at g2 hs2 hse
            have t1 := tdiv_two G1
            have t2 := tdiv_two G2
            have p1 : G1 / 2 < n := by omega
            have p2 : G2 / 2 < n := by omega
            have HG := Lib.hid (And.intro hG1 hG2)
            clear hG1 hG2
            generalize G1 / 2 = Q1 at *
            generalize G2 / 2 = Q2 at *
            have hwq1 : IntKind.i64.wrap (Q1 : Int) = Q1 := IntWalk.i64_in _ (by omega)
            have hwq2 : IntKind.i64.wrap (Q2 : Int) = Q2 := IntWalk.i64_in _ (by omega)
            obtain ⟨u1, _, hd1, hf1⟩ := own_slot Ho9.out (j := Q1) (by omega)
            have hst1 := Ho9.out.stored Q1 (.bool true)
            rw [bools_set] at hst1
            have hb10 := Hb9.out.grown hst1.2 Hb9.out.size (fun q hq => by have := Option.some.inj hq; omega)
            obtain ⟨W10, hW10⟩ : ∃ W, w9.setCell ⟨gb, Q1, none⟩ (.bool true) = W := ⟨_, rfl⟩
            rw [hW10] at hst1 hb10
            obtain ⟨u2, _, hd2, hf2⟩ := own_slot hst1.1 (j := Q2) (by omega)
            have hst2 := hst1.1.stored Q2 (.bool true)
            rw [bools_set] at hst2
            have q1 := (hb10.cell (p := ⟨g, 2, none⟩) hg).trans C2.out
            obtain ⟨b', o', x', hbe, hbl', hx', hs1', hs2'⟩ := cubes_open R2.out hb10 Hgl.out.symm (i := k) (by rw [Hgl.out]; omega)
            injection hbe with hbe
            injection hbe with hb1 hb2
            subst hb1 hb2
            have hxe' : x' = ((gt.1 : Int), (gt.2 : Int)) := by
              have h1 := hx'.out
              unfold Cir.toCz at h1
              simp only [List.getElem?_map, Hgt.out] at h1
              exact (Option.some.inj h1).symm
            subst hxe'
            rw [← HG.out.2] at hs2'
            have HSt1 := Lib.hid hst2
            have Hb10 := Lib.hid hb10
            have Hse := Lib.hid hse
            have hz10 := hb10.size
            clear hx hx' hs1' hb10 hst1 hst2 hse hbl hbl'
            go_wp2_with fail
            go_roundw
            case rel => exact ⟨k, (V.set Q1 true).set Q2 true, _, by omega, rfl, rfl, by simp [hVl], by rw [Hse.out] at HSt; exact HSt, Lib.hid HSt1.out.1, Hb10.out.grown HSt1.out.2 Hb10.out.size (fun q hq => by have := Option.some.inj hq; omega)⟩
            case measure => simp [intOf] <;> omega
end Go.Proofs.Ytdgminjbgjbamaa