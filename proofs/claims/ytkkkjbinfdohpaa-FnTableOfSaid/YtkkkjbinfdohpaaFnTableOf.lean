/-
  FnTableOf: The table of a drawn literal has the literal's values, its complement's table is the complement, and the diagram counts its ones.
  Conditions: none. For every input that the row reads, the Go function laws.FnTableOf returns true and leaves its arguments as they were.
-/
import Derived.Test.YtkkkjbinfdohpaaS04
import Derived.Test.YtkkkjbinfdohpaaS09
import Derived.Test.YtkkkjbinfdohpaaS07
import Derived.StillTailTactics
import Derived.Test.YtkkkjbinfdohpaaRows
import Derived.WalkKit
import Derived.ProofKit
import Derived.OpenShut
import Derived.ShutString
import Derived.ChangeOld
import Derived.Below
set_option linter.unusedVariables false
set_option linter.unusedSimpArgs false
namespace Go.Proofs.Ytkkkjbinfdohpaa.fnTableOf
open Go.ChangeShapes Go.WideShapes Go.ChangeAt Go.RowKit
open Go.ChangeMaps (open_string shut_string)
set_option linter.unusedVariables false

theorem own : ownKnob Try.prog.godebug = none := by kernel_rfl
theorem laidOut : laidOutB Try.prog = true := by kernel_rfl

/-- A slice of integers that came in: nil, or a row of cells. -/
def IsRow (k : IntKind) (w : World) (a : Option Addr) (len cap : Nat) (zs : List Int) : Prop :=
  (a = none ∧ len = 0 ∧ cap = 0 ∧ zs = []) ∨
  ∃ x, a = some x ∧ len ≤ cap ∧ cap ≤ maxLen ∧ zs.length = cap ∧ (∀ i, i < zs.length → w.cell? (x.add i) = some (.int k (zs.getD i 0))) ∧ ∀ n ∈ zs, (Lit.int k n).wf = true

def TBddX (NS : List Nd) (root : Nat) : Ty := fun w v => BddOk w v NS root
theorem stb_bddX (NS : List Nd) (root : Nat) : Stb (fun _ => False) (TBddX NS root) := fun _ _ _ h ho => BddOk.below h (only_below ho)
set_option maxHeartbeats 8000000 in
set_option maxRecDepth 100000 in
/-- The walk: the Go text returns true. -/
theorem walk (a0 : Option Addr) (len0 cap0 : Nat) (z0 : List Int) (w : World) (w0 : IsRow .u8 w a0 len0 cap0 z0) :
    Calls Try.prog 4 #[.slice a0 len0 cap0] w fun e w' => e = .returned (.bool true) ∧ Below w.heap.size w w' := by
  obtain ⟨bs, rfl, hwf, hr⟩ := Row.given w0
  clear w0
  by_cases hl : bs.length ≤ 1048576
  · have Hr := Lib.hid hr
    clear hr
    go_enter Try.func4, Try.ntmps4
    go_wp2_with fail
    refine (drawTableOf_any _ bs w Hr.out hwf hl).mono ?_
    rintro e w1 ⟨v1, c, l, rfl, hO, hS, hl1, hl2, hb1⟩
    obtain ⟨An, cn, Ag, cg, Ao, co, rfl⟩ := hO.shape
    have HC1 := Lib.hid hO.at
    have Hb1 := Lib.hid hb1
    clear hO hS hb1 Hr hwf
    go_wp2_with fail
    have hbx := bel_new w1 (.cells #[.int .i64 c.ins, .slice An c.next.length cn, .slice Ag c.gates.length cg, .slice Ao c.outs.length co] 26)
    have PC := Lib.hid (PCells.boxed w1 c.ins (.slice An c.next.length cn) (.slice Ag c.gates.length cg) (.slice Ao c.outs.length co) 26)
    have HC := Lib.hid (HC1.out.below hbx)
    have B := Lib.hid (Hb1.out.trans (hbx.mono Hb1.out.size))
    clear hbx
    generalize w1.alloc (.cells #[.int .i64 c.ins, .slice An c.next.length cn, .slice Ag c.gates.length cg, .slice Ao c.outs.length co] 26) = w2 at *
    obtain ⟨gb, hgb2⟩ : ∃ gb, w1.heap.size = gb := ⟨_, rfl⟩
    rw [hgb2] at PC ⊢
    clear hgb2
    obtain ⟨z, p0, p1, p2, p3⟩ := PC.out
    clear HC1 Hb1
    obtain ⟨t, ht⟩ : ∃ t, Cir.tabI c l = t := ⟨_, rfl⟩
    refine (implTable_any _ c l _ HC.out).mono ?_
    rintro e w3 ⟨rfl, hb⟩
    rw [ht]
    clear z p0 p1 p2 p3
    replace PC := Lib.hid (PC.out.below hb)
    replace HC := Lib.hid (HC.out.below hb)
    replace B := Lib.hid (B.out.trans (hb.mono B.out.size))
    clear hb
    obtain ⟨z, p0, p1, p2, p3⟩ := PC.out
    have Ht := Lib.hid ht
    clear ht
    go_wp2_with fail
    refine (specTable_any _ c l _ HC.out).mono ?_
    rintro e w4 ⟨rfl, hb⟩
    rw [Ht.out]
    clear z p0 p1 p2 p3
    replace PC := Lib.hid (PC.out.below hb)
    replace HC := Lib.hid (HC.out.below hb)
    replace B := Lib.hid (B.out.trans (hb.mono B.out.size))
    clear hb
    obtain ⟨z, p0, p1, p2, p3⟩ := PC.out
    have htt : (t != t) = false := by simp
    have HX := Lib.hid (fun w' (h : CircAt w' (.agg #[.int .i64 c.ins, .slice An c.next.length cn, .slice Ag c.gates.length cg, .slice Ao c.outs.length co]) c) => litExists_any _ c l w' h (by omega) (by omega))
    by_cases hc : Cir.valid c = true ∧ c.next = [] ∧ Cir.isLit l (Cir.vars c) = true
    · have hex : (Cir.valid c && Cir.isLit l (Cir.vars c)) = true := by rw [hc.1, hc.2.2]; rfl
      rw [hex] at HX
      obtain ⟨d, m, hcd, hlm, hd, hn, hm, htab⟩ := table_ok hc
      have hv : Cir.valid (Cir.toCz d) = true := by rw [← hcd]; exact hc.1
      have htT : t = ((Cir.tab d m (2 ^ d.ins) : Nat) : Int) := by rw [← Ht.out]; exact htab
      have hci : c.ins = ((d.ins : Nat) : Int) := by rw [hcd]; rfl
      have hcn : c.next.length = 0 := by rw [hc.2.1]; rfl
      have hN := hd.ins
      have hbit : ∀ x, x < 2 ^ d.ins → (Cir.tab d m (2 ^ d.ins)).testBit x = Cir.litA d m x := fun x hx => Cir.tab_lit hn hx
      have hLV : ∀ (x : Nat) (v : Value) w', x ≤ 1000000 → CircAt w' v c → Calls Try.prog 13 #[v, .int .i64 (m : Nat), .int .i64 (x : Nat)] w' fun e w'' => e = .returned (.bool (Cir.litA d m x)) ∧ Below w'.heap.size w' w'' := fun x v w' hx h => litValue_ok v d m x w' (by rw [← hcd]; exact h) hd hv hm hx
      have hTX : ∀ (v : Value) w', CircAt w' v c → Calls Try.prog 8 #[v, .int .i64 ((m ^^^ 1 : Nat) : Int)] w' fun e w'' => e = .returned (.int .i64 (Cir.tab d (m ^^^ 1) (2 ^ d.ins) : Nat)) ∧ Below w'.heap.size w' w'' := fun v w' h => implTable_ok v d (m ^^^ 1) w' (by rw [← hcd]; exact h) hd hv hn (Cir.xor_lt (by decide) hm)
      have hBB : ∀ (v : Value) w', CircAt w' v c → Calls Try.prog 16 #[v, .int .i64 (m : Nat)] w' fun e w'' => ∃ v', e = .returned v' ∧ BddOk w'' v' (Bdd.bld (Cir.litTab d m (2 ^ (d.ins + d.next.length))) (d.ins + d.next.length) (d.ins + d.next.length) 0 two0).2 (Bdd.bld (Cir.litTab d m (2 ^ (d.ins + d.next.length))) (d.ins + d.next.length) (d.ins + d.next.length) 0 two0).1 ∧ Below w'.heap.size w' w'' := fun v w' h => buildBdd_any v d m w' (by rw [← hcd]; exact h) hd hv hm
      have hsum := Cir.tab_xor d m (2 ^ d.ins)
      have hTlt := Cir.tab_lt d m (2 ^ d.ins)
      have hnz : d.ins + d.next.length = d.ins := by rw [hn]; rfl
      have hbd := bdd_lit (m := m) hd hn _ rfl
      rw [hnz] at hBB hbd
      have h2m : m ≤ 1000 := by omega
      subst hlm htT
      rw [hci] at PC HC HX p0
      have HLV := Lib.hid hLV
      have HTX := Lib.hid hTX
      have HBB := Lib.hid hBB
      have HA := Lib.hid hbit
      obtain ⟨k1, k2, k3, k4⟩ := hbd
      have HK1 := Lib.hid k1
      have HK4 := Lib.hid k4
      clear hc hcd hd hn hm htab hv hci hbit hLV hTX hBB Ht hex k1 k4 hnz
      generalize Cir.litA d m = lv at *
      generalize (Bdd.bld (Cir.litTab d m (2 ^ d.ins)) d.ins d.ins 0 two0).1 = root at *
      generalize (Bdd.bld (Cir.litTab d m (2 ^ d.ins)) d.ins d.ins 0 two0).2 = NS at *
      generalize Cir.tab d (m ^^^ 1) (2 ^ d.ins) = TX at *
      generalize Cir.tab d m (2 ^ d.ins) = T at *
      generalize d.ins = N at *
      have h4 : 2 ^ N ≤ 16 := Nat.pow_le_pow_right (show 0 < 2 by decide) hN
      obtain ⟨M, hM⟩ : ∃ M, M = 2 ^ N := ⟨_, rfl⟩
      have e2 : (2 : Int) ^ N = (M : Int) := by rw [hM]; exact two_pow N
      rw [← hM] at h4 HA HK4 hsum hTlt
      have h64 : 2 ^ M ≤ 65536 := Nat.pow_le_pow_right (show 0 < 2 by decide) h4
      have HTl := Lib.hid hTlt
      obtain ⟨P, hP⟩ : ∃ P, P = 2 ^ M := ⟨_, rfl⟩
      have e3 : (2 : Int) ^ M = (P : Int) := by rw [hP]; exact two_pow M
      rw [← hP] at h64 hsum hTlt
      have hwM := IntWalk.i64_in (M : Int) (by omega)
      have hwu : IntKind.u64.wrap (N : Int) = N := by rw [IntKind.wrap_u64]; omega
      have hwuM : IntKind.u64.wrap (M : Int) = M := by rw [IntKind.wrap_u64]; omega
      have hwP := IntWalk.i64_in (P : Int) (by omega)
      have hxor : bits .xor .i64 (m : Int) 1 = ((m ^^^ 1 : Nat) : Int) := i64_xor_nat m 1 (by omega) (by omega)
      have dT : decide ((T : Int) < 0) = false := decide_eq_false (by omega)
      have dTm : ((T : Int) == -1) = false := by rw [beq_eq_false_iff_ne]; omega
      have HMN := Lib.hid hM
      have dn1 : decide (0 < c.next.length) = false := decide_eq_false (by omega)
      have dn2 : decide ((0 : Int) < (c.next.length : Int)) = false := decide_eq_false (by omega)
      have HSum := Lib.hid hsum
      have hTP : T < P := hTlt
      clear hM hP hcn hsum hTlt
      go_wp2_with fail
      refine (HX.out _ HC.out).mono ?_
      rintro e w5 ⟨rfl, hb⟩
      clear z p0 p1 p2 p3 HX
      replace PC := Lib.hid (PC.out.below hb)
      replace HC := Lib.hid (HC.out.below hb)
      replace B := Lib.hid (B.out.trans (hb.mono B.out.size))
      clear hb
      obtain ⟨z, p0, p1, p2, p3⟩ := PC.out
      go_wp2_with fail
      go_loopw [6] (fun i wr => ∃ x : Nat, x ≤ M ∧ i = .int .i64 x ∧ Hid (Below w5.heap.size w5 wr)) (fun i _ => M - (intOf i).toNat)
      case atStart => exact ⟨0, Nat.zero_le _, rfl, Lib.hid (Below.refl _ _)⟩
      case round =>
        clear z p0 p1 p2 p3
        obtain ⟨x, hx, rfl, HBx⟩ := hrel
        obtain ⟨z, p0, p1, p2, p3⟩ := PC.out.below HBx.out
        by_cases hlt : x < M
        · have hs := shr_odd T x
          rw [HA.out x hlt] at hs
          have dx : decide ((x : Int) < (M : Int)) = true := decide_eq_true (by omega)
          have HL := Lib.hid (HLV.out x (.agg #[.int .i64 (N : Nat), .slice An c.next.length cn, .slice Ag c.gates.length cg, .slice Ao c.outs.length co]))
          generalize lv x = bx at *
          have hwx : IntKind.i64.wrap ((x : Int) + 1) = (x : Int) + 1 := IntWalk.i64_in _ (by omega)
          have HCx := Lib.hid (HC.out.below HBx.out)
          go_wp2_with fail
          cases bx
          all_goals
            refine wp_region_rs (quietRS Try.prog _ wr _) quietRS_ok (by kernel_rfl) (by kernel_rfl) (by kernel_rfl) (Nat.le_of_ble_eq_true rfl) trivial trivial ?_
            refine rs_old quietRS_ok quiet_any _ (.inl rfl) _ rfl rfl ?_
            refine rs_old quietRS_ok quiet_any _ (.inl rfl) _ rfl rfl ?_
            apply rs_eq quietRS_ok quiet_any
            · intro ρ w' ho hK
              have ho : Only _ wr w' := ho
              obtain ⟨h0, h1, -⟩ := hK
              have h0' : ρ (.tmp 45) = _ := h0
              have h1' : ρ (.tmp 46) = _ := h1
              go_simp
              try exact rfl
            apply rs_eq quietRS_ok quiet_any
            · intro ρ w' ho hK
              have ho : Only _ wr w' := ho
              obtain ⟨h0, h1, -⟩ := hK
              have h0' : ρ (.tmp 47) = _ := h0
              have h1' : ρ (.const (Value.int IntKind.i64 2)) = (Value.int IntKind.i64 2) := h1
              go_simp
              try exact rfl
            apply rs_eq quietRS_ok quiet_any
            · intro ρ w' ho hK
              have ho : Only _ wr w' := ho
              obtain ⟨h0, h1, -⟩ := hK
              have h0' : ρ (.tmp 48) = _ := h0
              have h1' : ρ (.const (Value.int IntKind.i64 1)) = (Value.int IntKind.i64 1) := h1
              go_simp
              try exact rfl
            apply rs_eq quietRS_ok quiet_any
            · intro ρ w' ho hK
              have ho : Only _ wr w' := ho
              obtain ⟨h0, -⟩ := hK
              have h0' : ρ (.tmp 3) = _ := h0
              have hb := only_below ho
              have q0 := (hb.cell (p := ⟨gb, 0, none⟩) z).trans p0
              have q1 := (hb.cell (p := ⟨gb, 1, none⟩) z).trans p1
              have q2 := (hb.cell (p := ⟨gb, 2, none⟩) z).trans p2
              have q3 := (hb.cell (p := ⟨gb, 3, none⟩) z).trans p3
              go_simp
              try exact rfl
            refine rs_old quietRS_ok quiet_any _ (.inl rfl) _ rfl rfl ?_
            refine rs_old quietRS_ok quiet_any _ (.inl rfl) _ rfl rfl ?_
            refine rs_call quietRS_ok quiet_any (TEq (.bool _)) (stb_eq _ _) 13 _ _ rfl (fun ρ w' ho hK => by
              have ho : Only _ wr w' := ho
              obtain ⟨h0, h1, h2, h3, -⟩ := hK
              have h0' : ρ (.func 13) = .func (.func 13) #[] #[] := h0
              have h1' : ρ (.tmp 50) = _ := h1
              have h2' : ρ (.tmp 51) = _ := h2
              have h3' : ρ (.tmp 52) = _ := h3
              refine ⟨#[ρ (.tmp 50), ρ (.tmp 51), ρ (.tmp 52)], ?_, ?_⟩
              · go_simp
              · rw [h1', h2', h3']
                refine (HL.out w' (by omega) (HCx.out.below (only_below ho))).mono ?_
                rintro e w2 ⟨rfl, hb⟩
                exact ⟨_, rfl, rfl, hb⟩) ?_
            apply rs_eq quietRS_ok quiet_any
            · intro ρ w' ho hK
              have ho : Only _ wr w' := ho
              obtain ⟨h0, h1, -⟩ := hK
              have h0' : ρ (.tmp 49) = _ := h0
              have h1' : ρ (.tmp 53) = _ := h1
              go_simp
              try exact rfl
            intro f w9 k9 hk9 hI9 ht9 hcp9
            have E0 : f 0 = _ := ht9 0 (Nat.le_of_ble_eq_true rfl)
            conv at E0 => rhs; whnf
            have E1 : f 1 = _ := ht9 1 (Nat.le_of_ble_eq_true rfl)
            conv at E1 => rhs; whnf
            have E2 : f 2 = _ := ht9 2 (Nat.le_of_ble_eq_true rfl)
            have E3 : f 3 = _ := ht9 3 (Nat.le_of_ble_eq_true rfl)
            have E4 : f 4 = _ := ht9 4 (Nat.le_of_ble_eq_true rfl)
            have E5 : f 5 = _ := ht9 5 (Nat.le_of_ble_eq_true rfl)
            have E6 : f 6 = _ := ht9 6 (Nat.le_of_ble_eq_true rfl)
            conv at E6 => rhs; whnf
            have E7 : f 7 = _ := ht9 7 (Nat.le_of_ble_eq_true rfl)
            conv at E7 => rhs; whnf
            have E8 : f 8 = _ := ht9 8 (Nat.le_of_ble_eq_true rfl)
            have E9 : f 9 = _ := ht9 9 (Nat.le_of_ble_eq_true rfl)
            have Ho9 : Only _ wr w9 := hI9.2.1
            simp only [putAll, E0, E1, E2, E3, E4, E5, E6, E7, E8, E9, Nat.zero_add, Nat.reduceAdd, Act.put, List.setIfInBounds_toArray, List.set_cons_succ, List.set_cons_zero]
            clear E0 E1 E2 E3 E4 E5 E6 E7 E8 E9
            clear hI9 ht9 hcp9 hk9
            have HB9 := Lib.hid (HBx.out.trans ((only_below Ho9).mono HBx.out.size))
            clear HBx z p0 p1 p2 p3 HL HCx Ho9
            go_wp2_with fail
            go_roundw
            case rel => exact ⟨x + 1, by omega, by go_num, HB9⟩
            case measure => simp [intOf]; omega
        · obtain rfl : x = M := by omega
          have dx : decide ((x : Int) < (x : Int)) = false := decide_eq_false (by omega)
          have hs1 : IntKind.i64.wrap ((P : Int) - 1) = (P : Int) - 1 := IntWalk.i64_in _ (by omega)
          have hs2 : IntKind.i64.wrap ((P : Int) - 1 - (T : Int)) = (TX : Int) := by
            have h := HSum.out
            rw [show (P : Int) - 1 - (T : Int) = (TX : Int) from by omega]
            exact IntWalk.i64_in _ (by omega)
          have HCx := Lib.hid (HC.out.below HBx.out)
          obtain ⟨K, hK⟩ : ∃ K, K = popc x T := ⟨_, rfl⟩
          have HON := Lib.hid (fun w' => ones_any x T w' (by omega) HTl.out)
          have hCB : ∀ (v : Value) w', BddOk w' v NS root → Calls Try.prog 15 #[v, .int .i64 (N : Nat)] w' fun e w'' => e = .returned (.int .i64 (K : Nat)) ∧ Below w'.heap.size w' w'' := fun v w' h => by
            have := countBdd_any v NS root N w' h HK1.out (by omega) k2 k3
            rw [← HMN.out, HK4.out, ← hK] at this
            exact this
          have HCB := Lib.hid hCB
          rw [← hK] at HON
          clear hCB hK
          go_wp2_with fail
          refine wp_region_rsG [(12, some true)] (quietRS Try.prog _ wr _) quietRS_ok (by kernel_rfl) (by kernel_rfl) (by kernel_rfl) (Nat.le_of_ble_eq_true rfl) trivial trivial ?_
          refine rs_peel ?_
          apply rs_eq quietRS_ok quiet_any
          · intro ρ w' ho hK
            have ho : Only _ wr w' := ho
            obtain ⟨h0, -⟩ := hK
            have h0' : ρ (.tmp 3) = _ := h0
            have hb := only_below ho
            have q0 := (hb.cell (p := ⟨gb, 0, none⟩) z).trans p0
            have q1 := (hb.cell (p := ⟨gb, 1, none⟩) z).trans p1
            have q2 := (hb.cell (p := ⟨gb, 2, none⟩) z).trans p2
            have q3 := (hb.cell (p := ⟨gb, 3, none⟩) z).trans p3
            go_simp
            try exact rfl
          refine rs_peel ?_
          refine rs_old quietRS_ok quiet_any _ (.inl rfl) _ rfl rfl ?_
          refine rs_peel ?_
          apply rs_eq quietRS_ok quiet_any
          · intro ρ w' ho hK
            have ho : Only _ wr w' := ho
            obtain ⟨h0, h1, -⟩ := hK
            have h0' : ρ (.tmp 56) = _ := h0
            have h1' : ρ (.const (Value.int IntKind.i64 1)) = (Value.int IntKind.i64 1) := h1
            go_simp
            try exact rfl
          refine rs_peel ?_
          refine rs_call quietRS_ok quiet_any (TEq (.int .i64 (TX : Nat))) (stb_eq _ _) 8 _ _ rfl (fun ρ w' ho hK => by
            have ho : Only _ wr w' := ho
            obtain ⟨h0, h1, h2, -⟩ := hK
            have h0' : ρ (.func 8) = .func (.func 8) #[] #[] := h0
            have h1' : ρ (.tmp 55) = _ := h1
            have h2' : ρ (.tmp 57) = _ := h2
            refine ⟨#[ρ (.tmp 55), ρ (.tmp 57)], ?_, ?_⟩
            · go_simp
            · rw [h1', h2']
              refine (HTX.out _ w' (HCx.out.below (only_below ho))).mono ?_
              rintro e w2 ⟨rfl, hb⟩
              exact ⟨_, rfl, rfl, hb⟩) ?_
          refine rs_peel ?_
          apply rs_eq quietRS_ok quiet_any
          · intro ρ w' ho hK
            have ho : Only _ wr w' := ho
            obtain ⟨h0, -⟩ := hK
            have h0' : ρ (.tmp 3) = _ := h0
            go_simp
            try exact rfl
          refine rs_peel ?_
          apply rs_eq quietRS_ok quiet_any
          · intro ρ w' ho hK
            have ho : Only _ wr w' := ho
            obtain ⟨h0, -⟩ := hK
            have h0' : ρ (.tmp 59) = _ := h0
            have hb := only_below ho
            have q0 := (hb.cell (p := ⟨gb, 0, none⟩) z).trans p0
            have q1 := (hb.cell (p := ⟨gb, 1, none⟩) z).trans p1
            have q2 := (hb.cell (p := ⟨gb, 2, none⟩) z).trans p2
            have q3 := (hb.cell (p := ⟨gb, 3, none⟩) z).trans p3
            go_simp
            try exact rfl
          refine rs_peel ?_
          apply rs_eq quietRS_ok quiet_any
          · intro ρ w' ho hK
            have ho : Only _ wr w' := ho
            obtain ⟨h0, h1, -⟩ := hK
            have h0' : ρ (.const (Value.int IntKind.u64 1)) = (Value.int IntKind.u64 1) := h0
            have h1' : ρ (.tmp 60) = _ := h1
            go_simp
            try exact rfl
          refine rs_peel ?_
          apply rs_eq quietRS_ok quiet_any
          · intro ρ w' ho hK
            have ho : Only _ wr w' := ho
            obtain ⟨h0, h1, -⟩ := hK
            have h0' : ρ (.const (Value.int IntKind.i64 1)) = (Value.int IntKind.i64 1) := h0
            have h1' : ρ (.tmp 61) = _ := h1
            go_simp
            try exact rfl
          refine rs_peel ?_
          apply rs_eq quietRS_ok quiet_any
          · intro ρ w' ho hK
            have ho : Only _ wr w' := ho
            obtain ⟨h0, h1, -⟩ := hK
            have h0' : ρ (.tmp 62) = _ := h0
            have h1' : ρ (.const (Value.int IntKind.i64 1)) = (Value.int IntKind.i64 1) := h1
            go_simp
            try exact rfl
          refine rs_peel ?_
          refine rs_old quietRS_ok quiet_any _ (.inl rfl) _ rfl rfl ?_
          refine rs_peel ?_
          apply rs_eq quietRS_ok quiet_any
          · intro ρ w' ho hK
            have ho : Only _ wr w' := ho
            obtain ⟨h0, h1, -⟩ := hK
            have h0' : ρ (.tmp 63) = _ := h0
            have h1' : ρ (.tmp 64) = _ := h1
            go_simp
            try exact rfl
          refine rs_peel ?_
          apply rs_eq quietRS_ok quiet_any
          · intro ρ w' ho hK
            have ho : Only _ wr w' := ho
            obtain ⟨h0, h1, -⟩ := hK
            have h0' : ρ (.tmp 58) = _ := h0
            have h1' : ρ (.tmp 65) = _ := h1
            go_simp
            try exact rfl
          refine rs_peel ?_
          refine rs_same quietRS_ok quiet_any 66 11 (.inl rfl) rfl _ rfl ?_
          refine rs_run rfl ?_
          apply rs_eq quietRS_ok quiet_any
          · intro ρ w' ho hK
            have ho : Only _ wr w' := ho
            obtain ⟨h0, -⟩ := hK
            have h0' : ρ (.tmp 3) = _ := h0
            have hb := only_below ho
            have q0 := (hb.cell (p := ⟨gb, 0, none⟩) z).trans p0
            have q1 := (hb.cell (p := ⟨gb, 1, none⟩) z).trans p1
            have q2 := (hb.cell (p := ⟨gb, 2, none⟩) z).trans p2
            have q3 := (hb.cell (p := ⟨gb, 3, none⟩) z).trans p3
            go_simp
            try exact rfl
          refine rs_run rfl ?_
          refine rs_old quietRS_ok quiet_any _ (.inl rfl) _ rfl rfl ?_
          refine rs_run rfl ?_
          refine rs_call quietRS_ok quiet_any (TBddX NS root) (stb_bddX _ _) 16 _ _ rfl (fun ρ w' ho hK => by
            have ho : Only _ wr w' := ho
            obtain ⟨h0, h1, h2, -⟩ := hK
            have h0' : ρ (.func 16) = .func (.func 16) #[] #[] := h0
            have h1' : ρ (.tmp 68) = _ := h1
            have h2' : ρ (.tmp 69) = _ := h2
            refine ⟨#[ρ (.tmp 68), ρ (.tmp 69)], ?_, ?_⟩
            · go_simp
            · rw [h1', h2']
              refine (HBB.out _ w' (HCx.out.below (only_below ho))).mono ?_
              rintro e w2 ⟨v2, rfl, hO, hb⟩
              exact ⟨v2, rfl, hO, hb⟩) ?_
          refine rs_run rfl ?_
          apply rs_eq quietRS_ok quiet_any
          · intro ρ w' ho hK
            have ho : Only _ wr w' := ho
            obtain ⟨h0, -⟩ := hK
            have h0' : ρ (.tmp 3) = _ := h0
            go_simp
            try exact rfl
          refine rs_run rfl ?_
          apply rs_eq quietRS_ok quiet_any
          · intro ρ w' ho hK
            have ho : Only _ wr w' := ho
            obtain ⟨h0, -⟩ := hK
            have h0' : ρ (.tmp 71) = _ := h0
            have hb := only_below ho
            have q0 := (hb.cell (p := ⟨gb, 0, none⟩) z).trans p0
            have q1 := (hb.cell (p := ⟨gb, 1, none⟩) z).trans p1
            have q2 := (hb.cell (p := ⟨gb, 2, none⟩) z).trans p2
            have q3 := (hb.cell (p := ⟨gb, 3, none⟩) z).trans p3
            go_simp
            try exact rfl
          refine rs_run rfl ?_
          refine rs_call quietRS_ok quiet_any (TEq (.int .i64 (K : Nat))) (stb_eq _ _) 15 _ _ rfl (fun ρ w' ho hK => by
            have ho : Only _ wr w' := ho
            obtain ⟨h0, h1, h2, -⟩ := hK
            have h0' : ρ (.func 15) = .func (.func 15) #[] #[] := h0
            have h1' : (TBddX NS root) w' (ρ (.tmp 70)) := h1
            have h2' : ρ (.tmp 72) = _ := h2
            refine ⟨#[ρ (.tmp 70), ρ (.tmp 72)], ?_, ?_⟩
            · go_simp
            · rw [h2']
              refine (HCB.out _ w' h1').mono ?_
              rintro e w2 ⟨rfl, hb⟩
              exact ⟨_, rfl, rfl, hb⟩) ?_
          refine rs_run rfl ?_
          refine rs_old quietRS_ok quiet_any _ (.inl rfl) _ rfl rfl ?_
          refine rs_run rfl ?_
          refine rs_call quietRS_ok quiet_any (TEq (.int .i64 (K : Nat))) (stb_eq _ _) 17 _ _ rfl (fun ρ w' ho hK => by
            have ho : Only _ wr w' := ho
            obtain ⟨h0, h1, -⟩ := hK
            have h0' : ρ (.func 17) = .func (.func 17) #[] #[] := h0
            have h1' : ρ (.tmp 74) = _ := h1
            refine ⟨#[ρ (.tmp 74)], ?_, ?_⟩
            · go_simp
            · rw [h1']
              refine (HON.out w').mono ?_
              rintro e w2 ⟨rfl, rfl⟩
              exact ⟨_, rfl, rfl, Below.refl _ _⟩) ?_
          refine rs_run rfl ?_
          apply rs_eq quietRS_ok quiet_any
          · intro ρ w' ho hK
            have ho : Only _ wr w' := ho
            obtain ⟨h0, h1, -⟩ := hK
            have h0' : ρ (.tmp 73) = _ := h0
            have h1' : ρ (.tmp 75) = _ := h1
            go_simp
            try exact rfl
          refine rs_peel ?_
          apply rs_eq quietRS_ok quiet_any
          · intro ρ w' ho hK
            have ho : Only _ wr w' := ho
            obtain ⟨h0, h1, h2, -⟩ := hK
            have h0' : ρ (.tmp 67) = _ := h0
            have h1' : ρ (.tmp 76) = _ := h1
            have h2' : ρ (.const (Value.bool false)) = (Value.bool false) := h2
            go_simp
            try exact rfl
          refine rs_peel ?_
          refine rs_same quietRS_ok quiet_any 77 22 (.inr rfl) rfl _ rfl ?_
          refine ⟨⟨rfl, trivial⟩, ?_⟩
          intro f w9 k9 hk9 hI9 ht9 hcp9
          have E0 : f 0 = _ := ht9 0 (Nat.le_of_ble_eq_true rfl)
          have E1 : f 1 = _ := ht9 1 (Nat.le_of_ble_eq_true rfl)
          conv at E1 => rhs; whnf
          have E2 : f 2 = _ := ht9 2 (Nat.le_of_ble_eq_true rfl)
          have E3 : f 3 = _ := ht9 3 (Nat.le_of_ble_eq_true rfl)
          have E4 : f 4 = _ := ht9 4 (Nat.le_of_ble_eq_true rfl)
          have E5 : f 5 = _ := ht9 5 (Nat.le_of_ble_eq_true rfl)
          have E6 : f 6 = _ := ht9 6 (Nat.le_of_ble_eq_true rfl)
          have E7 : f 7 = _ := ht9 7 (Nat.le_of_ble_eq_true rfl)
          have E8 : f 8 = _ := ht9 8 (Nat.le_of_ble_eq_true rfl)
          have E9 : f 9 = _ := ht9 9 (Nat.le_of_ble_eq_true rfl)
          conv at E9 => rhs; whnf
          have E10 : f 10 = _ := ht9 10 (Nat.le_of_ble_eq_true rfl)
          have E11 : f 11 = _ := ht9 11 (Nat.le_of_ble_eq_true rfl)
          have E12 : f 12 = _ := ht9 12 (Nat.le_of_ble_eq_true rfl)
          have E13 : f 13 = _ := ht9 13 (Nat.le_of_ble_eq_true rfl)
          have E14 : f 14 = _ := ht9 14 (Nat.le_of_ble_eq_true rfl)
          conv at E14 => rhs; whnf
          have E15 : (TBddX NS root) w9 (f 15) := ht9 15 (Nat.le_of_ble_eq_true rfl)
          have E16 : f 16 = _ := ht9 16 (Nat.le_of_ble_eq_true rfl)
          have E17 : f 17 = _ := ht9 17 (Nat.le_of_ble_eq_true rfl)
          have E18 : f 18 = _ := ht9 18 (Nat.le_of_ble_eq_true rfl)
          have E19 : f 19 = _ := ht9 19 (Nat.le_of_ble_eq_true rfl)
          conv at E19 => rhs; whnf
          have E20 : f 20 = _ := ht9 20 (Nat.le_of_ble_eq_true rfl)
          have E21 : f 21 = _ := ht9 21 (Nat.le_of_ble_eq_true rfl)
          have E22 : f 22 = _ := ht9 22 (Nat.le_of_ble_eq_true rfl)
          have E23 : f 23 = _ := ht9 23 (Nat.le_of_ble_eq_true rfl)
          have Ho9 : Only _ wr w9 := hI9.2.1
          simp only [putAll, E0, E1, E2, E3, E4, E5, E6, E7, E8, E9, E10, E11, E12, E13, E14, E16, E17, E18, E19, E20, E21, E22, E23, Nat.zero_add, Nat.reduceAdd, Act.put, List.setIfInBounds_toArray, List.set_cons_succ, List.set_cons_zero]
          clear E0 E1 E2 E3 E4 E5 E6 E7 E8 E9 E10 E11 E12 E13 E14 E16 E17 E18 E19 E20 E21 E22 E23
          clear hI9 ht9 hcp9 hk9
          generalize f 15 = r15 at *
          have B9 := Lib.hid (B.out.trans ((HBx.out.trans ((only_below Ho9).mono HBx.out.size)).mono B.out.size))
          go_wp2_with fail
          go_ret
          exact ⟨rfl, B9.out⟩
    · obtain ⟨h0, h1⟩ := table_no hc
      rw [Ht.out] at h1
      subst h1
      cases hex : (Cir.valid c && Cir.isLit l (Cir.vars c)) with
      | false =>
        rw [hex] at HX
        clear hc h0 hex
        go_wp2_with fail
        refine (HX.out _ HC.out).mono ?_
        rintro e w5 ⟨rfl, hb⟩
        clear z p0 p1 p2 p3 HX
        replace PC := Lib.hid (PC.out.below hb)
        replace HC := Lib.hid (HC.out.below hb)
        replace B := Lib.hid (B.out.trans (hb.mono B.out.size))
        clear hb
        go_wp2_with fail
        refine (alive_any _).mono ?_
        rintro e wb ⟨rfl, hb⟩
        replace B := Lib.hid (B.out.trans (hb.mono B.out.size))
        clear hb
        go_wp2_with fail
        go_ret
        exact ⟨rfl, B.out⟩
      | true =>
        have hpos : 0 < c.next.length := by
          rw [Bool.and_eq_true] at hex
          rcases h0 with h | h | h
          · rw [hex.1] at h; cases h
          · exact h.2
          · rw [hex.2] at h; exact absurd h.2.2 (by simp)
        have dn1 : decide (0 < c.next.length) = true := decide_eq_true hpos
        have dn2 : decide ((0 : Int) < (c.next.length : Int)) = true := decide_eq_true (by omega)
        rw [hex] at HX
        clear hc h0 hex
        go_wp2_with fail
        refine (HX.out _ HC.out).mono ?_
        rintro e w5 ⟨rfl, hb⟩
        clear z p0 p1 p2 p3 HX
        replace PC := Lib.hid (PC.out.below hb)
        replace HC := Lib.hid (HC.out.below hb)
        replace B := Lib.hid (B.out.trans (hb.mono B.out.size))
        clear hb
        obtain ⟨z, p0, p1, p2, p3⟩ := PC.out
        go_wp2_with fail
        refine (alive_any _).mono ?_
        rintro e wb ⟨rfl, hb⟩
        replace B := Lib.hid (B.out.trans (hb.mono B.out.size))
        clear hb
        go_wp2_with fail
        go_ret
        exact ⟨rfl, B.out⟩
  · go_enter Try.func4, Try.ntmps4
    go_wp2_with fail
    go_ret
    exact ⟨rfl, Below.refl _ _⟩

/-! The step from the walk to the row. -/
set_option maxRecDepth 100000 in
theorem lifted (os : Os) (started : os.Started) (H : Type) (enc : TypeId × Value → H) :
    ReturnsInHanded {} Try.checked os 4 .any (Rows.fnTableOfSpec.pre6 enc Try.prog Try.f4 Rows.fnTableOfRow.domain false) (Rows.fnTableOfSpec.post enc Try.prog Try.f4 false true false false) := by
  refine returnsInHanded_of_change (C := Try.checked) own started (by kernel_rfl) Try.func4
    (ChangeSpec.witness6 (enc := enc) (C := Try.checked) false ⟨#[], #[.slice none 0 0], []⟩ 8 (by kernel_rfl) (by kernel_rfl) (by kernel_rfl) (by kernel_rfl)) ?_
  intro W base args ds gs before hval0 hW hcnd _
  have hval : ∀ (j : Nat) t v, Try.f4.params[j]? = some t → args[j]? = some v → Value.okWide Try.prog W .any base t v := hval0
  have hW' := hW
  obtain ⟨p, q, hA0, hV, rfl, hfz, hnd⟩ := hW
  have hA : DataW.TrodAll enc Try.prog W 0 (fun _ => true) true Try.f4.params.toList args.toList ds p := hA0
  rw [Try.params4] at hA hval
  obtain ⟨v0, vs0, d0, ds0, p0, q0, hargs, rfl, rfl, h0, r0⟩ := trodAll_cons hA
  obtain ⟨rfl, rfl, rfl⟩ := trodAll_nil r0
  obtain rfl : args = #[v0] := by cases args; simp_all
  obtain ⟨rfl, rfl⟩ := trodVars_none hV
  obtain ⟨a0, len0, cap0, rfl⟩ := okWide_slice Try.underlying22 (hval 0 22 v0 rfl rfl)
  have k0 := h0
  have lt0 : ∀ x ∈ p0, x.block < W.heap.size := by obtain ⟨m, hm⟩ := k0; exact DataW.trod_lt m _ _ _ hm
  obtain ⟨z0, w0⟩ : ∃ zs, IsRow .u8 W a0 len0 cap0 zs := by
    obtain ⟨fuel, hf⟩ := h0
    rcases open_ints Try.underlying22 Try.underlying5 (by kernel_rfl) hf with ⟨hcs, _⟩ | ⟨x, l, c, zs, hcs, _, hl, hm, hz, _, hcell, hwz⟩
    · simp [Value.cells] at hcs
      obtain ⟨rfl, rfl, rfl⟩ := hcs
      exact ⟨[], .inl ⟨rfl, rfl, rfl, rfl⟩⟩
    · simp [Value.cells] at hcs
      obtain ⟨rfl, rfl, rfl⟩ := hcs
      exact ⟨zs, .inr ⟨_, rfl, hl, hm, by simpa using hz, hcell, hwz⟩⟩
  clear hA0 hval0
  refine (walk a0 len0 cap0 z0 W w0).mono fun e W' ⟨he, bel⟩ => ?_
  subst he
  exact ⟨_, rfl, _, _, _, [], _, [], hW', trodAll_mk1 (shut_bool Try.underlying4 _), (trodAll_cons_mk (Below.trod laidOut (by kernel_rfl) (of_decide_eq_true (by kernel_rfl)) k0 bel lt0) trodAll_mk0), rfl, bel.frame _, fun h => by cases h⟩

theorem over : Rows.fnTableOfRow.holds Try.pinned (OpenSpec.ofChange Rows.fnTableOfSpec) :=
  OpenClaim.holds_of_wide 4 Try.f4 rfl rfl rfl rfl rfl rfl rfl ⟨rfl, rfl, rfl, rfl, rfl⟩ rfl rfl rfl rfl rfl (by kernel_rfl) Try.func4 (by kernel_rfl)
    (of_decide_eq_true (by kernel_rfl)) (by unfold Func.isWrapper; first | (rw [if_pos (by decide +kernel)]; kernel_rfl) | (rw [if_neg (by decide +kernel)]; exact ⟨rfl, rfl⟩))
    (fun os started H enc _ => lifted os started H enc)

/-- The statement. -/
theorem proved : Rows.FnTableOfSaid := over
#print axioms proved
end Go.Proofs.Ytkkkjbinfdohpaa.fnTableOf
