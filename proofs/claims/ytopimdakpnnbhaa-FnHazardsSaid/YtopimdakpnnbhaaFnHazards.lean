/-
  FnHazards: The program's Hazards are the reference's; every hazard's assignments differ in one input, which is 0 in the first one, and the output has the same value for both; no hazard is listed twice.
  Conditions: none. For every input that the row reads, the Go function laws.FnHazards returns true and leaves its arguments as they were.
-/
import Derived.Test.YtopimdakpnnbhaaS04
import Derived.Test.YtopimdakpnnbhaaS11
import Derived.Test.YtopimdakpnnbhaaS06
import Derived.StillTailTactics
import Derived.Test.YtopimdakpnnbhaaRows
import Derived.WalkKit
import Derived.ProofKit
import Derived.OpenShut
import Derived.ShutString
import Derived.ChangeOld
import Derived.Below
set_option linter.unusedVariables false
set_option linter.unusedSimpArgs false
namespace Go.Proofs.Ytopimdakpnnbhaa.fnHazards
open Go.ChangeShapes Go.WideShapes Go.ChangeAt Go.RowKit
open Go.ChangeMaps (open_string shut_string)
set_option linter.unusedVariables false

theorem own : ownKnob Try.prog.godebug = none := by kernel_rfl
theorem laidOut : laidOutB Try.prog = true := by kernel_rfl

/-- A slice of integers that came in: nil, or a row of cells. -/
def IsRow (k : IntKind) (w : World) (a : Option Addr) (len cap : Nat) (zs : List Int) : Prop :=
  (a = none ∧ len = 0 ∧ cap = 0 ∧ zs = []) ∨
  ∃ x, a = some x ∧ len ≤ cap ∧ cap ≤ maxLen ∧ zs.length = cap ∧ (∀ i, i < zs.length → w.cell? (x.add i) = some (.int k (zs.getD i 0))) ∧ ∀ n ∈ zs, (Lit.int k n).wf = true

theorem and_pow_none {x k : Nat} (h : x.testBit k = false) : x &&& 2 ^ k = 0 := by
  apply Nat.eq_of_testBit_eq
  intro i
  rw [Nat.testBit_and, Nat.testBit_two_pow, Nat.zero_testBit]
  by_cases e : k = i
  · subst e; simp [h]
  · simp [e]
set_option maxHeartbeats 8000000 in
set_option maxRecDepth 100000 in
/-- The walk: the Go text returns true. -/
theorem walk (a0 : Option Addr) (len0 cap0 : Nat) (z0 : List Int) (w : World) (w0 : IsRow .u8 w a0 len0 cap0 z0) :
    Calls Try.prog 8 #[.slice a0 len0 cap0] w fun e w' => e = .returned (.bool true) ∧ Below w.heap.size w w' := by
  obtain ⟨bs, rfl, hwf, hr⟩ := Row.given w0
  clear w0
  by_cases hl : bs.length ≤ 1048576
  · have Hr := Lib.hid hr
    clear hr
    go_enter Try.func8, Try.ntmps8
    go_wp2_with fail
    refine (drawHazards_any _ bs w Hr.out hwf hl).mono ?_
    rintro e w1 ⟨v1, c, rfl, hO, hS, hb1⟩
    obtain ⟨An, cn, Ag, cg, Ao, co, rfl⟩ := hO.shape
    have HC1 := Lib.hid hO.at
    have Hb1 := Lib.hid hb1
    clear hO hS hb1 Hr hwf
    go_wp2_with fail
    have hbx := bel_new w1 (.cells #[.int .i64 c.ins, .slice An c.next.length cn, .slice Ag c.gates.length cg, .slice Ao c.outs.length co] 26)
    have PC := Lib.hid (PCells.boxed w1 c.ins (.slice An c.next.length cn) (.slice Ag c.gates.length cg) (.slice Ao c.outs.length co) 26)
    have HC := Lib.hid (HC1.out.below hbx)
    have B := Lib.hid (Hb1.out.trans (hbx.mono Hb1.out.size))
    clear hbx
    generalize w1.alloc (.cells #[.int .i64 c.ins, .slice An c.next.length cn, .slice Ag c.gates.length cg, .slice Ao c.outs.length co] 26) = w2 at *
    obtain ⟨gb, hgb2⟩ : ∃ gb, w1.heap.size = gb := ⟨_, rfl⟩
    rw [hgb2] at PC ⊢
    clear hgb2
    obtain ⟨z, p0, p1, p2, p3⟩ := PC.out
    clear HC1 Hb1
    obtain ⟨L, hL⟩ : ∃ L, Cir.hazI c = L := ⟨_, rfl⟩
    have HLe := Lib.hid hL
    have hLb : L.length ≤ 1536 := by rw [← hL]; exact hazI_len c
    clear hL
    refine (implHaz_any _ c _ HC.out).mono ?_
    rintro e w3 ⟨v3, rfl, hown, hb⟩
    rw [HLe.out] at hown
    have H1 := Lib.hid (show Row w3 3 v3 L.length (trips L) from Row.of_own hown)
    obtain ⟨A3, c3, e3, -, -⟩ := Row.shape H1.out
    subst e3
    clear hown z p0 p1 p2 p3
    replace PC := Lib.hid (PC.out.below hb)
    replace HC := Lib.hid (HC.out.below hb)
    replace B := Lib.hid (B.out.trans (hb.mono B.out.size))
    clear hb
    obtain ⟨z, p0, p1, p2, p3⟩ := PC.out
    go_wp2_with fail
    refine (specHaz_any _ c _ HC.out).mono ?_
    rintro e w4 ⟨v4, rfl, hown, hb⟩
    rw [HLe.out] at hown
    have H2 := Lib.hid (show Row w4 3 v4 L.length (trips L) from Row.of_own hown)
    obtain ⟨A4, c4, e4, -, -⟩ := Row.shape H2.out
    subst e4
    clear hown z p0 p1 p2 p3
    replace PC := Lib.hid (PC.out.below hb)
    replace HC := Lib.hid (HC.out.below hb)
    replace H1 := Lib.hid (Row.below H1.out hb)
    replace B := Lib.hid (B.out.trans (hb.mono B.out.size))
    clear hb
    have hll : ((L.length : Int) != (L.length : Int)) = false := by simp
    go_wp2_with fail
    clear hll
    go_loopw [6] (fun i wr => ∃ k : Nat, i = .int .i64 k ∧ k ≤ L.length ∧ Below w4.heap.size w4 wr) (fun i _ => L.length - (intOf i).toNat)
    case atStart => exact ⟨0, rfl, Nat.zero_le _, Below.refl _ _⟩
    case round =>
      obtain ⟨k, rfl, hk, hb⟩ := hrel
      have Hb := Lib.hid hb
      have zb := hb.size
      clear hb
      by_cases hlt : k < L.length
      · have hdk : decide (k < L.length) = true := decide_eq_true hlt
        obtain ⟨b, o, x, hA3, hbl, hx, hs1, hs2, hs3⟩ := trips_open H1.out Hb.out rfl hlt
        obtain ⟨b2, o2, y, hA4, hbl2, hy, ht1, ht2, ht3⟩ := trips_open H2.out Hb.out rfl hlt
        obtain rfl : x = y := Option.some.inj (hx.out.symm.trans hy.out)
        subst hA3 hA4
        have g1 := gw_cell hs1 (Nat.lt_of_lt_of_le hbl zb)
        have g2 := gw_cell hs2 (Nat.lt_of_lt_of_le hbl zb)
        have g3 := gw_cell hs3 (Nat.lt_of_lt_of_le hbl zb)
        have g4 := gw_cell ht1 (Nat.lt_of_lt_of_le hbl2 zb)
        have g5 := gw_cell ht2 (Nat.lt_of_lt_of_le hbl2 zb)
        have g6 := gw_cell ht3 (Nat.lt_of_lt_of_le hbl2 zb)
        have hne := fun w => hazard_neq w x.1 x.2.1 x.2.2 x.1 x.2.1 x.2.2
        rw [show decide (((x.1 : Int), (x.2.1 : Int), (x.2.2 : Int)) = ((x.1 : Int), (x.2.1 : Int), (x.2.2 : Int))) = true from decide_eq_true rfl] at hne
        have hgd := hazard_guard
        clear hs1 hs2 hs3 ht1 ht2 ht3 hx hy
        go_wp2_with fail
        refine wp_region_grow (by kernel_rfl) (by kernel_rfl) ?_
        repeat (go_big_quiet_step ((fail)))
        refine wpQuiet_nil ?_
        intro _ hw'
        obtain ⟨nq, hw''⟩ := hw'
        subst hw''
        have hgq := gw_below nq
        generalize gw nq = wq at *
        clear nq
        have Hbn := Lib.hid (Hb.out.trans (hgq.mono zb))
        clear hgq hne g1 g2 g3 g4 g5 g6
        go_wp2_with fail
        go_roundw
        case rel => exact ⟨k + 1, by go_num, by omega, Hbn.out⟩
        case measure => simp [intOf] <;> omega
      · obtain rfl : k = L.length := by omega
        have hdk : decide (L.length < L.length) = false := decide_eq_false (by omega)
        replace PC := Lib.hid (PC.out.below Hb.out)
        replace HC := Lib.hid (HC.out.below Hb.out)
        replace H1 := Lib.hid (Row.below H1.out Hb.out)
        replace B := Lib.hid (B.out.trans (Hb.out.mono B.out.size))
        obtain ⟨wx, hwx⟩ : ∃ wx, wx = wr := ⟨_, rfl⟩
        subst hwx
        clear Hb zb H2
        obtain ⟨z, p0, p1, p2, p3⟩ := PC.out
        go_wp2_with fail
        refine (specValid_any _ c _ HC.out).mono ?_
        rintro e w5 ⟨rfl, hb⟩
        clear z p0 p1 p2 p3
        replace PC := Lib.hid (PC.out.below hb)
        replace HC := Lib.hid (HC.out.below hb)
        replace H1 := Lib.hid (Row.below H1.out hb)
        replace B := Lib.hid (B.out.trans (hb.mono B.out.size))
        clear hb
        cases hv : Cir.valid c
        · have hL0 : L = [] := by rw [← HLe.out, Cir.hazI_not hv]
          have hl0 : ((L.length : Int) == 0) = true := by rw [hL0]; rfl
          clear hL0
          go_wp2_with fail
          refine (alive_any _).mono ?_
          rintro e w8 ⟨rfl, hb⟩
          replace B := Lib.hid (B.out.trans (hb.mono B.out.size))
          clear hb
          go_wp2_with fail
          go_ret
          exact ⟨rfl, B.out⟩
        · obtain ⟨hd1, hd2⟩ := Cir.nat_ok hv
          have hLh : L = Cir.hazards (Cir.nat c) := by rw [← HLe.out, Cir.hazI_valid hv]
          have Hval := Lib.hid hv
          have Hcn : Hid (c.next.length = (Cir.nat c).next.length) := Lib.hid (by unfold Cir.nat; simp)
          have Hco : Hid (c.outs.length = (Cir.nat c).outs.length) := Lib.hid (by unfold Cir.nat; simp)
          have Hci : Hid (c.ins = ((Cir.nat c).ins : Int)) := Lib.hid (by rw [hd1]; rfl)
          obtain ⟨d, hd⟩ : ∃ d, Cir.nat c = d := ⟨_, rfl⟩
          rw [hd] at hd1 hd2 hLh Hcn Hco Hci
          have Hd1 := Lib.hid hd1
          have Hd := Lib.hid hd2
          have HF := Lib.hid (fun e (h : e ∈ L) => Cir.hazard_facts hd2 (show e ∈ Cir.hazards d by rw [← hLh]; exact h))
          have HND : Hid (L.Nodup) := Lib.hid (by rw [hLh]; exact Cir.hzX_nodup d _)
          have l1 := hd2.ins
          have l2 := hd2.nexts
          have HOo : Hid (NatsAt w5 (.slice Ao d.outs.length co) d.outs) := Lib.hid (by
            obtain ⟨vn, vg, vo, hvv, r1, r2, r3⟩ := HC.out
            simp at hvv
            obtain ⟨_, _, e3⟩ := hvv
            subst e3
            have h4 := r3
            rw [hd1] at h4
            rw [← Hco.out, hd1]
            exact h4)
          rw [Hci.out, Hcn.out, Hco.out] at PC
          clear hv hd1 hd2 hLh hd
          go_wp2_with fail
          go_loopw [7] (fun i wr => ∃ k : Nat, i = .int .i64 k ∧ k ≤ L.length ∧ Below w5.heap.size w5 wr) (fun i _ => L.length - (intOf i).toNat)
          case atStart => exact ⟨0, rfl, Nat.zero_le _, Below.refl _ _⟩
          case round =>
            obtain ⟨i, rfl, hi, hb⟩ := hrel
            have Hb := Lib.hid hb
            have zb := hb.size
            clear hb
            by_cases hli : i < L.length
            · have hdi : decide (i < L.length) = true := decide_eq_true hli
              obtain ⟨b, o', e, hA3, hbl, hx, hs1, hs2, hs3⟩ := trips_open H1.out Hb.out rfl hli
              obtain ⟨x, k, o, l, he, hx7, hk, hbit, hol, hsame⟩ := HF.out e (List.mem_of_getElem? hx.out)
              subst hA3 he
              simp only at hs1 hs2 hs3
              obtain ⟨p, hp⟩ : ∃ p, 2 ^ k = p := ⟨_, rfl⟩
              have HON := Lib.hid (fun w => ones_pow k w (by omega))
              have hand : bits .and .i64 (x : Int) (p : Int) = 0 := by
                have hp8 := Cir.pow_small (k := k) (by omega)
                rw [i64_and_nat x p (by omega) (by omega), ← hp, and_pow_none hbit]
                rfl
              have hpM : p < 2 ^ d.ins := by rw [← hp]; exact Nat.pow_lt_pow_right (by decide) hk
              have hp8 : p ≤ 8 := by rw [← hp]; exact Cir.pow_small (by omega)
              rw [hp] at HON hs2 hsame hx
              obtain ⟨y, hy⟩ : ∃ y, x + p = y := ⟨_, rfl⟩
              rw [hy] at hs2 hsame hx
              have hy2 : y ≤ 1000 := by omega
              have hsub : IntKind.i64.wrap ((y : Int) - (x : Int)) = (p : Int) := (IntWalk.i64_in _ (by omega)).trans (by omega)
              obtain ⟨M, hM⟩ : ∃ M : Nat, 2 ^ d.ins = M := ⟨_, rfl⟩
              have hM16 : M ≤ 16 := by rw [← hM]; exact Nat.pow_le_pow_right (show 0 < 2 by decide) l1
              have eM : (2 : Int) ^ d.ins = (M : Int) := by rw [← hM]; exact two_pow _
              have hwM := IntWalk.i64_in (M : Int) (by omega)
              rw [hM] at hpM
              have hge : decide (M ≤ p) = false := decide_eq_false (by omega)
              have hge2 : decide ((M : Int) ≤ (p : Int)) = false := decide_eq_false (by omega)
              obtain ⟨R, hR⟩ : ∃ R, Cir.litA d l y = R := ⟨_, rfl⟩
              rw [hR] at hsame
              have hRR : (R != R) = false := by simp
              have hlo := Hd.out.out l (List.mem_of_getElem? hol)
              have hoLt := (List.getElem?_eq_some_iff.1 hol).1
              have PCr := Lib.hid (PC.out.below Hb.out)
              have HCr : Hid (CircAt wr (.agg #[.int .i64 d.ins, .slice An d.next.length cn, .slice Ag c.gates.length cg, .slice Ao d.outs.length co]) (Cir.toCz d)) := Lib.hid (by rw [← Hd1.out, ← Hci.out, ← Hcn.out, ← Hco.out]; exact HC.out.below Hb.out)
              have HOr := Lib.hid (Row.below HOo.out Hb.out)
              have hbw := bel_new wr (.cells #[.int .i64 x, .int .i64 y, .int .i64 o] 61)
              have b0 : (wr.alloc (.cells #[.int .i64 x, .int .i64 y, .int .i64 o] 61)).cell? ⟨wr.heap.size, 0, none⟩ = some (.int .i64 x) := World.cell?_alloc_new _ _ _ 0
              have b1 : (wr.alloc (.cells #[.int .i64 x, .int .i64 y, .int .i64 o] 61)).cell? ⟨wr.heap.size, 1, none⟩ = some (.int .i64 y) := World.cell?_alloc_new _ _ _ 1
              have b2 : (wr.alloc (.cells #[.int .i64 x, .int .i64 y, .int .i64 o] 61)).cell? ⟨wr.heap.size, 2, none⟩ = some (.int .i64 o) := World.cell?_alloc_new _ _ _ 2
              have zh : wr.heap.size < (wr.alloc (.cells #[.int .i64 x, .int .i64 y, .int .i64 o] 61)).heap.size := by simp
              have Hbw := Lib.hid (Hb.out.trans (hbw.mono zb))
              have H1w := Lib.hid (Row.below (Row.below H1.out Hb.out) hbw)
              have HOw := Lib.hid (Row.below HOr.out hbw)
              have PCw := Lib.hid (PCr.out.below hbw)
              have HCw := Lib.hid (HCr.out.below hbw)
              obtain ⟨w6, hw6⟩ : ∃ w6, wr.alloc (.cells #[.int .i64 x, .int .i64 y, .int .i64 o] 61) = w6 := ⟨_, rfl⟩
              rw [hw6] at b0 b1 b2 zh Hbw H1w HOw PCw HCw
              obtain ⟨gh, hgh⟩ : ∃ gh, wr.heap.size = gh := ⟨_, rfl⟩
              rw [hgh] at b0 b1 b2 zh
              have Hx := Lib.hid hx.out
              have HR2 := Lib.hid hR
              clear hbw hp hy hM hx hR HOr PCr HCr
              go_wp2_with fail
              clear hw6 hgh hs1 hs2 hs3
              obtain ⟨z, p0, p1, p2, p3⟩ := PCw.out
              obtain ⟨b4, o4, l4, hA4, hbl4, hx4, hs4⟩ := nats_cell (nats_row (show NatsAt w6 (.slice Ao d.outs.length co) d.outs from HOw.out)) rfl hoLt
              obtain rfl : l4 = l := Option.some.inj (hx4.out.symm.trans hol)
              subst hA4
              have HV : Hid (∀ (n : GW w6) (a : Nat), a = x ∨ a = y → Calls Try.prog 43 #[.agg #[.int .i64 d.ins, .slice An d.next.length cn, .slice Ag c.gates.length cg, .slice (some ⟨b4, o4, none⟩) d.outs.length co], .int .i64 l4, .int .i64 a] (gw n) fun e w' => e = .returned (.bool R) ∧ Below (gw n).heap.size (gw n) w') := Lib.hid fun n a ha => by
                have hR : Cir.litA d l4 a = R := by
                  rcases ha with rfl | rfl
                  · exact hsame
                  · exact HR2.out
                rw [← hR]
                exact litValue_ok _ d l4 a (gw n) (HCw.out.below (gw_below n)) Hd.out (by rw [← Hd1.out]; exact Hval.out) hlo (by rcases ha with rfl | rfl <;> omega)
              have HO1 := Lib.hid (fun n : GW w6 => HON (gw n))
              have c0 := gw_cell p0 z
              have c1 := gw_cell p1 z
              have c2 := gw_cell p2 z
              have c3 := gw_cell p3 z
              have c4 := gw_cell hs4 hbl4
              have d0 := gw_cell b0 zh
              have d1 := gw_cell b1 zh
              have d2 := gw_cell b2 zh
              clear HON hx4 hol hsame z p0 p1 p2 p3 hs4 hlo HOo
              refine wp_region_grow (by kernel_rfl) (by kernel_rfl) ?_
              repeat (go_big_quiet_step ((first | (go_at_call 42; exact grow_same (HO1.out _)) | (go_at_call 43; exact grow_call (HV.out _ _ (by first | exact .inl rfl | exact .inr rfl))))))
              refine wpQuiet_nil ?_
              intro _ hw'
              obtain ⟨nq, hw''⟩ := hw'
              subst hw''
              have hgq := gw_below nq
              generalize gw nq = wq at *
              clear nq
              have H1q := Lib.hid (Row.below H1w.out hgq)
              have Hbq := Lib.hid (Hbw.out.trans (hgq.mono Hbw.out.size))
              have e0 := (hgq.cell (p := ⟨gh, 0, none⟩) zh).trans b0
              have e1 := (hgq.cell (p := ⟨gh, 1, none⟩) zh).trans b1
              have e2 := (hgq.cell (p := ⟨gh, 2, none⟩) zh).trans b2
              have ze : gh < wq.heap.size := Nat.lt_of_lt_of_le zh hgq.size
              clear hgq c0 c1 c2 c3 c4 d0 d1 d2 HV HO1 b0 b1 b2 zh H1w HOw PCw HCw Hbw hand hsub eM hwM hge hge2
              go_wp2_with fail
              obtain ⟨w7, hw7⟩ : ∃ w7, w7 = wq := ⟨_, rfl⟩
              subst hw7
              go_loopw [10] (fun j wr2 => ∃ q : Nat, j = .int .i64 q ∧ q ≤ i ∧ Below w7.heap.size w7 wr2) (fun j _ => i - (intOf j).toNat)
              case atStart => exact ⟨0, rfl, Nat.zero_le _, Below.refl _ _⟩
              case round =>
                rename_i wr2 _
                obtain ⟨q, rfl, hq, hb⟩ := hrel
                have Hq := Lib.hid hb
                have zq := hb.size
                clear hb
                by_cases hlq : q < i
                · have hdq : decide (q < i) = true := decide_eq_true hlq
                  obtain ⟨b5, o5, e5, hA5, hbl5, hx5, ht1, ht2, ht3⟩ := trips_open H1q.out Hq.out rfl (show q < L.length by omega)
                  cases hA5
                  have hne5 : e5 ≠ (x, y, o) := fun e => by
                    have h1 := List.pairwise_iff_getElem.1 HND.out q i (by omega) hli hlq
                    obtain ⟨h2, h3⟩ := List.getElem?_eq_some_iff.1 hx5.out
                    obtain ⟨h4, h6⟩ := List.getElem?_eq_some_iff.1 Hx.out
                    rw [h3, h6] at h1
                    exact h1 e
                  obtain ⟨a1, a2, a3⟩ := e5
                  simp only at ht1 ht2 ht3
                  have heql := fun w => hazard_eql w a1 a2 a3 x y o
                  rw [show decide (((a1 : Int), (a2 : Int), (a3 : Int)) = ((x : Int), (y : Int), (o : Int))) = false from decide_eq_false (fun e => hne5 (by
                    injection e with f1 f2
                    injection f2 with f2 f3
                    rw [Int.ofNat_inj.1 f1, Int.ofNat_inj.1 f2, Int.ofNat_inj.1 f3]))] at heql
                  have hgd := hazard_guard
                  have k0 := gw_cell ((Hq.out.cell (p := ⟨gh, 0, none⟩) ze).trans e0) (Nat.lt_of_lt_of_le ze zq)
                  have k1 := gw_cell ((Hq.out.cell (p := ⟨gh, 1, none⟩) ze).trans e1) (Nat.lt_of_lt_of_le ze zq)
                  have k2 := gw_cell ((Hq.out.cell (p := ⟨gh, 2, none⟩) ze).trans e2) (Nat.lt_of_lt_of_le ze zq)
                  have k3 := gw_cell ht1 (Nat.lt_of_lt_of_le hbl5 zq)
                  have k4 := gw_cell ht2 (Nat.lt_of_lt_of_le hbl5 zq)
                  have k5 := gw_cell ht3 (Nat.lt_of_lt_of_le hbl5 zq)
                  clear ht1 ht2 ht3 hx5 hne5
                  go_wp2_with fail
                  refine wp_region_grow (by kernel_rfl) (by kernel_rfl) ?_
                  repeat (go_big_quiet_step ((fail)))
                  refine wpQuiet_nil ?_
                  intro _ hw'
                  obtain ⟨nq, hw''⟩ := hw'
                  subst hw''
                  have hgq := gw_below nq
                  generalize gw nq = wq at *
                  clear nq
                  have Hbn := Lib.hid (Hq.out.trans (hgq.mono zq))
                  clear hgq heql k0 k1 k2 k3 k4 k5
                  go_wp2_with fail
                  go_roundw
                  case rel => exact ⟨q + 1, by go_num, by omega, Hbn.out⟩
                  case measure => simp [intOf] <;> omega
                · obtain rfl : q = i := by omega
                  have hdq : decide (q < q) = false := decide_eq_false (by omega)
                  have Hbe := Lib.hid (Hbq.out.trans (Hq.out.mono Hbq.out.size))
                  go_wp2_with fail
                  go_roundw
                  case rel => exact ⟨q + 1, by go_num, by omega, Hbe.out⟩
                  case measure => simp [intOf] <;> omega
            · have hdi : decide (i < L.length) = false := decide_eq_false (by omega)
              replace B := Lib.hid (B.out.trans (Hb.out.mono B.out.size))
              go_wp2_with fail
              go_ret
              exact ⟨rfl, B.out⟩
  · go_enter Try.func8, Try.ntmps8
    go_wp2_with fail
    go_ret
    exact ⟨rfl, Below.refl _ _⟩

/-! The step from the walk to the row. -/
set_option maxRecDepth 100000 in
theorem lifted (os : Os) (started : os.Started) (H : Type) (enc : TypeId × Value → H) :
    ReturnsInHanded {} Try.checked os 8 .any (Rows.fnHazardsSpec.pre6 enc Try.prog Try.f8 Rows.fnHazardsRow.domain false) (Rows.fnHazardsSpec.post enc Try.prog Try.f8 false true false false) := by
  refine returnsInHanded_of_change (C := Try.checked) own started (by kernel_rfl) Try.func8
    (ChangeSpec.witness6 (enc := enc) (C := Try.checked) false ⟨#[], #[.slice none 0 0], []⟩ 8 (by kernel_rfl) (by kernel_rfl) (by kernel_rfl) (by kernel_rfl)) ?_
  intro W base args ds gs before hval0 hW hcnd _
  have hval : ∀ (j : Nat) t v, Try.f8.params[j]? = some t → args[j]? = some v → Value.okWide Try.prog W .any base t v := hval0
  have hW' := hW
  obtain ⟨p, q, hA0, hV, rfl, hfz, hnd⟩ := hW
  have hA : DataW.TrodAll enc Try.prog W 0 (fun _ => true) true Try.f8.params.toList args.toList ds p := hA0
  rw [Try.params8] at hA hval
  obtain ⟨v0, vs0, d0, ds0, p0, q0, hargs, rfl, rfl, h0, r0⟩ := trodAll_cons hA
  obtain ⟨rfl, rfl, rfl⟩ := trodAll_nil r0
  obtain rfl : args = #[v0] := by cases args; simp_all
  obtain ⟨rfl, rfl⟩ := trodVars_none hV
  obtain ⟨a0, len0, cap0, rfl⟩ := okWide_slice Try.underlying22 (hval 0 22 v0 rfl rfl)
  have k0 := h0
  have lt0 : ∀ x ∈ p0, x.block < W.heap.size := by obtain ⟨m, hm⟩ := k0; exact DataW.trod_lt m _ _ _ hm
  obtain ⟨z0, w0⟩ : ∃ zs, IsRow .u8 W a0 len0 cap0 zs := by
    obtain ⟨fuel, hf⟩ := h0
    rcases open_ints Try.underlying22 Try.underlying5 (by kernel_rfl) hf with ⟨hcs, _⟩ | ⟨x, l, c, zs, hcs, _, hl, hm, hz, _, hcell, hwz⟩
    · simp [Value.cells] at hcs
      obtain ⟨rfl, rfl, rfl⟩ := hcs
      exact ⟨[], .inl ⟨rfl, rfl, rfl, rfl⟩⟩
    · simp [Value.cells] at hcs
      obtain ⟨rfl, rfl, rfl⟩ := hcs
      exact ⟨zs, .inr ⟨_, rfl, hl, hm, by simpa using hz, hcell, hwz⟩⟩
  clear hA0 hval0
  refine (walk a0 len0 cap0 z0 W w0).mono fun e W' ⟨he, bel⟩ => ?_
  subst he
  exact ⟨_, rfl, _, _, _, [], _, [], hW', trodAll_mk1 (shut_bool Try.underlying4 _), (trodAll_cons_mk (Below.trod laidOut (by kernel_rfl) (of_decide_eq_true (by kernel_rfl)) k0 bel lt0) trodAll_mk0), rfl, bel.frame _, fun h => by cases h⟩

theorem over : Rows.fnHazardsRow.holds Try.pinned (OpenSpec.ofChange Rows.fnHazardsSpec) :=
  OpenClaim.holds_of_wide 8 Try.f8 rfl rfl rfl rfl rfl rfl rfl ⟨rfl, rfl, rfl, rfl, rfl⟩ rfl rfl rfl rfl rfl (by kernel_rfl) Try.func8 (by kernel_rfl)
    (of_decide_eq_true (by kernel_rfl)) (by unfold Func.isWrapper; first | (rw [if_pos (by decide +kernel)]; kernel_rfl) | (rw [if_neg (by decide +kernel)]; exact ⟨rfl, rfl⟩))
    (fun os started H enc _ => lifted os started H enc)

/-- The statement. -/
theorem proved : Rows.FnHazardsSaid := over
#print axioms proved
end Go.Proofs.Ytopimdakpnnbhaa.fnHazards
