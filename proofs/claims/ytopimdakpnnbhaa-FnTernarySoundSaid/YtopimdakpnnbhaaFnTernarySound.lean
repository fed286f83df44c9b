/-
  FnTernarySound: The program's EvalTernary is the reference's; every known ternary value is that of every completion of the unknown inputs and latches; there is one value a variable.
  Conditions: none. For every input that the row reads, the Go function laws.FnTernarySound returns true and leaves its arguments as they were.
-/
import Derived.Test.YtopimdakpnnbhaaS07
import Derived.Test.YtopimdakpnnbhaaS05
import Derived.Test.YtopimdakpnnbhaaS06
import Derived.StillTailTactics
import Derived.Test.YtopimdakpnnbhaaRows
import Derived.WalkKit
import Derived.ProofKit
import Derived.OpenShut
import Derived.ShutString
import Derived.ChangeOld
import Derived.Below
namespace Go.Proofs.Ytopimdakpnnbhaa.fnTernarySound
open Go.ChangeShapes Go.WideShapes Go.ChangeAt Go.RowKit
open Go.ChangeMaps (open_string shut_string)
set_option linter.unusedVariables false

theorem own : ownKnob Try.prog.godebug = none := by kernel_rfl
theorem laidOut : laidOutB Try.prog = true := by kernel_rfl

/-- A slice of integers that came in: nil, or a row of cells. -/
def IsRow (k : IntKind) (w : World) (a : Option Addr) (len cap : Nat) (zs : List Int) : Prop :=
  (a = none ∧ len = 0 ∧ cap = 0 ∧ zs = []) ∨
  ∃ x, a = some x ∧ len ≤ cap ∧ cap ≤ maxLen ∧ zs.length = cap ∧ (∀ i, i < zs.length → w.cell? (x.add i) = some (.int k (zs.getD i 0))) ∧ ∀ n ∈ zs, (Lit.int k n).wf = true

theorem implVarCount_ok (v : Value) (d : Ci) (w : World) (h : CircAt w v (Cir.toCz d)) (hd : Cir.Ok d) (hv : Cir.valid (Cir.toCz d) = true) :
    Calls Try.prog 22 #[v] w fun e w' => e = .returned (.int .i64 (Cir.nvars d : Nat)) ∧ Below w.heap.size w w' := by
  have l1 := hd.ins
  have l2 := hd.nexts
  have l3 := hd.gatess
  have HC := Lib.hid h
  obtain ⟨vn, vg, vo, rfl, r1, r2, r3⟩ := h
  have hins : (Cir.toCz d).ins = (d.ins : Int) := rfl
  have HP := Lib.hid (PCirc.boxed (c := Cir.toCz d) 26 r1 r2 r3)
  rw [hins] at HC HP ⊢
  have B0 := Lib.hid (bel_new w (.cells #[.int .i64 d.ins, vn, vg, vo] 26))
  obtain ⟨z, p0, p1, p2, p3⟩ := PCells.boxed w d.ins vn vg vo 26
  have HV := Lib.hid (implValid_any _ _ _ (HC.out.below B0.out))
  rw [hv] at HV
  have HVar := Lib.hid (fun w' (hb : Below (w.alloc (.cells #[.int .i64 d.ins, vn, vg, vo] 26)).heap.size (w.alloc (.cells #[.int .i64 d.ins, vn, vg, vo] 26)) w') => vars_any w.heap.size (Cir.toCz d) w' (HP.out.below hb) (by rw [hins]; omega) (by rw [hins]; omega) (by rw [toCz_next]; omega) (by rw [toCz_gates]; omega))
  rw [Cir.vars_toCz] at HVar
  clear r1 r2 r3 hd hins hv HC HP
  go_enter Try.func22, Try.ntmps22
  go_wp2_with fail
  refine HV.out.mono ?_
  rintro e w1 ⟨rfl, hb1⟩
  have Hb1 := Lib.hid hb1
  clear hb1
  go_wp2_with fail
  refine (HVar.out _ Hb1.out).mono ?_
  rintro e w2 ⟨rfl, hb2⟩
  have B := Lib.hid (B0.out.trans ((Hb1.out.trans (hb2.mono Hb1.out.size)).mono B0.out.size))
  clear hb2
  go_wp2_with fail
  go_ret
  exact ⟨rfl, B.out⟩
set_option maxHeartbeats 8000000 in
set_option maxRecDepth 100000 in
/-- The walk: the Go text returns true. -/
theorem walk (a0 : Option Addr) (len0 cap0 : Nat) (z0 : List Int) (w : World) (w0 : IsRow .u8 w a0 len0 cap0 z0) :
    Calls Try.prog 3 #[.slice a0 len0 cap0] w fun e w' => e = .returned (.bool true) ∧ Below w.heap.size w w' := by
  obtain ⟨bs, rfl, hwf, hr⟩ := Row.given w0
  clear w0
  by_cases hl : bs.length ≤ 1048576
  · have Hr := Lib.hid hr
    clear hr
    go_enter Try.func3, Try.ntmps3
    go_wp2_with fail
    refine (drawEvalTernary_any _ bs w Hr.out hwf hl).mono ?_
    rintro e w1 ⟨v1, c, a, xs, b, ys, rfl, hO, hS, hx, hy, hxl, hyl, hb1⟩
    obtain ⟨An, cn, Ag, cg, Ao, co, rfl⟩ := hO.shape
    obtain ⟨As, cs, rfl, hcs, hcms⟩ := Row.shape hx
    obtain ⟨Ai, ci, rfl, hci, hcmi⟩ := Row.shape hy
    have HC1 := Lib.hid hO.at
    have HX1 := Lib.hid hx
    have HY1 := Lib.hid hy
    have Hb1 := Lib.hid hb1
    unfold maxLen at hcms hcmi
    clear hO hS hx hy hb1 Hr hwf
    go_wp2_with fail
    have hb2 := bel_new w1 (.cells #[.int .i64 c.ins, .slice An c.next.length cn, .slice Ag c.gates.length cg, .slice Ao c.outs.length co] 26)
    have PC2 := Lib.hid (PCells.boxed w1 c.ins (.slice An c.next.length cn) (.slice Ag c.gates.length cg) (.slice Ao c.outs.length co) 26)
    have HC2 := Lib.hid (HC1.out.below hb2)
    have HX2 := Lib.hid (Row.below HX1.out hb2)
    have HY2 := Lib.hid (Row.below HY1.out hb2)
    have B2 := Lib.hid (Hb1.out.trans (hb2.mono Hb1.out.size))
    clear hb2 HC1 Hb1 HX1 HY1
    generalize w1.alloc (.cells #[.int .i64 c.ins, .slice An c.next.length cn, .slice Ag c.gates.length cg, .slice Ao c.outs.length co] 26) = w2 at *
    obtain ⟨gb, hgb2⟩ : ∃ gb, w1.heap.size = gb := ⟨_, rfl⟩
    rw [hgb2] at PC2 ⊢
    clear hgb2
    obtain ⟨V, hV⟩ : ∃ V, Cir.evalT c xs ys = V := ⟨_, rfl⟩
    have HV := Lib.hid hV
    clear hV
    refine (implEvalT_any _ _ _ c xs ys _ HC2.out HX2.out HY2.out).mono ?_
    rintro e w3 ⟨v3, rfl, hO3, hb3⟩
    rw [HV.out] at hO3
    have HR3 := Lib.hid (show IntsAt w3 v3 V from Row.of_own hO3)
    obtain ⟨A3, c3, e3⟩ := slice_of_own hO3
    subst e3
    have PC3 := Lib.hid (PC2.out.below hb3)
    have HC3 := Lib.hid (HC2.out.below hb3)
    have HX3 := Lib.hid (Row.below HX2.out hb3)
    have HY3 := Lib.hid (Row.below HY2.out hb3)
    have B3 := Lib.hid (B2.out.trans (hb3.mono B2.out.size))
    clear hO3 hb3 PC2 HC2 HX2 HY2 B2
    obtain ⟨z, p0, p1, p2, p3⟩ := PC3.out
    go_wp2_with fail
    refine (specEvalT_any _ _ _ c xs ys _ HC3.out HX3.out HY3.out).mono ?_
    rintro e w4 ⟨v4, rfl, hO4, hb4⟩
    rw [HV.out] at hO4
    have HS4 := Lib.hid (show IntsAt w4 v4 V from Row.of_own hO4)
    have HR4 := Lib.hid (Row.below HR3.out hb4)
    have PC4 := Lib.hid (PC3.out.below hb4)
    have HC4 := Lib.hid (HC3.out.below hb4)
    have HX4 := Lib.hid (Row.below HX3.out hb4)
    have HY4 := Lib.hid (Row.below HY3.out hb4)
    have B4 := Lib.hid (B3.out.trans (hb4.mono B3.out.size))
    clear hO4 hb4 PC3 HC3 HX3 HY3 B3 HR3 z p0 p1 p2 p3
    go_wp2_with fail
    refine (sameInts_same _ _ V _ HR4.out HS4.out).mono ?_
    rintro e w5 ⟨rfl, hb5⟩
    have HR5 := Lib.hid (Row.below HR4.out hb5)
    have PC5 := Lib.hid (PC4.out.below hb5)
    have HC5 := Lib.hid (HC4.out.below hb5)
    have HX5 := Lib.hid (Row.below HX4.out hb5)
    have HY5 := Lib.hid (Row.below HY4.out hb5)
    have B5 := Lib.hid (B4.out.trans (hb5.mono B4.out.size))
    clear hb5 PC4 HC4 HX4 HY4 B4 HR4 HS4
    obtain ⟨z, p0, p1, p2, p3⟩ := PC5.out
    cases hok : Cir.evalOk c xs ys
    · have hv0 : ((V.length : Int) == 0) = true := by rw [← HV.out, Cir.evalT_no hok]; rfl
      clear hok
      go_wp2_with fail
      refine (alive_any _).mono ?_
      rintro e w6 ⟨rfl, hb6⟩
      go_wp2_with fail
      go_ret
      exact ⟨rfl, B5.out.trans (hb6.mono B5.out.size)⟩
    · have HVe : Hid (V = nats (Cir.tvals (Cir.nat c) (xs.map Int.toNat) (ys.map Int.toNat))) := Lib.hid (by rw [← HV.out]; unfold Cir.evalT; rw [hok]; rfl)
      unfold Cir.evalOk at hok
      rw [Bool.and_eq_true, Bool.and_eq_true, Bool.and_eq_true, Bool.and_eq_true, decide_eq_true_iff, decide_eq_true_iff] at hok
      obtain ⟨hv, hls, hli, ht1, ht2⟩ := hok
      obtain ⟨hd1, hd2⟩ := Cir.nat_ok hv
      obtain ⟨xe, xt⟩ := Cir.tern_nats ht1
      obtain ⟨ye, yt⟩ := Cir.tern_nats ht2
      obtain ⟨st, hst⟩ : ∃ st, xs.map Int.toNat = st := ⟨_, rfl⟩
      obtain ⟨inp, hinp⟩ : ∃ inp, ys.map Int.toNat = inp := ⟨_, rfl⟩
      obtain ⟨d, hd⟩ : ∃ d, Cir.nat c = d := ⟨_, rfl⟩
      rw [hst] at xe xt HVe
      rw [hinp] at ye yt HVe
      rw [hd] at hd1 hd2 HVe
      have hi : c.ins = (d.ins : Int) := by rw [hd1]; rfl
      have hn : c.next.length = d.next.length := by rw [hd1]; exact toCz_next d
      have lst : st.length = d.next.length := by rw [← hst, List.length_map]; omega
      have lin : inp.length = d.ins := by rw [← hinp, List.length_map]; omega
      have lxs : xs.length = st.length := by rw [← hst, List.length_map]
      have lys : ys.length = inp.length := by rw [← hinp, List.length_map]
      have Hd := Lib.hid hd2
      have l1 := hd2.ins
      have l2 := hd2.nexts
      have l3 := hd2.gatess
      have HVl : Hid (V.length = Cir.nvars d) := Lib.hid (by rw [HVe.out, nats_length]; exact Cir.tvals_length d lin lst)
      have hv0 : ((V.length : Int) == 0) = false := by
        have h2 : V.length ≠ 0 := by rw [HVl.out]; unfold Cir.nvars Cir.nfirst; omega
        rw [beq_eq_false_iff_ne]
        omega
      have HXn := Lib.hid (show NatsAt w5 (.slice As st.length cs) st by have := HX5.out; rw [xe] at this; unfold NatsAt IntsAt; rw [nats_length] at this ⊢; exact this)
      have HYn := Lib.hid (show NatsAt w5 (.slice Ai inp.length ci) inp by have := HY5.out; rw [ye] at this; unfold NatsAt IntsAt; rw [nats_length] at this ⊢; exact this)
      have HVn := Lib.hid (show NatsAt w5 (.slice A3 (Cir.nvars d) c3) (Cir.tvals d st inp) by have := HR5.out; rw [HVe.out] at this; unfold NatsAt IntsAt; rw [nats_length, Cir.tvals_length d lin lst] at this; rw [nats_length, Cir.tvals_length d lin lst]; exact this)
      rw [lxs, lys]
      rw [HVl.out] at hv0 ⊢
      have HT1 := Lib.hid (Cir.tvals_length d lin lst)
      rw [hi] at PC5 p0 ⊢
      rw [hn] at PC5 p1 ⊢
      have HC6 : Hid (CircAt w5 (.agg #[.int .i64 d.ins, .slice An d.next.length cn, .slice Ag c.gates.length cg, .slice Ao c.outs.length co]) (Cir.toCz d)) := Lib.hid (by rw [← hd1, ← hi, ← hn]; exact HC5.out)
      have Hvd : Hid (Cir.valid (Cir.toCz d) = true) := Lib.hid (by rw [← hd1]; exact hv)
      have Lst := Lib.hid lst
      have Lin := Lib.hid lin
      have hstl : st.length ≤ 3 := by omega
      have hinl : inp.length ≤ 4 := by omega
      have HT := Lib.hid (fun (x : Nat) (h : Cir.fits (inp ++ st) x (inp ++ st).length = true) => @Cir.tern_right d hd2 st inp x lin lst h)
      clear HX5 HY5 HR5 HC5 hv hls hli ht1 ht2 hd1 hd2 xe ye xt yt hst hinp hd hi hn lxs lys lst lin HV HVe hxl hyl HVl
      obtain ⟨L, hL⟩ : ∃ L, (inp ++ st).length = L := ⟨_, rfl⟩
      have hL7 : L ≤ 7 := by rw [← hL, List.length_append]; omega
      have HLh := Lib.hid hL
      obtain ⟨M, hM⟩ : ∃ M : Nat, M = 2 ^ L := ⟨_, rfl⟩
      have hM128 : M ≤ 128 := by rw [hM]; exact Nat.pow_le_pow_right (show 0 < 2 by decide) hL7
      have HMh := Lib.hid hM
      clear hL hM
      have HL0 := Lib.hid (World.ownsRow_lit (base := w5.heap.size) (e := 3) (size := 1) w5 #[] 0 (Nat.le_refl _) (by unfold maxLen; omega) rfl)
      have HYr := Lib.hid (show Row w5 1 (.slice Ai inp.length ci) inp.length (nints inp) by have := HYn.out; unfold NatsAt IntsAt at this; rw [nats_length] at this; exact this)
      have HXr := Lib.hid (show Row w5 1 (.slice As st.length cs) st.length (nints st) by have := HXn.out; unfold NatsAt IntsAt at this; rw [nats_length] at this; exact this)
      go_wp2_with (first
        | (at_builtin
           refine append_ints rfl (.tmp 37) (.tmp 38) rfl w5.heap.size _ 0 _ rfl HL0.out _ inp.length (nints inp) rfl (HYr.out.alloc _) (nints_one _) (by omega) (by simp) ?_
           intro v7 w7 hown7 hg7 hat7
           have Ho7 := Lib.hid hown7
           have Hb7 := Lib.hid ((bel_new w5 (.cells #[] 3)).grown hg7 (bel_new w5 _).size (own_ge0 HL0.out))
           clear hown7 hg7 hat7)
        | (at_builtin
           refine append_ints rfl (.tmp 39) (.tmp 40) rfl w5.heap.size _ (0 + inp.length) _ rfl Ho7.out _ st.length (nints st) rfl (Row.below HXr.out Hb7.out) (nints_one _) (by omega) Hb7.out.size ?_
           intro v8 w8 hown8 hg8 hat8
           have Hb8 := Lib.hid (Hb7.out.grown hg8 Hb7.out.size (own_ge0 Ho7.out))
           have Ho8 := Lib.hid (show w8.ownsRow w5.heap.size 3 1 v8 L (nints (inp ++ st)) by
             have := hown8
             rw [Nat.zero_add, ← List.length_append, HLh.out] at this
             rw [nints_append]
             exact this)
           have hvL : v8 = v8 := rfl
           obtain ⟨A8, c8, e8⟩ := slice_of_own Ho8.out
           subst e8
           clear hown8 hg8 hat8 hvL))
      have HC8 := Lib.hid (HC6.out.below Hb8.out)
      have PC8 := Lib.hid (PC5.out.below Hb8.out)
      have HV8 := Lib.hid (Row.below HVn.out Hb8.out)
      have B8 := Lib.hid (B5.out.trans (Hb8.out.mono B5.out.size))
      clear z p0 p1 p2 p3 PC5 HC6 HVn B5 HXn HYn HXr HYr HL0 Ho7 Hb7 Hb8
      go_loopw [8] (fun i wr => ∃ x : Nat, i = .int .i64 x ∧ x ≤ M ∧ Below w8.heap.size w8 wr) (fun i _ => M - (intOf i).toNat)
      case atStart => exact ⟨0, rfl, Nat.zero_le _, Below.refl _ _⟩
      case round =>
        obtain ⟨x, rfl, hx, hb⟩ := hrel
        have eM : (2 : Int) ^ L = (M : Int) := by rw [HMh.out]; exact two_pow _
        have hwM := IntWalk.i64_in (M : Int) (by omega)
        have Hb := Lib.hid hb
        have zb := hb.size
        have Ho := Lib.hid (own_below Ho8.out hb)
        have PCr := Lib.hid (PC8.out.below hb)
        have HCr := Lib.hid (HC8.out.below hb)
        have HVr := Lib.hid (Row.below HV8.out hb)
        clear hb
        obtain ⟨z, p0, p1, p2, p3⟩ := PCr.out
        by_cases hlt : x < M
        · have hdx : decide (x < M) = true := decide_eq_true hlt
          go_wp2_with fail
          obtain ⟨W8, hW8⟩ : ∃ W8, W8 = wr := ⟨_, rfl⟩
          subst hW8
          clear z p0 p1 p2 p3
          go_loopw [9, 10] (fun v i wr => ∃ k : Nat, v = .bool (Cir.fits (inp ++ st) x k) ∧ i = .int .i64 k ∧ k ≤ L ∧ Below W8.heap.size W8 wr) (fun _ i _ => L - (intOf i).toNat)
          case atStart => exact ⟨0, rfl, rfl, Nat.zero_le _, Below.refl _ _⟩
          case round =>
            obtain ⟨k, rfl, rfl, hk, hb⟩ := hrel
            have Hbk := Lib.hid hb
            have zk := hb.size
            clear hb
            by_cases hlk : k < L
            · have hdk : decide (k < L) = true := decide_eq_true hlk
              obtain ⟨b, o, y, hA8, hbl, hx0, hs0⟩ := nats_cell (A := A8) (n := L) (c := c8) (xs := inp ++ st) (i := k) (by
                have := Row.below (Row.of_own Ho.out) Hbk.out
                unfold nints at this
                exact this) HLh.out.symm (by rw [HLh.out]; exact hlk)
              subst hA8
              have HS : Hid (Cir.fits (inp ++ st) x (k + 1) = (Cir.fits (inp ++ st) x k && (y == 2 || y == x / 2 ^ k % 2))) := Lib.hid (by
                rw [Cir.fits, List.getD_eq_getElem?_getD, hx0.out]
                rfl)
              have hq : (x : Int) / 2 ^ k = ((x / 2 ^ k : Nat) : Int) := by rw [Int.natCast_ediv, two_pow]
              have hm := tmod_two (x / 2 ^ k)
              generalize x / 2 ^ k = q at hq hm HS
              generalize q % 2 = r at hm HS
              have h2 : ((y : Int) == 2) = (y == 2) := by rw [Bool.eq_iff_iff, beq_iff_eq, beq_iff_eq]; omega
              have h3 : ((y : Int) == (r : Int)) = (y == r) := by rw [Bool.eq_iff_iff, beq_iff_eq, beq_iff_eq]; omega
              have gs := gw_cell hs0 hbl
              obtain ⟨F, hF⟩ : ∃ F, Cir.fits (inp ++ st) x k = F := ⟨_, rfl⟩
              obtain ⟨b2, hb2⟩ : ∃ b2, (y == 2) = b2 := ⟨_, rfl⟩
              obtain ⟨b3, hb3⟩ : ∃ b3, (y == r) = b3 := ⟨_, rfl⟩
              rw [hF, hb2, hb3] at HS
              rw [hb2] at h2
              rw [hb3] at h3
              rw [hF]
              clear hF hb2 hb3 hx0 hs0
              cases F <;> cases b2 <;> cases b3
              all_goals
                go_wp2_with fail
                refine wp_region_grow (by kernel_rfl) (by kernel_rfl) ?_
                repeat (go_big_quiet_step ((fail)))
                refine wpQuiet_nil ?_
                intro _ hw'
                obtain ⟨nq, hw''⟩ := hw'
                subst hw''
                have hgq := gw_below nq
                generalize gw nq = wq at *
                clear nq
                have Hbn := Lib.hid (Hbk.out.trans (hgq.mono zk))
                clear hgq gs
                go_wp2_with fail
                go_roundw
                case rel => exact ⟨k + 1, by rw [HS.out]; rfl, by go_num, by omega, Hbn.out⟩
                case measure => simp [intOf]; omega
            · obtain rfl : k = L := by omega
              have hdk : decide (k < k) = false := decide_eq_false (by omega)
              have Hbw := Lib.hid (Hb.out.trans (Hbk.out.mono zb))
              cases hF : Cir.fits (inp ++ st) x k
              · go_wp2_with fail
                go_roundw
                case rel => exact ⟨x + 1, by go_num, by omega, Hbw.out⟩
                case measure => simp [intOf]; omega
              · have hq : (x : Int) / 2 ^ d.ins = ((x / 2 ^ d.ins : Nat) : Int) := by rw [Int.natCast_ediv, two_pow]
                have hxq : x / 2 ^ d.ins ≤ 128 := Nat.le_trans (Nat.div_le_self _ _) (by omega)
                have HTx := Lib.hid (fun (j t : Nat) (b : Bool) h1 h2 h3 => HT.out x (by rw [HLh.out]; exact hF) (k := j) (t := t) (b := b) h1 h2 h3)
                have HVL := Lib.hid (Cir.vals_length d (st := Cir.bits (x / 2 ^ d.ins) d.next.length) (inp := Cir.bits x d.ins) (Cir.bits_length _ _) (Cir.bits_length _ _))
                obtain ⟨xq, hxqe⟩ : ∃ xq, x / 2 ^ d.ins = xq := ⟨_, rfl⟩
                rw [hxqe] at hq hxq HTx HVL
                clear hxqe hF
                have PCk := Lib.hid (PCr.out.below Hbk.out)
                have HCk := Lib.hid (HCr.out.below Hbk.out)
                have HVk := Lib.hid (Row.below HVr.out Hbk.out)
                obtain ⟨z, p0, p1, p2, p3⟩ := PCk.out
                go_wp2_with fail
                obtain ⟨W9, hW9⟩ : ∃ W9, W9 = wr := ⟨_, rfl⟩
                subst hW9
                refine wp_region_rs (quietRS Try.prog _ W9 _) quietRS_ok (by kernel_rfl) (by kernel_rfl) (by kernel_rfl) (Nat.le_of_ble_eq_true rfl) trivial trivial ?_
                apply rs_eq quietRS_ok quiet_any
                · intro ρ w' ho hK
                  have ho : Only _ W9 w' := ho
                  obtain ⟨h0, -⟩ := hK
                  have h0' : ρ (.tmp 3) = _ := h0
                  have hb := only_below ho
                  have q0 := (hb.cell (p := ⟨gb, 0, none⟩) z).trans p0
                  have q1 := (hb.cell (p := ⟨gb, 1, none⟩) z).trans p1
                  have q2 := (hb.cell (p := ⟨gb, 2, none⟩) z).trans p2
                  have q3 := (hb.cell (p := ⟨gb, 3, none⟩) z).trans p3
                  go_simp
                  try exact rfl
                refine rs_old quietRS_ok quiet_any _ (.inl rfl) _ rfl rfl ?_
                apply rs_eq quietRS_ok quiet_any
                · intro ρ w' ho hK
                  have ho : Only _ W9 w' := ho
                  obtain ⟨h0, -⟩ := hK
                  have h0' : ρ (.tmp 3) = _ := h0
                  go_simp
                  try exact rfl
                apply rs_eq quietRS_ok quiet_any
                · intro ρ w' ho hK
                  have ho : Only _ W9 w' := ho
                  obtain ⟨h0, -⟩ := hK
                  have h0' : ρ (.tmp 78) = _ := h0
                  have hb := only_below ho
                  have q0 := (hb.cell (p := ⟨gb, 0, none⟩) z).trans p0
                  have q1 := (hb.cell (p := ⟨gb, 1, none⟩) z).trans p1
                  have q2 := (hb.cell (p := ⟨gb, 2, none⟩) z).trans p2
                  have q3 := (hb.cell (p := ⟨gb, 3, none⟩) z).trans p3
                  go_simp
                  try exact rfl
                apply rs_eq quietRS_ok quiet_any
                · intro ρ w' ho hK
                  have ho : Only _ W9 w' := ho
                  obtain ⟨h0, h1, -⟩ := hK
                  have h0' : ρ (.tmp 77) = _ := h0
                  have h1' : ρ (.tmp 79) = _ := h1
                  go_simp
                  try exact rfl
                apply rs_eq quietRS_ok quiet_any
                · intro ρ w' ho hK
                  have ho : Only _ W9 w' := ho
                  obtain ⟨h0, -⟩ := hK
                  have h0' : ρ (.tmp 3) = _ := h0
                  go_simp
                  try exact rfl
                apply rs_eq quietRS_ok quiet_any
                · intro ρ w' ho hK
                  have ho : Only _ W9 w' := ho
                  obtain ⟨h0, -⟩ := hK
                  have h0' : ρ (.tmp 81) = _ := h0
                  have hb := only_below ho
                  have q0 := (hb.cell (p := ⟨gb, 0, none⟩) z).trans p0
                  have q1 := (hb.cell (p := ⟨gb, 1, none⟩) z).trans p1
                  have q2 := (hb.cell (p := ⟨gb, 2, none⟩) z).trans p2
                  have q3 := (hb.cell (p := ⟨gb, 3, none⟩) z).trans p3
                  go_simp
                  try exact rfl
                apply rs_eq quietRS_ok quiet_any
                · intro ρ w' ho hK
                  have ho : Only _ W9 w' := ho
                  obtain ⟨h0, -⟩ := hK
                  have h0' : ρ (.tmp 82) = _ := h0
                  go_simp
                  try exact rfl
                refine rs_call quietRS_ok quiet_any (TBools (Cir.bits xq d.next.length)) (stb_bools _) 21 _ _ rfl (fun ρ w' ho hK => by
                  have ho : Only _ W9 w' := ho
                  obtain ⟨h0, h1, h2, -⟩ := hK
                  have h0' : ρ (.func 21) = .func (.func 21) #[] #[] := h0
                  have h1' : ρ (.tmp 80) = _ := h1
                  have h2' : ρ (.tmp 83) = _ := h2
                  refine ⟨#[ρ (.tmp 80), ρ (.tmp 83)], ?_, ?_⟩
                  · go_simp
                  · rw [h1', h2']
                    refine (bits_any xq d.next.length w' (by omega) (by omega)).mono ?_
                    rintro e w2 ⟨v2, rfl, hO, hb⟩
                    exact ⟨v2, rfl, Row.of_own hO, hb⟩) ?_
                refine rs_old quietRS_ok quiet_any _ (.inl rfl) _ rfl rfl ?_
                apply rs_eq quietRS_ok quiet_any
                · intro ρ w' ho hK
                  have ho : Only _ W9 w' := ho
                  obtain ⟨h0, -⟩ := hK
                  have h0' : ρ (.tmp 3) = _ := h0
                  go_simp
                  try exact rfl
                apply rs_eq quietRS_ok quiet_any
                · intro ρ w' ho hK
                  have ho : Only _ W9 w' := ho
                  obtain ⟨h0, -⟩ := hK
                  have h0' : ρ (.tmp 86) = _ := h0
                  have hb := only_below ho
                  have q0 := (hb.cell (p := ⟨gb, 0, none⟩) z).trans p0
                  have q1 := (hb.cell (p := ⟨gb, 1, none⟩) z).trans p1
                  have q2 := (hb.cell (p := ⟨gb, 2, none⟩) z).trans p2
                  have q3 := (hb.cell (p := ⟨gb, 3, none⟩) z).trans p3
                  go_simp
                  try exact rfl
                refine rs_call quietRS_ok quiet_any (TBools (Cir.bits x d.ins)) (stb_bools _) 21 _ _ rfl (fun ρ w' ho hK => by
                  have ho : Only _ W9 w' := ho
                  obtain ⟨h0, h1, h2, -⟩ := hK
                  have h0' : ρ (.func 21) = .func (.func 21) #[] #[] := h0
                  have h1' : ρ (.tmp 85) = _ := h1
                  have h2' : ρ (.tmp 87) = _ := h2
                  refine ⟨#[ρ (.tmp 85), ρ (.tmp 87)], ?_, ?_⟩
                  · go_simp
                  · rw [h1', h2']
                    refine (bits_any x d.ins w' (by omega) (by omega)).mono ?_
                    rintro e w2 ⟨v2, rfl, hO, hb⟩
                    exact ⟨v2, rfl, Row.of_own hO, hb⟩) ?_
                refine rs_call quietRS_ok quiet_any (TBools (Cir.vals d (Cir.bits xq d.next.length) (Cir.bits x d.ins))) (stb_bools _) 20 _ _ rfl (fun ρ w' ho hK => by
                  have ho : Only _ W9 w' := ho
                  obtain ⟨h0, h1, h2, h3, -⟩ := hK
                  have h0' : ρ (.func 20) = .func (.func 20) #[] #[] := h0
                  have h1' : ρ (.tmp 76) = _ := h1
                  have h2' : (TBools (Cir.bits xq d.next.length)) w' (ρ (.tmp 84)) := h2
                  have h3' : (TBools (Cir.bits x d.ins)) w' (ρ (.tmp 88)) := h3
                  refine ⟨#[ρ (.tmp 76), ρ (.tmp 84), ρ (.tmp 88)], ?_, ?_⟩
                  · go_simp
                  · rw [h1']
                    refine (evalVars_ok _ _ _ d _ _ w' (HCk.out.below (only_below ho)) Hd.out Hvd.out h2' h3' (Cir.bits_length _ _) (Cir.bits_length _ _)).mono ?_
                    rintro e w2 ⟨v2, rfl, hO, hb⟩
                    exact ⟨v2, rfl, Row.of_own hO, hb⟩) ?_
                refine rs_same quietRS_ok quiet_any 89 13 (.inr rfl) rfl _ rfl ?_
                intro f w9 k9 hk9 hI9 ht9 hcp9
                have E0 : f 0 = _ := ht9 0 (Nat.le_of_ble_eq_true rfl)
                have E1 : f 1 = _ := ht9 1 (Nat.le_of_ble_eq_true rfl)
                conv at E1 => rhs; whnf
                have E2 : f 2 = _ := ht9 2 (Nat.le_of_ble_eq_true rfl)
                have E3 : f 3 = _ := ht9 3 (Nat.le_of_ble_eq_true rfl)
                have E4 : f 4 = _ := ht9 4 (Nat.le_of_ble_eq_true rfl)
                have E5 : f 5 = _ := ht9 5 (Nat.le_of_ble_eq_true rfl)
                have E6 : f 6 = _ := ht9 6 (Nat.le_of_ble_eq_true rfl)
                have E7 : f 7 = _ := ht9 7 (Nat.le_of_ble_eq_true rfl)
                have E8 : (TBools (Cir.bits xq d.next.length)) w9 (f 8) := ht9 8 (Nat.le_of_ble_eq_true rfl)
                have E9 : f 9 = _ := ht9 9 (Nat.le_of_ble_eq_true rfl)
                conv at E9 => rhs; whnf
                have E10 : f 10 = _ := ht9 10 (Nat.le_of_ble_eq_true rfl)
                have E11 : f 11 = _ := ht9 11 (Nat.le_of_ble_eq_true rfl)
                have E12 : (TBools (Cir.bits x d.ins)) w9 (f 12) := ht9 12 (Nat.le_of_ble_eq_true rfl)
                have E13 : (TBools (Cir.vals d (Cir.bits xq d.next.length) (Cir.bits x d.ins))) w9 (f 13) := ht9 13 (Nat.le_of_ble_eq_true rfl)
                have E14 : (TBools (Cir.vals d (Cir.bits xq d.next.length) (Cir.bits x d.ins))) w9 (f 14) := ht9 14 (Nat.le_of_ble_eq_true rfl)
                have Ho9 : Only _ W9 w9 := hI9.2.1
                have C14 : f 14 = f 13 := (hcp9 14 _ 89 13 rfl rfl rfl rfl).2
                simp only [putAll, E0, E1, E2, E3, E4, E5, E6, E7, E9, E10, E11, C14, Nat.zero_add, Nat.reduceAdd, Act.put, List.setIfInBounds_toArray, List.set_cons_succ, List.set_cons_zero]
                clear E0 E1 E2 E3 E4 E5 E6 E7 E9 E10 E11
                clear hI9 ht9 hcp9 hk9
                generalize f 8 = r8 at *
                generalize f 12 = r12 at *
                generalize f 13 = r13 at *
                have hb9 := only_below Ho9
                have HB9 := Lib.hid (show BoolsAt w9 r13 (Cir.vals d (Cir.bits xq d.next.length) (Cir.bits x d.ins)) from E13)
                obtain ⟨Ab, cb, eb, -⟩ := Row.shape (show BoolsAt w9 r13 (Cir.vals d (Cir.bits xq d.next.length) (Cir.bits x d.ins)) from E13)
                rw [HVL.out] at eb
                subst eb
                have HV9 := Lib.hid (Row.below HVk.out hb9)
                have Hb9 := Lib.hid (Hbw.out.trans (hb9.mono (Nat.le_trans zb zk)))
                clear hb9 Ho9 E8 E12 E13 z p0 p1 p2 p3 HVk
                have hnvp : Cir.nvars d ≤ 22 := by unfold Cir.nvars Cir.nfirst; omega
                go_wp2_with fail
                obtain ⟨W10, hW10⟩ : ∃ W10, W10 = w9 := ⟨_, rfl⟩
                subst hW10
                go_loopw [12] (fun i wr => ∃ j : Nat, i = .int .i64 j ∧ j ≤ Cir.nvars d ∧ Below W10.heap.size W10 wr) (fun i _ => Cir.nvars d - (intOf i).toNat)
                case atStart => exact ⟨0, rfl, Nat.zero_le _, Below.refl _ _⟩
                case round =>
                  obtain ⟨j, rfl, hj, hb⟩ := hrel
                  have Hbj := Lib.hid hb
                  have zj := hb.size
                  clear hb
                  by_cases hlj : j < Cir.nvars d
                  · have hdj : decide (j < Cir.nvars d) = true := decide_eq_true hlj
                    obtain ⟨b, o, t, hA3, hbl, hx0, hs0⟩ := nats_cell (A := A3) (n := Cir.nvars d) (c := c3) (xs := Cir.tvals d st inp) (i := j) (by
                      have := Row.below HV9.out Hbj.out
                      rw [nats_length, HT1.out] at this
                      exact this) HT1.out.symm (by rw [HT1.out]; exact hlj)
                    obtain ⟨u, hu⟩ : ∃ u, (Cir.vals d (Cir.bits xq d.next.length) (Cir.bits x d.ins))[j]? = some u := ⟨_, List.getElem?_eq_getElem (by rw [HVL.out]; exact hlj)⟩
                    obtain ⟨b2, o2, c2, hB, hbl2, hs2⟩ := boolsAt_cell (Row.below HB9.out Hbj.out) hu
                    rw [HVL.out] at hB
                    injection hB with hB1 _ hB2
                    subst hA3 hB1 hB2
                    have htn := HTx.out j t u hx0.out hu
                    have h2 : ((t : Int) != 2) = (t != 2) := by rw [Bool.eq_iff_iff, bne_iff_ne, bne_iff_ne]; omega
                    obtain ⟨p, hp⟩ : ∃ p, (t != 2) = p := ⟨_, rfl⟩
                    rw [hp] at h2
                    have g1 := gw_cell hs0 hbl
                    have g2 := gw_cell hs2 hbl2
                    clear hs0 hs2 hx0 hu
                    cases p
                    · clear htn hp
                      go_wp2_with fail
                      refine wp_region_grow (by kernel_rfl) (by kernel_rfl) ?_
                      repeat (go_big_quiet_step ((fail)))
                      refine wpQuiet_nil ?_
                      intro _ hw'
                      obtain ⟨nq, hw''⟩ := hw'
                      subst hw''
                      have hgq := gw_below nq
                      generalize gw nq = wq at *
                      clear nq
                      have Hbn := Lib.hid (Hbj.out.trans (hgq.mono zj))
                      clear hgq g1 g2
                      go_wp2_with fail
                      go_roundw
                      case rel => exact ⟨j + 1, by go_num, by omega, Hbn.out⟩
                      case measure => simp [intOf]; omega
                    · have htu : t = u.toNat := htn (by simpa using hp)
                      clear htn hp
                      have h1 : ((t : Int) == 1) = u := by rw [htu]; cases u <;> rfl
                      have h3 : (u != u) = false := by cases u <;> rfl
                      clear htu
                      go_wp2_with fail
                      refine wp_region_grow (by kernel_rfl) (by kernel_rfl) ?_
                      repeat (go_big_quiet_step ((fail)))
                      refine wpQuiet_nil ?_
                      intro _ hw'
                      obtain ⟨nq, hw''⟩ := hw'
                      subst hw''
                      have hgq := gw_below nq
                      generalize gw nq = wq at *
                      clear nq
                      have Hbn := Lib.hid (Hbj.out.trans (hgq.mono zj))
                      clear hgq g1 g2
                      go_wp2_with fail
                      go_roundw
                      case rel => exact ⟨j + 1, by go_num, by omega, Hbn.out⟩
                      case measure => simp [intOf]; omega
                  · have hdj : decide (j < Cir.nvars d) = false := decide_eq_false (by omega)
                    have Hbe := Lib.hid (Hb9.out.trans (Hbj.out.mono Hb9.out.size))
                    clear hlj
                    go_wp2_with fail
                    go_roundw
                    case rel => exact ⟨x + 1, by go_num, by omega, Hbe.out⟩
                    case measure => simp [intOf]; omega
        · have hdx : decide (x < M) = false := decide_eq_false (by omega)
          clear hlt
          go_wp2_with fail
          refine (implVarCount_ok _ d _ HCr.out Hd.out Hvd.out).mono ?_
          rintro e w9 ⟨rfl, hb9⟩
          have hee : ((Cir.nvars d : Int) == (Cir.nvars d : Int)) = true := by simp
          have B9 := Lib.hid (B8.out.trans ((Hb.out.trans (hb9.mono zb)).mono B8.out.size))
          clear hb9
          go_wp2_with fail
          go_ret
          exact ⟨rfl, B9.out⟩
  · go_enter Try.func3, Try.ntmps3
    go_wp2_with fail
    go_ret
    exact ⟨rfl, Below.refl _ _⟩

/-! The step from the walk to the row. -/
set_option maxRecDepth 100000 in
theorem lifted (os : Os) (started : os.Started) (H : Type) (enc : TypeId × Value → H) :
    ReturnsInHanded {} Try.checked os 3 .any (Rows.fnTernarySoundSpec.pre6 enc Try.prog Try.f3 Rows.fnTernarySoundRow.domain false) (Rows.fnTernarySoundSpec.post enc Try.prog Try.f3 false true false false) := by
  refine returnsInHanded_of_change (C := Try.checked) own started (by kernel_rfl) Try.func3
    (ChangeSpec.witness6 (enc := enc) (C := Try.checked) false ⟨#[], #[.slice none 0 0], []⟩ 8 (by kernel_rfl) (by kernel_rfl) (by kernel_rfl) (by kernel_rfl)) ?_
  intro W base args ds gs before hval0 hW hcnd _
  have hval : ∀ (j : Nat) t v, Try.f3.params[j]? = some t → args[j]? = some v → Value.okWide Try.prog W .any base t v := hval0
  have hW' := hW
  obtain ⟨p, q, hA0, hV, rfl, hfz, hnd⟩ := hW
  have hA : DataW.TrodAll enc Try.prog W 0 (fun _ => true) true Try.f3.params.toList args.toList ds p := hA0
  rw [Try.params3] at hA hval
  obtain ⟨v0, vs0, d0, ds0, p0, q0, hargs, rfl, rfl, h0, r0⟩ := trodAll_cons hA
  obtain ⟨rfl, rfl, rfl⟩ := trodAll_nil r0
  obtain rfl : args = #[v0] := by cases args; simp_all
  obtain ⟨rfl, rfl⟩ := trodVars_none hV
  obtain ⟨a0, len0, cap0, rfl⟩ := okWide_slice Try.underlying22 (hval 0 22 v0 rfl rfl)
  have k0 := h0
  have lt0 : ∀ x ∈ p0, x.block < W.heap.size := by obtain ⟨m, hm⟩ := k0; exact DataW.trod_lt m _ _ _ hm
  obtain ⟨z0, w0⟩ : ∃ zs, IsRow .u8 W a0 len0 cap0 zs := by
    obtain ⟨fuel, hf⟩ := h0
    rcases open_ints Try.underlying22 Try.underlying5 (by kernel_rfl) hf with ⟨hcs, _⟩ | ⟨x, l, c, zs, hcs, _, hl, hm, hz, _, hcell, hwz⟩
    · simp [Value.cells] at hcs
      obtain ⟨rfl, rfl, rfl⟩ := hcs
      exact ⟨[], .inl ⟨rfl, rfl, rfl, rfl⟩⟩
    · simp [Value.cells] at hcs
      obtain ⟨rfl, rfl, rfl⟩ := hcs
      exact ⟨zs, .inr ⟨_, rfl, hl, hm, by simpa using hz, hcell, hwz⟩⟩
  clear hA0 hval0
  refine (walk a0 len0 cap0 z0 W w0).mono fun e W' ⟨he, bel⟩ => ?_
  subst he
  exact ⟨_, rfl, _, _, _, [], _, [], hW', trodAll_mk1 (shut_bool Try.underlying4 _), (trodAll_cons_mk (Below.trod laidOut (by kernel_rfl) (of_decide_eq_true (by kernel_rfl)) k0 bel lt0) trodAll_mk0), rfl, bel.frame _, fun h => by cases h⟩

theorem over : Rows.fnTernarySoundRow.holds Try.pinned (OpenSpec.ofChange Rows.fnTernarySoundSpec) :=
  OpenClaim.holds_of_wide 3 Try.f3 rfl rfl rfl rfl rfl rfl rfl ⟨rfl, rfl, rfl, rfl, rfl⟩ rfl rfl rfl rfl rfl (by kernel_rfl) Try.func3 (by kernel_rfl)
    (of_decide_eq_true (by kernel_rfl)) (by unfold Func.isWrapper; first | (rw [if_pos (by decide +kernel)]; kernel_rfl) | (rw [if_neg (by decide +kernel)]; exact ⟨rfl, rfl⟩))
    (fun os started H enc _ => lifted os started H enc)

/-- The statement. -/
theorem proved : Rows.FnTernarySoundSaid := over
#print axioms proved
end Go.Proofs.Ytopimdakpnnbhaa.fnTernarySound
