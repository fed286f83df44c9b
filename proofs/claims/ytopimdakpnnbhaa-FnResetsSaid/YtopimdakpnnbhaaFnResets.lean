/-
  FnResets: The program's Resets is the reference's; an initializing sequence leads every state to the same one, and repeated it initializes, too.
  Conditions: none. For every input that the row reads, the Go function laws.FnResets returns true and leaves its arguments as they were.
-/
import Derived.Test.YtopimdakpnnbhaaS13
import Derived.Test.YtopimdakpnnbhaaS05
import Derived.Test.YtopimdakpnnbhaaS02
import Derived.Test.YtopimdakpnnbhaaS10
import Derived.Test.YtopimdakpnnbhaaS06
import Derived.StillTailTactics
import Derived.Test.YtopimdakpnnbhaaRows
import Derived.WalkKit
import Derived.ProofKit
import Derived.OpenShut
import Derived.ShutString
import Derived.ChangeOld
import Derived.Below
set_option linter.unusedVariables false
set_option linter.unusedSimpArgs false
namespace Go.Proofs.Ytopimdakpnnbhaa.fnResets
open Go.ChangeShapes Go.WideShapes Go.ChangeAt Go.RowKit
open Go.ChangeMaps (open_string shut_string)
set_option linter.unusedVariables false

theorem own : ownKnob Try.prog.godebug = none := by kernel_rfl
theorem laidOut : laidOutB Try.prog = true := by kernel_rfl

/-- A slice of integers that came in: nil, or a row of cells. -/
def IsRow (k : IntKind) (w : World) (a : Option Addr) (len cap : Nat) (zs : List Int) : Prop :=
  (a = none ∧ len = 0 ∧ cap = 0 ∧ zs = []) ∨
  ∃ x, a = some x ∧ len ≤ cap ∧ cap ≤ maxLen ∧ zs.length = cap ∧ (∀ i, i < zs.length → w.cell? (x.add i) = some (.int k (zs.getD i 0))) ∧ ∀ n ∈ zs, (Lit.int k n).wf = true

section
variable {P : Program} {w : World} {ops : Array Oper} {o : Oper} {a : Act} {K : Act → World → Prop} {Q : Exit → Act → World → Prop} {E : Prop}
theorem step_append_w (hw : Region.wanted o (yielded ops a.tmps) = true) (s x : Operand) (t : TypeId)
    (ho : o.op = .call { callee := .builtin .append, args := #[s, x], argTypes := #[t, t] })
    (base : Nat) (e : TypeId) (i : TypeInfo) (z : Value) (size bytes : Nat) (ht : P.underlying t = some (.slice e)) (hi : P.info? e = some i) (hz : i.zero = some z)
    (hsize : i.size = size) (hby : i.bytes = bytes) (hzs : z.cells.size = size) (hsz : 0 < size)
    (v : Value) (n : Nat) (xs : List Value) (hs : a.eval s = v) (hown : w.ownsRow base e size v n xs) (sv : Value) (m : Nat) (news : List Value) (hx : a.eval x = sv) (hr : Row w size sv m news) (h1 : ∀ u ∈ news, u.oneCell' = true)
    (h63 : n + m ≤ maxLen) (hbytes : (n + m) * bytes ≤ 140737488355328) (hbase : base ≤ w.heap.size)
    (h : ∀ v' w', w'.ownsRow base e size v' (n + m) (xs ++ news) → w.grownBy w' v.ownBlock → K (a.put o.dst v') w') : if Region.wanted o (yielded ops a.tmps) = true then Oper.wp P o a w K Q else E := by
  rw [if_pos hw]
  obtain ⟨v', w', hrun, h2, h3, h4⟩ := run_append_row_at (P := P) w base t o.type e i z size bytes ht hi hz hsize hby hzs hsz v n xs hown sv m news hr h1 h63 hbytes hbase
  unfold Oper.wp execOp
  simp only [ho, resolve, invoke, builtin, Sem.run_bind, Sem.run_pure, Result.andThen_ok, List.map_toArray, List.map_cons, List.map_nil, hs, hx, hrun]
  exact h v' w' h2 h3
theorem step_call_w (hw : Region.wanted o (yielded ops a.tmps) = true) {f : FuncId} {vs : Array Value} {R : Value → World → Prop} (hrun : (execOp a.eval o).run P w = .ok (.enter f vs) w)
    (hc : Calls P f vs w fun e w' => ∃ v, e = .returned v ∧ R v w') (h : ∀ v w', R v w' → K (a.put o.dst v) w') : if Region.wanted o (yielded ops a.tmps) = true then Oper.wp P o a w K Q else E := by
  rw [if_pos hw]
  unfold Oper.wp
  rw [hrun]
  simp only [Oper.upon]
  exact hc.mono fun e w' ⟨v, he, hr⟩ => by subst he; exact h v w' hr
end
theorem ss_twice {w w' : World} {rss : List (List Bool)} {vs : List Value} {B : Nat} {e : TypeId} {v : Value} {m : Nat} (hl : vs.length = rss.length) (hin : ∀ (i : Nat) (x : List Bool) (u : Value), rss[i]? = some x → vs[i]? = some u → Row w 1 u x.length (bools x)) (hb : Below w.heap.size w w') (hown : w'.ownsRow B e 1 v (0 + rss.length + m) ([] ++ vs ++ vs)) (hm : m = rss.length := by rfl) : SSAt bools w' v (rss ++ rss) := by
  subst hm
  refine ⟨vs ++ vs, by simp [hl], ?_, fun i x u hx hu => ?_⟩
  · have := Row.of_own hown
    rw [List.length_append]
    simpa using this
  · rcases Nat.lt_or_ge i rss.length with h | h
    · rw [List.getElem?_append_left h] at hx
      rw [List.getElem?_append_left (by omega)] at hu
      exact Row.below (hin i x u hx hu) hb
    · rw [List.getElem?_append_right h] at hx
      rw [List.getElem?_append_right (by omega), hl] at hu
      exact Row.below (hin _ x u hx hu) hb
set_option maxHeartbeats 8000000 in
set_option maxRecDepth 100000 in
/-- The walk: the Go text returns true. -/
theorem walk (a0 : Option Addr) (len0 cap0 : Nat) (z0 : List Int) (w : World) (w0 : IsRow .u8 w a0 len0 cap0 z0) :
    Calls Try.prog 9 #[.slice a0 len0 cap0] w fun e w' => e = .returned (.bool true) ∧ Below w.heap.size w w' := by
  obtain ⟨bs, rfl, hwf, hr⟩ := Row.given w0
  clear w0
  by_cases hl : bs.length ≤ 1048576
  · have Hr := Lib.hid hr
    clear hr
    go_enter Try.func9, Try.ntmps9
    go_wp2_with fail
    refine (Hv.drawResets_any _ bs w Hr.out hwf hl).mono ?_
    rintro e w1 ⟨v1, c, vr, rss, rfl, hO, hR, hrl, hb1⟩
    obtain ⟨An, cn, Ag, cg, Ao, co, rfl⟩ := hO.shape
    obtain ⟨Ar, cr, rfl, hcr, hcrm⟩ := hR.shape
    unfold maxLen at hcrm
    have HC1 := Lib.hid hO.at
    have Hb1 := Lib.hid hb1
    have HR := Lib.hid (hR.below (bel_new w1 (.cells #[.int .i64 c.ins, .slice An c.next.length cn, .slice Ag c.gates.length cg, .slice Ao c.outs.length co] 26)))
    clear hO hb1 Hr hwf hR hcr
    go_wp2_with fail
    have hbx := bel_new w1 (.cells #[.int .i64 c.ins, .slice An c.next.length cn, .slice Ag c.gates.length cg, .slice Ao c.outs.length co] 26)
    have PC := Lib.hid (PCells.boxed w1 c.ins (.slice An c.next.length cn) (.slice Ag c.gates.length cg) (.slice Ao c.outs.length co) 26)
    have HC := Lib.hid (HC1.out.below hbx)
    have B := Lib.hid (Hb1.out.trans (hbx.mono Hb1.out.size))
    clear hbx
    generalize w1.alloc (.cells #[.int .i64 c.ins, .slice An c.next.length cn, .slice Ag c.gates.length cg, .slice Ao c.outs.length co] 26) = w2 at *
    obtain ⟨gb, hgb2⟩ : ∃ gb, w1.heap.size = gb := ⟨_, rfl⟩
    rw [hgb2] at PC ⊢
    clear hgb2
    obtain ⟨z, p0, p1, p2, p3⟩ := PC.out
    clear HC1 Hb1
    obtain ⟨ok, hok⟩ : ∃ ok, Cir.resets c rss = ok := ⟨_, rfl⟩
    have Hok := Lib.hid hok
    clear hok
    refine (implResets_any _ _ c rss _ HC.out HR.out).mono ?_
    rintro e w3 ⟨rfl, hb⟩
    rw [Hok.out]
    clear z p0 p1 p2 p3
    replace PC := Lib.hid (PC.out.below hb)
    replace HC := Lib.hid (HC.out.below hb)
    replace HR := Lib.hid (HR.out.below hb)
    replace B := Lib.hid (B.out.trans (hb.mono B.out.size))
    clear hb
    obtain ⟨z, p0, p1, p2, p3⟩ := PC.out
    go_wp2_with fail
    refine (specResets_any _ _ c rss _ HC.out HR.out).mono ?_
    rintro e w4 ⟨rfl, hb⟩
    rw [Hok.out]
    clear z p0 p1 p2 p3
    replace PC := Lib.hid (PC.out.below hb)
    replace HC := Lib.hid (HC.out.below hb)
    replace HR := Lib.hid (HR.out.below hb)
    replace B := Lib.hid (B.out.trans (hb.mono B.out.size))
    clear hb
    obtain ⟨z, p0, p1, p2, p3⟩ := PC.out
    have hoo : (ok != ok) = false := by simp
    cases ok
    · go_wp2_with fail
      refine (alive_any _).mono ?_
      rintro e w8 ⟨rfl, hb⟩
      replace B := Lib.hid (B.out.trans (hb.mono B.out.size))
      clear hb
      go_wp2_with fail
      go_ret
      exact ⟨rfl, B.out⟩
    · have hv : Cir.valid c = true := by
        have h1 := Hok.out
        unfold Cir.resets Cir.rowsOk at h1
        rw [Bool.and_eq_true, Bool.and_eq_true] at h1
        exact h1.1.1
      obtain ⟨hd1, hd2⟩ := Cir.nat_ok hv
      have HRI : Hid (Cir.reachI c = nats (Cir.reach (Cir.nat c))) := Lib.hid (by unfold Cir.reachI; rw [hv]; rfl)
      have Hcn : Hid (c.next.length = (Cir.nat c).next.length) := Lib.hid (by unfold Cir.nat; simp)
      have Hci : Hid (c.ins = ((Cir.nat c).ins : Int)) := Lib.hid (by rw [hd1]; rfl)
      obtain ⟨d, hd⟩ : ∃ d, Cir.nat c = d := ⟨_, rfl⟩
      rw [hd] at HRI Hcn Hci hd1 hd2
      have Hval := Lib.hid hv
      have Hd1 := Lib.hid hd1
      have Hd := Lib.hid hd2
      obtain ⟨hro, hm2⟩ := Cir.resets_parts (c := d) (rss := rss) (by rw [← hd1]; exact Hok.out)
      have hlen : ∀ r ∈ rss, r.length = d.ins := by
        unfold Cir.rowsOk at hro
        rw [Bool.and_eq_true, Bool.and_eq_true, List.all_eq_true] at hro
        intro r hr
        have := hro.2.2 r hr
        unfold Cir.rowOk at this
        rw [decide_eq_true_iff] at this
        have e : (Cir.toCz d).ins = (d.ins : Int) := rfl
        omega
      have Hlen := Lib.hid hlen
      have HSame := Lib.hid (fun (u u' : List Bool) h1 h2 => Cir.resets_same hd2 hlen hm2 (u := u) (u' := u') h1 h2)
      have HTw : Hid (Cir.resets c (rss ++ rss) = true) := Lib.hid (by rw [hd1]; exact Cir.resets_twice hlen (by omega) (by rw [← hd1]; exact Hok.out))
      have l1 := hd2.ins
      have l2 := hd2.nexts
      obtain ⟨N, hN⟩ : ∃ N : Nat, 2 ^ d.next.length = N := ⟨_, rfl⟩
      have hN8 : N ≤ 8 := by rw [← hN]; exact Nat.pow_le_pow_right (show 0 < 2 by decide) l2
      have hN0 : 0 < N := by rw [← hN]; exact Nat.pow_pos (by decide)
      have eN : (2 : Int) ^ d.next.length = (N : Int) := by rw [← hN]; exact two_pow _
      have hwN := IntWalk.i64_in (N : Int) (by omega)
      have HNh := Lib.hid hN
      rw [Hcn.out] at PC p1
      rw [Hci.out] at PC p0
      clear hd1 hd2 hv hd hro hm2 hlen hN hoo p0 p1 p2 p3 z eN hwN
      have hb := bel_new w4 (.cells #[] 4)
      go_wp2_with fail
      replace PC := Lib.hid (PC.out.below hb)
      replace HC := Lib.hid (HC.out.below hb)
      replace HR := Lib.hid (HR.out.below hb)
      replace B := Lib.hid (B.out.trans (hb.mono B.out.size))
      clear hb
      generalize hw5 : w4.alloc (.cells #[] 4) = w5 at *
      clear hw5
      obtain ⟨s0, hs0⟩ : ∃ s0, Cir.bits 0 d.next.length = s0 := ⟨_, rfl⟩
      have Hl0 : Hid (s0.length = d.next.length) := Lib.hid (by rw [← hs0, Cir.bits_length])
      clear hs0
      obtain ⟨F, hF⟩ : ∃ F, Cir.runL d s0 rss = F := ⟨_, rfl⟩
      have HF := Lib.hid hF
      clear hF
      go_loopw [6, 7] (fun vw i wr => ∃ (uw : Value) (k : Nat), uw = vw ∧ i = .int .i64 k ∧ k ≤ N ∧ Hid (k = 0 ∨ BoolsAt wr vw F) ∧ Below w5.heap.size w5 wr) (fun _ i _ => N - (intOf i).toNat)
      case atStart => exact ⟨_, 0, rfl, rfl, Nat.zero_le _, Lib.hid (.inl rfl), Below.refl _ _⟩
      case round =>
        obtain ⟨uw, k, huw, rfl, hk, Huw, hb⟩ := hrel
        subst huw
        have Hb := Lib.hid hb
        have zb := hb.size
        clear hb
        have eN : (2 : Int) ^ d.next.length = (N : Int) := by rw [← HNh.out]; exact two_pow _
        have hwN := IntWalk.i64_in (N : Int) (by omega)
        obtain ⟨z, p0, p1, p2, p3⟩ := PC.out.below Hb.out
        by_cases hkN : k < N
        · have hdk : decide (k < N) = true := decide_eq_true hkN
          go_wp2_with fail
          refine (bits_any k d.next.length _ (by omega) (by omega)).mono ?_
          rintro e w6 ⟨v6, rfl, hown, hb⟩
          have HB0 := Lib.hid (show BoolsAt w6 v6 (Cir.bits k d.next.length) from Row.of_own hown)
          have Hb6 := Lib.hid (Hb.out.trans (hb.mono zb))
          have Huw6 : Hid (k = 0 ∨ BoolsAt w6 uw F) := Lib.hid (Huw.out.elim .inl fun h => .inr (Row.below h hb))
          have z6 := Nat.le_trans zb hb.size
          clear hown hb z p0 p1 p2 p3 Huw Hb
          obtain ⟨s1, hs1⟩ : ∃ s1, Cir.bits k d.next.length = s1 := ⟨_, rfl⟩
          have Hl1 : Hid (s1.length = d.next.length) := Lib.hid (by rw [← hs1, Cir.bits_length])
          rw [hs1] at HB0
          clear hs1
          have HFE : Hid (Cir.runL d s1 rss = F) := Lib.hid (by rw [← HF.out]; exact HSame.out s1 s0 Hl1.out Hl0.out)
          go_wp2_with fail
          obtain ⟨w7, hw7⟩ : ∃ w7, w7 = w6 := ⟨_, rfl⟩
          subst hw7
          go_loopw [8, 9] (fun vl i wr2 => ∃ (ul : Value) (j : Nat), ul = vl ∧ i = .int .i64 j ∧ j ≤ rss.length ∧ Hid (BoolsAt wr2 vl (Cir.runL d s1 (rss.take j))) ∧ Below w7.heap.size w7 wr2) (fun _ i _ => rss.length - (intOf i).toNat)
          case atStart => exact ⟨_, 0, rfl, rfl, Nat.zero_le _, HB0, Below.refl _ _⟩
          case round =>
            obtain ⟨ul, j, hul, rfl, hj, Hul, hb⟩ := hrel
            subst hul
            clear HB0
            have Hj := Lib.hid hb
            have zj := hb.size
            have Hbj := Lib.hid (Hb6.out.trans (hb.mono z6))
            clear hb
            by_cases hlt : j < rss.length
            · have hdj : decide (j < rss.length) = true := decide_eq_true hlt
              obtain ⟨x, hx⟩ := at_some hlt
              obtain ⟨b, o', Bx, mx, hAx, hbl, hc1, hm1, hm2, hrx⟩ := ss_open HR.out Hbj.out hx
              cases hAx
              have Hxl := Lib.hid (Hlen.out x (List.mem_of_getElem? hx))
              have hSn : rss.take (j + 1) = rss.take j ++ [x] := take_snoc hx
              have HN0 : Hid (Cir.runL d s1 (rss.take (j + 1)) = Cir.lits (Cir.vals d (Cir.runL d s1 (rss.take j)) x) d.next) := Lib.hid (by rw [hSn, Cir.runL_snoc])
              have HS0 := Lib.hid (Cir.runL_length d (rss.take j) s1 Hl1.out)
              generalize Cir.runL d s1 (rss.take j) = S0 at *
              have Hrx := Lib.hid (show BoolsAt wr (.slice Bx x.length mx) x from hrx)
              have HCr := Lib.hid (HC.out.below Hbj.out)
              obtain ⟨z, p0, p1, p2, p3⟩ := PC.out.below Hbj.out
              have hbr : b < wr.heap.size := Nat.lt_of_lt_of_le hbl (Nat.le_trans z6 zj)
              clear hrx hx hSn
              obtain ⟨W, hW⟩ : ∃ W, W = wr := ⟨_, rfl⟩
              subst hW
              go_wp2_with fail
              refine wp_region_rs (quietRS Try.prog _ W _) quietRS_ok (by kernel_rfl) (by kernel_rfl) (by kernel_rfl) (Nat.le_of_ble_eq_true rfl) trivial trivial ?_
              apply rs_eq quietRS_ok quiet_any
              · intro ρ w' ho hK
                have ho : Only _ W w' := ho
                obtain ⟨h0, -⟩ := hK
                have h0' : ρ (.tmp 3) = _ := h0
                have hb := only_below ho
                have q0 := (hb.cell (p := ⟨gb, 0, none⟩) z).trans p0
                have q1 := (hb.cell (p := ⟨gb, 1, none⟩) z).trans p1
                have q2 := (hb.cell (p := ⟨gb, 2, none⟩) z).trans p2
                have q3 := (hb.cell (p := ⟨gb, 3, none⟩) z).trans p3
                have q4 := (hb.cell (p := ⟨b, o' + j, none⟩) hbr).trans hc1
                go_simp
                try exact rfl
              refine rs_old quietRS_ok quiet_any _ (.inl rfl) _ rfl rfl ?_
              refine rs_old quietRS_ok quiet_any _ (.inl rfl) _ rfl rfl ?_
              refine rs_old quietRS_ok quiet_any _ (.inl rfl) _ rfl rfl ?_
              apply rs_eq quietRS_ok quiet_any
              · intro ρ w' ho hK
                have ho : Only _ W w' := ho
                obtain ⟨h0, h1, -⟩ := hK
                have h0' : ρ (.tmp 51) = _ := h0
                have h1' : ρ (.tmp 52) = _ := h1
                go_simp
                try exact rfl
              apply rs_eq quietRS_ok quiet_any
              · intro ρ w' ho hK
                have ho : Only _ W w' := ho
                obtain ⟨h0, -⟩ := hK
                have h0' : ρ (.tmp 53) = _ := h0
                have hb := only_below ho
                have q0 := (hb.cell (p := ⟨gb, 0, none⟩) z).trans p0
                have q1 := (hb.cell (p := ⟨gb, 1, none⟩) z).trans p1
                have q2 := (hb.cell (p := ⟨gb, 2, none⟩) z).trans p2
                have q3 := (hb.cell (p := ⟨gb, 3, none⟩) z).trans p3
                have q4 := (hb.cell (p := ⟨b, o' + j, none⟩) hbr).trans hc1
                go_simp
                try exact rfl
              refine rs_call quietRS_ok quiet_any (TStep (Cir.lits (Cir.vals d S0 x) d.outs) (Cir.lits (Cir.vals d S0 x) d.next)) (stb_step _ _) 38 _ _ rfl (fun ρ w' ho hK => by
                have ho : Only _ W w' := ho
                obtain ⟨h0, h1, h2, h3, -⟩ := hK
                have h0' : ρ (.func 38) = .func (.func 38) #[] #[] := h0
                have h1' : ρ (.tmp 49) = _ := h1
                have h2' : ρ (.tmp 50) = _ := h2
                have h3' : ρ (.tmp 54) = _ := h3
                refine ⟨#[ρ (.tmp 49), ρ (.tmp 50), ρ (.tmp 54)], ?_, ?_⟩
                · go_simp
                · rw [h1', h2', h3']
                  refine (implStep_ok _ _ _ d S0 x w' (by rw [← Hd1.out, ← Hci.out, ← Hcn.out]; exact HCr.out.below (only_below ho)) Hd.out (by rw [← Hd1.out]; exact Hval.out) (Row.below Hul.out (only_below ho)) (Row.below Hrx.out (only_below ho)) Hxl.out HS0.out).mono ?_
                  rintro e w2 ⟨⟨x, y, rfl, hx, hy⟩, hb⟩
                  exact ⟨_, rfl, ⟨x, y, rfl, hx, hy⟩, hb⟩) ?_
              refine rs_look quietRS_ok quiet_any (TBools (Cir.lits (Cir.vals d S0 x) d.next)) (stb_bools _) (fun ρ w' ho hK => by
                obtain ⟨h0, -⟩ := hK
                obtain ⟨x0, y0, h0', hx, hy⟩ : (TStep (Cir.lits (Cir.vals d S0 x) d.outs) (Cir.lits (Cir.vals d S0 x) d.next)) w' (ρ (.tmp 55)) := h0
                obtain ⟨A0, c0, e0, -⟩ := Row.shape hx
                obtain ⟨A1, c1, e1, -⟩ := Row.shape hy
                subst e0 e1
                have hf := step_field1 A0 A1 (Cir.lits (Cir.vals d S0 x) d.outs).length (Cir.lits (Cir.vals d S0 x) d.next).length c0 c1 w'
                refine ⟨_, ?_, hy⟩
                go_simp) ?_
              refine rs_same quietRS_ok quiet_any 56 7 (.inr rfl) rfl _ rfl ?_
              intro f w9 k9 hk9 hI9 ht9 hcp9
              have E0 : f 0 = _ := ht9 0 (Nat.le_of_ble_eq_true rfl)
              have E1 : f 1 = _ := ht9 1 (Nat.le_of_ble_eq_true rfl)
              conv at E1 => rhs; whnf
              have E2 : f 2 = _ := ht9 2 (Nat.le_of_ble_eq_true rfl)
              conv at E2 => rhs; whnf
              have E3 : f 3 = _ := ht9 3 (Nat.le_of_ble_eq_true rfl)
              conv at E3 => rhs; whnf
              have E4 : f 4 = _ := ht9 4 (Nat.le_of_ble_eq_true rfl)
              have E5 : f 5 = _ := ht9 5 (Nat.le_of_ble_eq_true rfl)
              have E6 : (TStep (Cir.lits (Cir.vals d S0 x) d.outs) (Cir.lits (Cir.vals d S0 x) d.next)) w9 (f 6) := ht9 6 (Nat.le_of_ble_eq_true rfl)
              have E7 : (TBools (Cir.lits (Cir.vals d S0 x) d.next)) w9 (f 7) := ht9 7 (Nat.le_of_ble_eq_true rfl)
              have E8 : (TBools (Cir.lits (Cir.vals d S0 x) d.next)) w9 (f 8) := ht9 8 (Nat.le_of_ble_eq_true rfl)
              have Ho9 : Only _ W w9 := hI9.2.1
              have C8 : f 8 = f 7 := (hcp9 8 _ 56 7 rfl rfl rfl rfl).2
              simp only [putAll, E0, E1, E2, E3, E4, E5, C8, Nat.zero_add, Nat.reduceAdd, Act.put, List.setIfInBounds_toArray, List.set_cons_succ, List.set_cons_zero]
              clear E0 E1 E2 E3 E4 E5
              clear hI9 ht9 hcp9 hk9
              generalize f 6 = r6 at *
              generalize f 7 = r7 at *
              have hb := only_below Ho9
              have Hvl := Lib.hid (show BoolsAt w9 r7 (Cir.lits (Cir.vals d S0 x) d.next) from E7)
              have Hj9 := Lib.hid (Hj.out.trans (hb.mono zj))
              clear z p0 p1 p2 p3 Ho9 E6 E7 hb hc1 hbr Hul Hj
              go_wp2_with fail
              go_roundw
              case rel => exact ⟨_, j + 1, rfl, by go_num, by omega, Lib.hid (by rw [HN0.out]; exact Hvl.out), Hj9.out⟩
              case measure => simp [intOf] <;> omega
            · obtain rfl : j = rss.length := by omega
              have hdj : decide (rss.length < rss.length) = false := decide_eq_false (by omega)
              rw [List.take_length, HFE.out] at Hul
              have Huw7 : Hid (k = 0 ∨ BoolsAt wr uw F) := Lib.hid (Huw6.out.elim .inl fun h => .inr (Row.below h Hj.out))
              by_cases hk0 : k = 0
              · have hkz : ((k : Int) == 0) = true := by rw [hk0]; rfl
                clear hk0
                go_wp2_with fail
                refine (sameBools_same _ _ F _ Hul.out Hul.out).mono ?_
                rintro e wa ⟨rfl, hb⟩
                have Hba := Lib.hid (Hbj.out.trans (hb.mono Hbj.out.size))
                replace Hul := Lib.hid (Row.below Hul.out hb)
                clear hb
                go_wp2_with fail
                go_roundw
                case rel => exact ⟨_, k + 1, rfl, by go_num, by omega, Lib.hid (.inr Hul.out), Hba.out⟩
                case measure => simp [intOf] <;> omega
              · have hkz : ((k : Int) == 0) = false := by rw [beq_eq_false_iff_ne]; omega
                have HW := Lib.hid (Huw7.out.resolve_left hk0)
                clear hk0
                go_wp2_with fail
                refine (sameBools_same _ _ F _ Hul.out HW.out).mono ?_
                rintro e wa ⟨rfl, hb⟩
                have Hba := Lib.hid (Hbj.out.trans (hb.mono Hbj.out.size))
                replace HW := Lib.hid (Row.below HW.out hb)
                clear hb
                go_wp2_with fail
                go_roundw
                case rel => exact ⟨_, k + 1, rfl, by go_num, by omega, Lib.hid (.inr HW.out), Hba.out⟩
                case measure => simp [intOf] <;> omega
        · obtain rfl : k = N := by omega
          have hdk : decide (k < k) = false := decide_eq_false (by omega)
          replace PC := Lib.hid (PC.out.below Hb.out)
          replace HC := Lib.hid (HC.out.below Hb.out)
          replace HR := Lib.hid (HR.out.below Hb.out)
          replace B := Lib.hid (B.out.trans (Hb.out.mono B.out.size))
          obtain ⟨W, hW⟩ : ∃ W, W = wr := ⟨_, rfl⟩
          subst hW
          obtain ⟨i0, hi0, hz0, hz1, hz2⟩ := info_parts info_bools2
          obtain ⟨vs, hvl, hrow, hin⟩ := HR.out
          have hone : ∀ u ∈ vs, u.oneCell' = true := fun u hu => by
            obtain ⟨i, hi, rfl⟩ := List.mem_iff_getElem.1 hu
            have hr := hin i (rss[i]'(by omega)) _ (List.getElem?_eq_getElem (by omega)) (List.getElem?_eq_getElem hi)
            obtain ⟨A, c', e, -⟩ := Row.shape hr
            rw [e]; rfl
          have Hone := Lib.hid hone
          have Hin := Lib.hid hin
          have Hrow : Hid (∀ w', Below W.heap.size W w' → Row w' 1 (.slice Ar rss.length cr) rss.length vs) := Lib.hid fun w' hb => Row.below hrow hb
          have HCb := Lib.hid (fun w' (hb : Below W.heap.size W w') => HC.out.below hb)
          have hown0 := World.ownsRow_lit (base := W.heap.size) (e := 32) (size := 1) W.drew #[] 0 (Nat.le_refl _) (by unfold maxLen; omega) rfl
          have Hown0 : Hid ((W.drew.alloc (.cells #[] 32)).ownsRow W.heap.size 32 1 (.slice (some ⟨W.heap.size, 0, none⟩) 0 0) 0 []) := Lib.hid hown0
          have hb0 : Below W.heap.size W (W.drew.alloc (.cells #[] 32)) := ((Below.refl W.heap.size W).drew).alloc (Nat.le_refl _) _
          have HB0 := Lib.hid hb0
          have KP : Hid (∀ w', Below W.heap.size W w' → PCells w' gb d.ins (.slice An d.next.length cn) (.slice Ag c.gates.length cg) (.slice Ao c.outs.length co)) := Lib.hid fun w' hb => PC.out.below hb
          have hw2 : IntKind.i64.wrap (2 * (rss.length : Int)) = 2 * (rss.length : Int) := IntWalk.i64_in _ (by omega)
          have h40 : decide ((40 : Int) < 2 * (rss.length : Int)) = false := decide_eq_false (by omega)
          have hk1 := KP.out _ (Below.refl W.heap.size W).drew
          have hk2 := KP.out _ HB0.out
          obtain ⟨y0, y1, y2, y3, y4⟩ := hk1
          obtain ⟨x0, x1, x2, x3, x4⟩ := hk2
          clear hrow hin hone hown0 hb0 Huw
          obtain ⟨z, p0, p1, p2, p3⟩ := PC.out
          go_wp2_with fail
          clear z p0 p1 p2 p3 eN hwN
          go_region_law (first
            | (refine step_append_w (by simp [Region.wanted, yielded, Act.put]) (.tmp 70) (.tmp 71) 56 rfl W.heap.size 32 i0 _ 1 24 Try.underlying56 hi0 hz0 hz1 hz2 rfl (by decide) (.slice (some ⟨W.heap.size, 0, none⟩) 0 0) 0 [] (by simp [Act.eval, Act.put]) Hown0.out (.slice Ar rss.length cr) rss.length vs (by simp [Act.eval, Act.put]) (Hrow.out _ HB0.out) Hone.out (by unfold maxLen; omega) (by omega) (by simp) ?_; intro v1 w1 hown1 hg1; have hb1 := HB0.out.grown hg1 HB0.out.size (own_ge0 Hown0.out); obtain ⟨u0, u1, u2, u3, u4⟩ := KP.out _ hb1)
            | (refine step_append_w (by simp [Region.wanted, yielded, Act.put]) (.tmp 72) (.tmp 73) 56 rfl W.heap.size 32 i0 _ 1 24 Try.underlying56 hi0 hz0 hz1 hz2 rfl (by decide) v1 (0 + rss.length) ([] ++ vs) (by simp [Act.eval, Act.put]) hown1 (.slice Ar rss.length cr) rss.length vs (by simp [Act.eval, Act.put]) (Hrow.out _ hb1) Hone.out (by unfold maxLen; omega) (by omega) hb1.size ?_; intro v2 w2 hown2 hg2; have hb2 := hb1.grown hg2 hb1.size (own_ge0 hown1); obtain ⟨t0, t1, t2, t3, t4⟩ := KP.out _ hb2)
            | (refine step_call_w (by simp [Region.wanted, yielded, Act.put]) (f := 45) (vs := #[.agg #[.int .i64 d.ins, .slice An d.next.length cn, .slice Ag c.gates.length cg, .slice Ao c.outs.length co], v2]) (R := fun v w' => v = .bool true ∧ Below w2.heap.size w2 w') (by go_simp) ((implResets_any _ _ c (rss ++ rss) w2 (by rw [← Hci.out, ← Hcn.out]; exact HCb.out _ hb2) (ss_twice hvl Hin.out hb2 hown2)).mono (fun e w' he => ⟨_, he.1, by rw [HTw.out], he.2⟩)) ?_; rintro v3 w3 ⟨rfl, hb3⟩))
          all_goals
            replace B := Lib.hid (B.out.trans ((hb2.trans (hb3.mono hb2.size)).mono B.out.size))
            clear hown1 hown2 hg1 hg2 hb1 hb2 hb3
            go_wp2_with fail
            go_ret
            exact ⟨rfl, B.out⟩
  · go_enter Try.func9, Try.ntmps9
    go_wp2_with fail
    go_ret
    exact ⟨rfl, Below.refl _ _⟩

/-! The step from the walk to the row. -/
set_option maxRecDepth 100000 in
theorem lifted (os : Os) (started : os.Started) (H : Type) (enc : TypeId × Value → H) :
    ReturnsInHanded {} Try.checked os 9 .any (Rows.fnResetsSpec.pre6 enc Try.prog Try.f9 Rows.fnResetsRow.domain false) (Rows.fnResetsSpec.post enc Try.prog Try.f9 false true false false) := by
  refine returnsInHanded_of_change (C := Try.checked) own started (by kernel_rfl) Try.func9
    (ChangeSpec.witness6 (enc := enc) (C := Try.checked) false ⟨#[], #[.slice none 0 0], []⟩ 8 (by kernel_rfl) (by kernel_rfl) (by kernel_rfl) (by kernel_rfl)) ?_
  intro W base args ds gs before hval0 hW hcnd _
  have hval : ∀ (j : Nat) t v, Try.f9.params[j]? = some t → args[j]? = some v → Value.okWide Try.prog W .any base t v := hval0
  have hW' := hW
  obtain ⟨p, q, hA0, hV, rfl, hfz, hnd⟩ := hW
  have hA : DataW.TrodAll enc Try.prog W 0 (fun _ => true) true Try.f9.params.toList args.toList ds p := hA0
  rw [Try.params9] at hA hval
  obtain ⟨v0, vs0, d0, ds0, p0, q0, hargs, rfl, rfl, h0, r0⟩ := trodAll_cons hA
  obtain ⟨rfl, rfl, rfl⟩ := trodAll_nil r0
  obtain rfl : args = #[v0] := by cases args; simp_all
  obtain ⟨rfl, rfl⟩ := trodVars_none hV
  obtain ⟨a0, len0, cap0, rfl⟩ := okWide_slice Try.underlying22 (hval 0 22 v0 rfl rfl)
  have k0 := h0
  have lt0 : ∀ x ∈ p0, x.block < W.heap.size := by obtain ⟨m, hm⟩ := k0; exact DataW.trod_lt m _ _ _ hm
  obtain ⟨z0, w0⟩ : ∃ zs, IsRow .u8 W a0 len0 cap0 zs := by
    obtain ⟨fuel, hf⟩ := h0
    rcases open_ints Try.underlying22 Try.underlying5 (by kernel_rfl) hf with ⟨hcs, _⟩ | ⟨x, l, c, zs, hcs, _, hl, hm, hz, _, hcell, hwz⟩
    · simp [Value.cells] at hcs
      obtain ⟨rfl, rfl, rfl⟩ := hcs
      exact ⟨[], .inl ⟨rfl, rfl, rfl, rfl⟩⟩
    · simp [Value.cells] at hcs
      obtain ⟨rfl, rfl, rfl⟩ := hcs
      exact ⟨zs, .inr ⟨_, rfl, hl, hm, by simpa using hz, hcell, hwz⟩⟩
  clear hA0 hval0
  refine (walk a0 len0 cap0 z0 W w0).mono fun e W' ⟨he, bel⟩ => ?_
  subst he
  exact ⟨_, rfl, _, _, _, [], _, [], hW', trodAll_mk1 (shut_bool Try.underlying4 _), (trodAll_cons_mk (Below.trod laidOut (by kernel_rfl) (of_decide_eq_true (by kernel_rfl)) k0 bel lt0) trodAll_mk0), rfl, bel.frame _, fun h => by cases h⟩

theorem over : Rows.fnResetsRow.holds Try.pinned (OpenSpec.ofChange Rows.fnResetsSpec) :=
  OpenClaim.holds_of_wide 9 Try.f9 rfl rfl rfl rfl rfl rfl rfl ⟨rfl, rfl, rfl, rfl, rfl⟩ rfl rfl rfl rfl rfl (by kernel_rfl) Try.func9 (by kernel_rfl)
    (of_decide_eq_true (by kernel_rfl)) (by unfold Func.isWrapper; first | (rw [if_pos (by decide +kernel)]; kernel_rfl) | (rw [if_neg (by decide +kernel)]; exact ⟨rfl, rfl⟩))
    (fun os started H enc _ => lifted os started H enc)

/-- The statement. -/
theorem proved : Rows.FnResetsSaid := over
#print axioms proved
end Go.Proofs.Ytopimdakpnnbhaa.fnResets
