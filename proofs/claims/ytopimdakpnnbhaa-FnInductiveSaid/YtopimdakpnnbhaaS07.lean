import Derived.Test.YtopimdakpnnbhaaS04
import Derived.Test.YtopimdakpnnbhaaS02
set_option linter.unusedVariables false
set_option linter.unusedSimpArgs false
namespace Go.Proofs.Ytopimdakpnnbhaa
open Go.RowKit
set_option maxRecDepth 100000
/-! Draws that end in a region which loads a circuit, draws more and stores the result. -/
@[reducible] def rdStepRS (Pg : Program) (ops : Array Oper) (R P : Nat) (w : World) (a : Act) (k : Nat) (R0 R1 : World → Prop) (d : Nat) : RS :=
  { P := Pg, ops := ops, E := fun g => g = R ∨ g = k, F := (· = R), rd := some (R, P), w0 := w, J := JStep R0 R1, d := d, a0 := a }
theorem rdStepRS_ok {Pg : Program} {ops : Array Oper} {R P : Nat} {w : World} {a : Act} {k : Nat} {R0 R1 : World → Prop} {d : Nat} (hR : R < w.heap.size) (hk : k < w.heap.size) (h0 : ∀ w1 w2, R0 w1 → Only (· = R) w1 w2 → R0 w2) (h1 : ∀ w1 w2, R1 w1 → Only (· = R) w1 w2 → R1 w2) : (rdStepRS Pg ops R P w a k R0 R1 d).Ok :=
  ⟨fun _ h => .inl h, fun ov w1 w2 hj ho => by
    cases ov with
    | none => exact h0 _ _ hj ho
    | some v => exact h1 _ _ hj ho,
    fun _ _ e => by cases e; exact ⟨rfl, hR⟩, fun g hg => by
      rcases hg with rfl | rfl
      · exact hR
      · exact hk⟩
section
variable {S : RS} {Fin : List Ty → Prop} {o : Oper} {l : List Oper} {i : Nat} {τs : List Ty}
theorem rs_doR (hd : i = S.d) {R0 R1 : World → Prop} (hJ : S.J = JStep R0 R1) (R P : Nat) (hrd : S.rd = some (R, P))
    (h : ∀ ρ w, Only S.E S.w0 w → R0 w → Known S.ops (tys τs) S.a0 ρ w i o.op.operands.toList → ∃ w', (execOp ρ o).run S.P w = .ok .skip w' ∧ R1 w' ∧ Only S.E w w' ∧ ∀ Q, Rd w R Q → Rd w' R Q)
    (rest : RSeq S Fin l (i + 1) (TAny :: τs)) : RSeq S Fin (o :: l) i τs := by
  intro _
  refine ⟨TAny, stb_any _, fun k ov ρ w hk hI hov hK => ?_, rest⟩
  obtain rfl := hov (by rw [hd]; exact ancB_self _ _ _)
  have h0 : R0 w := by have := hI.2.2; rw [hJ] at this; exact this
  obtain ⟨w', hrun, h1, hon, hrr⟩ := h ρ w hI.2.1 h0 hK
  unfold Good
  rw [hrun]
  refine ⟨trivial, ⟨?_, hI.2.1.trans hon, ?_⟩, hon⟩
  · have hr' := hI.1
    rw [hrd] at hr' ⊢
    have hr'' : Rd w R (P + 40 * k) := hr'
    exact (hrr _ hr'').more (by omega)
  · rw [if_pos hd, hJ]
    exact h1
/-- A call that draws. -/
theorem rs_drawcall (hO : S.Ok) (hid : i ≠ S.d ∨ ∀ ov w, S.J ov w) (T : Ty) (hT : Stb S.E T) (f : FuncId) (args : Array Operand) (at_ : Array TypeId) (ho : o.op = .call { callee := .value (.func f), args := args, argTypes := at_ }) (R P : Nat) (hrd : S.rd = some (R, P))
    (h : ∀ k ρ w, k < S.ops.size → Rd w R (P + 40 * k) → Only S.E S.w0 w → Known S.ops (tys τs) S.a0 ρ w i (.func f :: args.toList) → ∃ vs, (execOp ρ o).run S.P w = .ok (.enter f vs) w ∧ Calls S.P f vs w fun e w' => ∃ v, e = .returned v ∧ T w' v ∧ Rd w' R (P + 40 * k + 40) ∧ w.grownBy w' (some R))
    (rest : RSeq S Fin l (i + 1) (T :: τs)) : RSeq S Fin (o :: l) i τs := by
  refine rs_plain hO hid T hT (fun k ρ w hk hr hon hK => ?_) rest
  have he : o.op.operands.toList = .func f :: args.toList := by rw [ho]; simp [Op.operands, Call.operands]
  rw [he] at hK
  rw [hrd] at hr
  obtain ⟨vs, h1, h2⟩ := h k ρ w hk hr hon hK
  unfold Good
  rw [h1]
  refine h2.mono ?_
  rintro e w' ⟨v, rfl, h3, h4, h5⟩
  refine ⟨h3, by rw [hrd]; exact h4.more (by omega), Only.grown h5 fun q hq => ?_⟩
  cases hq
  exact (hO.reader R P hrd).1
end
theorem blk_only {E : Nat → Prop} {w w' : World} {k : Nat} {o : Obj} (h : w.heap[k]? = some o) (ho : Only E w w') (hE : ¬ E k) : w'.heap[k]? = some o := (ho.block k (blk_lt h) hE).trans h
theorem setR_box {w : World} {k : Nat} {x0 x1 x2 x3 a b c d : Value} {t : TypeId} (h : w.heap[k]? = some (.cells #[x0, x1, x2, x3] t (0, 0))) : (setR w k a b c d).heap[k]? = some (.cells #[a, b, c, d] t (0, 0)) := by
  have h1 := heap_setCell_same w k 0 _ _ a h
  have h2 := heap_setCell_same _ k 1 _ _ b h1
  have h3 := heap_setCell_same _ k 2 _ _ c h2
  exact heap_setCell_same _ k 3 _ _ d h3
theorem setR_only {E : Nat → Prop} {w : World} {k : Nat} {a b c d : Value} (hE : E k) : Only E w (setR w k a b c d) :=
  (((Only.grown (set_grown w k 0 a) fun _ h => (Option.some.inj h) ▸ hE).trans (Only.grown (set_grown _ k 1 b) fun _ h => (Option.some.inj h) ▸ hE)).trans (Only.grown (set_grown _ k 2 c) fun _ h => (Option.some.inj h) ▸ hE)).trans (Only.grown (set_grown _ k 3 d) fun _ h => (Option.some.inj h) ▸ hE)
theorem rd_only_k {w w' : World} {R Q k : Nat} (h : Rd w R Q) (hne : ∀ o x, w.cell? ⟨k, o, none⟩ ≠ some (.int .u8 x)) (hk : k ≠ R) (ho : Only (· = k) w w') : Rd w' R Q := by
  obtain ⟨A, c, p, bs, hh, hp, h1, h2, h3, h4⟩ := h
  refine ⟨A, c, p, bs, (ho.block R (blk_lt hh) (fun e => hk e.symm)).trans hh, hp, h1, h2, h3, fun h0 => ?_⟩
  obtain ⟨b, o, rfl, hb, hc⟩ := h4 h0
  have hbk : b ≠ k := by
    rintro rfl
    obtain ⟨x, hx⟩ : ∃ x, bs[0]? = some x := ⟨bs[0], List.getElem?_eq_getElem h0⟩
    exact hne _ _ (hc 0 x hx).1
  refine ⟨b, o, rfl, hb, fun i' x hx => ?_⟩
  obtain ⟨hc1, hc2⟩ := hc i' x hx
  exact ⟨(World.cell?_of_block (a := ⟨b, o + i', none⟩) (ho.block b (Nat.lt_trans hb (blk_lt hh)) hbk)).trans hc1, hc2⟩
theorem zero_no {w : World} {k : Nat} {t : TypeId} (h : w.heap[k]? = some (.cells #[.int .i64 0, .slice none 0 0, .slice none 0 0, .slice none 0 0] t (0, 0))) : ∀ o x, w.cell? ⟨k, o, none⟩ ≠ some (.int .u8 x) := fun o x e => by
  rw [blk_cell h] at e
  match o, e with
  | 0, e => simp at e
  | 1, e => simp at e
  | 2, e => simp at e
  | 3, e => simp at e
  | o + 4, e => simp at e
def DrawnFindViolation (w : World) (e : Ending) (w' : World) : Prop := ∃ v c, ∃ o : Int, e = .returned (.tuple #[v, .int .i64 o]) ∧ OwnC w.heap.size v c w' ∧ Small c ∧ -1 ≤ o ∧ o ≤ 7 ∧ Below w.heap.size w w'
set_option maxHeartbeats 8000000 in
theorem drawFindViolation_any (v : Value) (bs : List Int) (w : World) (h : Row w 1 v bs.length (bs.map (Value.int .u8))) (hb : ∀ x ∈ bs, (Lit.int .u8 x).wf = true) (hl : bs.length ≤ 1048576) :
    Calls Try.prog 48 #[v] w (DrawnFindViolation w) := by
  have H := Lib.hid h
  clear h
  have hX := heap_alloc_new w (.cells #[.int .i64 0, .slice none 0 0, .slice none 0 0, .slice none 0 0] 26)
  have HB0 := Lib.hid (bel_new w (.cells #[.int .i64 0, .slice none 0 0, .slice none 0 0, .slice none 0 0] 26))
  have hs : (w.alloc (.cells #[.int .i64 0, .slice none 0 0, .slice none 0 0, .slice none 0 0] 26)).heap.size = w.heap.size + 1 := by simp
  have HX := Lib.hid hX
  clear hX
  go_enter Try.func48, Try.ntmps48
  go_wp2_with fail
  have H0 := Lib.hid (H.out.alloc (.cells #[.int .i64 0, .slice none 0 0, .slice none 0 0, .slice none 0 0] 26))
  generalize w.alloc (.cells #[.int .i64 0, .slice none 0 0, .slice none 0 0, .slice none 0 0] 26) = W at *
  refine (open_any _ bs _ H0.out hb hl).mono ?_
  rintro e w1 ⟨rfl, hr1, hb1⟩
  rw [hs] at hr1
  have HZ1 := Lib.hid hr1.lt
  have Hr1 := Lib.hid hr1
  have Hb1 := Lib.hid (HB0.out.trans (hb1.mono HB0.out.size))
  have HX1 := Lib.hid ((hb1.block _ (by omega)).trans HX.out)
  clear hr1 hb1 HX HB0 H H0 hb hl
  go_wp2_with fail
  refine (l20Circuit_any _ 0 12 _ Hr1.out (by omega) (by omega) (by omega)).mono ?_
  rintro e w2 ⟨v2, c, rfl, hO, hS, hr2, hg2⟩
  have HX2 := Lib.hid (res_grown HX1.out hg2 (fun e => by have := Option.some.inj e; omega))
  have Hb2 := Lib.hid (Hb1.out.grown hg2 Hb1.out.size (fun k hk => by have := Option.some.inj hk; omega))
  have HO := Lib.hid hO
  have HS := Lib.hid hS
  obtain ⟨An, cn, Ag, cg, Ao, co, rfl⟩ := hO.shape
  obtain ⟨s1, s2, s3, s4, s5, -⟩ := hS
  have Hr2 := Lib.hid hr2
  have HZ2 := Lib.hid hg2.size
  clear hr2 hg2 hO HX1 Hb1 Hr1
  go_wp2_with fail
  have hb3 := bel_new w2 (.cells #[.int .i64 c.ins, .slice An c.next.length cn, .slice Ag c.gates.length cg, .slice Ao c.outs.length co] 26)
  have HO3 := Lib.hid (HO.out.only (E := fun _ => False) (Only.of_below _ hb3) fun _ _ e => e)
  have HX3 := Lib.hid ((hb3.block _ (blk_lt HX2.out)).trans HX2.out)
  have Hr3 := Lib.hid (Hr2.out.alloc (.cells #[.int .i64 c.ins, .slice An c.next.length cn, .slice Ag c.gates.length cg, .slice Ao c.outs.length co] 26))
  have Hb3 := Lib.hid (Hb2.out.trans (hb3.mono Hb2.out.size))
  have HM3 := Lib.hid (heap_alloc_new w2 (.cells #[.int .i64 c.ins, .slice An c.next.length cn, .slice Ag c.gates.length cg, .slice Ao c.outs.length co] 26))
  have z3 : w2.heap.size < (w2.alloc (.cells #[.int .i64 c.ins, .slice An c.next.length cn, .slice Ag c.gates.length cg, .slice Ao c.outs.length co] 26)).heap.size := by simp
  obtain ⟨gm, hgm⟩ : ∃ gm, w2.heap.size = gm := ⟨_, rfl⟩
  rw [hgm] at HM3 HZ2 z3 ⊢
  clear HO HX2 Hr2 Hb2 hb3 hgm
  generalize w2.alloc (.cells #[.int .i64 c.ins, .slice An c.next.length cn, .slice Ag c.gates.length cg, .slice Ao c.outs.length co] 26) = w3 at *
  have hgm2 : w.heap.size + 1 < gm := Nat.lt_of_lt_of_le HZ1.out HZ2.out
  have hneM : ¬ (gm = w.heap.size + 1 ∨ gm = w.heap.size) := by omega
  have f0 := blk_cell HM3.out 0
  have f1 := blk_cell HM3.out 1
  have f2 := blk_cell HM3.out 2
  have f3 := blk_cell HM3.out 3
  simp at f0 f1 f2 f3
  have hO := fun ops a => rdStepRS_ok (Pg := Try.prog) (ops := ops) (P := 0 + 10000) (a := a) (R0 := fun w' => w'.heap[w.heap.size]? = some (.cells #[.int .i64 0, .slice none 0 0, .slice none 0 0, .slice none 0 0] 26 (0, 0))) (R1 := fun w' => w'.heap[w.heap.size]? = some (.cells #[.int .i64 c.ins, .slice An c.next.length cn, .slice Ag c.gates.length cg, .slice Ao c.outs.length co] 26 (0, 0))) (d := 8) Hr3.out.lt (blk_lt HX3.out) (fun w1 w2 h ho => blk_only h ho (by omega)) (fun w1 w2 h ho => blk_only h ho (by omega))
  refine wp_region_rs (rdStepRS Try.prog _ (w.heap.size + 1) (0 + 10000) w3 _ w.heap.size _ _ 8) (hO _ _) (by kernel_rfl) (by kernel_rfl) (by kernel_rfl) (Nat.le_of_ble_eq_true rfl) Hr3.out HX3.out ?_
  apply rs_eq (hO _ _) (.inl (Nat.ne_of_beq_eq_false rfl))
  · intro ρ w' ho hK
    obtain ⟨h0, -⟩ := hK
    have h0' : ρ (.tmp 5) = .pointer (some ⟨gm, 0, none⟩) := h0
    have q0 := cell_on ho hneM z3 f0
    have q1 := cell_on ho hneM z3 f1
    have q2 := cell_on ho hneM z3 f2
    have q3 := cell_on ho hneM z3 f3
    go_simp
    try exact rfl
  refine rs_old (hO _ _) (.inl (Nat.ne_of_beq_eq_false rfl)) _ (.inl rfl) _ rfl rfl ?_
  apply rs_eq (hO _ _) (.inl (Nat.ne_of_beq_eq_false rfl))
  · intro ρ w' ho hK
    obtain ⟨h0, -⟩ := hK
    have h0' : ρ (.tmp 5) = .pointer (some ⟨gm, 0, none⟩) := h0
    go_simp
    try exact rfl
  apply rs_eq (hO _ _) (.inl (Nat.ne_of_beq_eq_false rfl))
  · intro ρ w' ho hK
    obtain ⟨h0, -⟩ := hK
    have h0' : ρ (.tmp 12) = .pointer (some ⟨gm, 3, none⟩) := h0
    have q3 := cell_on ho hneM z3 f3
    go_simp
    try exact rfl
  apply rs_eq (hO _ _) (.inl (Nat.ne_of_beq_eq_false rfl))
  · intro ρ w' ho hK
    obtain ⟨h0, -⟩ := hK
    have h0' : ρ (.tmp 13) = .slice Ao c.outs.length co := h0
    go_simp
    try exact rfl
  apply rs_eq (hO _ _) (.inl (Nat.ne_of_beq_eq_false rfl))
  · intro ρ w' ho hK
    obtain ⟨h0, h1, -⟩ := hK
    have h0' : ρ (.tmp 14) = .int .i64 c.outs.length := h0
    have h1' : ρ (.const (.int .i64 2)) = .int .i64 2 := h1
    have hwr := IntWalk.i64_in ((c.outs.length : Int) + 2) (by omega)
    go_simp
    try exact rfl
  refine rs_pick (hO _ _) (.inl (Nat.ne_of_beq_eq_false rfl)) 83 _ _ _ (w.heap.size + 1) (0 + 10000) 8 rfl rfl fn_draw (fun ρ w hK => ⟨hK.1, hK.2.1, (c.outs.length : Int) + 2, hK.2.2.1, by omega, by omega⟩) (fun n k w hk h1n hn hr => pick_upto n 8 _ _ w hr (by have hk' : k < 10 := hk; omega) h1n hn (by omega)) ?_
  refine rs_pure (hO _ _) (.inl (Nat.ne_of_beq_eq_false rfl)) (TInt (-1) 7) (stb_int _ _ _) (fun ρ w hK => by
    obtain ⟨⟨q, h0, h1, h2⟩, h3, -⟩ := hK
    have h0' : ρ (.tmp 16) = .int .i64 q := h0
    have h2' : q ≤ 8 := h2
    have h3' : ρ (.const (.int .i64 1)) = .int .i64 1 := h3
    have hwr := IntWalk.i64_in (q - 1) (by omega)
    refine ⟨.int .i64 (q - 1), ?_, _, rfl, by omega, by omega⟩
    go_simp) ?_
  refine rs_doR rfl rfl (w.heap.size + 1) (0 + 10000) rfl (fun ρ w' ho h0 hK => by
    obtain ⟨h1, h2, -⟩ := hK
    have h1' : ρ (.tmp 2) = .pointer (some ⟨w.heap.size, 0, none⟩) := h1
    have h2' : ρ (.tmp 10) = .agg #[.int .i64 c.ins, .slice An c.next.length cn, .slice Ag c.gates.length cg, .slice Ao c.outs.length co] := h2
    have h0' : w'.heap[w.heap.size]? = some (.cells #[.int .i64 0, .slice none 0 0, .slice none 0 0, .slice none 0 0] 26 (0, 0)) := h0
    have o0 := blk_cell h0' 0
    have o1 := blk_cell h0' 1
    have o2 := blk_cell h0' 2
    have o3 := blk_cell h0' 3
    have b0 := blk_free h0' 0
    have b1 := blk_free h0' 1
    have b2 := blk_free h0' 2
    have b3 := blk_free h0' 3
    have zr := blk_lt h0'
    simp at o0 o1 o2 o3
    refine ⟨setR w' w.heap.size (.int .i64 c.ins) (.slice An c.next.length cn) (.slice Ag c.gates.length cg) (.slice Ao c.outs.length co), ?_, setR_box h0', setR_only (.inr rfl), fun Q hQ => rd_only_k hQ (zero_no h0') (by omega) (setR_only rfl)⟩
    unfold setR
    go_simp) ?_
  refine rs_same (hO _ _) (.inl (Nat.ne_of_beq_eq_false rfl)) 17 7 (.inr rfl) rfl _ rfl ?_
  intro f w9 k9 hk9 hI9 ht9 hcp9
  have E0 : f 0 = _ := ht9 0 (Nat.le_of_ble_eq_true rfl)
  have E1 : f 1 = _ := ht9 1 (Nat.le_of_ble_eq_true rfl)
  have E2 : f 2 = _ := ht9 2 (Nat.le_of_ble_eq_true rfl)
  have E3 : f 3 = _ := ht9 3 (Nat.le_of_ble_eq_true rfl)
  have E4 : f 4 = _ := ht9 4 (Nat.le_of_ble_eq_true rfl)
  have E5 : f 5 = _ := ht9 5 (Nat.le_of_ble_eq_true rfl)
  obtain ⟨x, hx, hx1, hx2⟩ : (TInt (-1) 7) w9 (f 7) := ht9 7 (Nat.le_of_ble_eq_true rfl)
  have C9 : f 9 = f 7 := (hcp9 9 _ 17 7 rfl rfl rfl rfl).2
  have HE9 : Only (fun g => g = w.heap.size + 1 ∨ g = w.heap.size) w3 w9 := hI9.2.1
  have HR9 : w9.heap[w.heap.size]? = some (.cells #[.int .i64 c.ins, .slice An c.next.length cn, .slice Ag c.gates.length cg, .slice Ao c.outs.length co] 26 (0, 0)) := hI9.2.2
  simp only [putAll, E0, E1, E2, E3, E4, E5, C9, hx, Nat.zero_add, Nat.reduceAdd, Act.put, List.setIfInBounds_toArray, List.set_cons_succ, List.set_cons_zero]
  clear E0 E1 E2 E3 E4 E5 hI9 ht9 hcp9 hk9 hO
  clear C9 hx
  generalize f 6 = r6, f 8 = r8 at *
  have o0 := blk_cell HR9 0
  have o1 := blk_cell HR9 1
  have o2 := blk_cell HR9 2
  have o3 := blk_cell HR9 3
  have zr := blk_lt HR9
  simp at o0 o1 o2 o3
  have HOF := Lib.hid ((HO3.out.only HE9 (fun g hg => by have := HZ1.out; omega)).mono (show w.heap.size ≤ w1.heap.size by have := HZ1.out; omega))
  have HBF := Lib.hid (Only.below Hb3.out HE9 (Nat.le_trans Hb3.out.size (Nat.le_refl _)) (fun g hg => by omega))
  clear HE9 HR9 HO3 HX3 Hr3 Hb3 HM3 f0 f1 f2 f3
  go_wp2_with fail
  refine bodyPost_ret (v := .tuple #[.agg #[.int .i64 c.ins, .slice An c.next.length cn, .slice Ag c.gates.length cg, .slice Ao c.outs.length co], .int .i64 x]) (by simp [results, Try.results48, go_sem, o0, o1, o2, o3]) rfl ⟨_, c, x, rfl, HOF.out, HS.out, by omega, by omega, HBF.out⟩
end Go.Proofs.Ytopimdakpnnbhaa

namespace Go.Proofs.Ytopimdakpnnbhaa
open Go.RowKit
set_option maxRecDepth 100000
/-! Drawn lists. -/
def DrewInts (R P : Nat) (w : World) (e : Ending) (w' : World) : Prop := ∃ v xs, e = .returned v ∧ w'.ownsRow w.heap.size 3 1 v xs.length (ints xs) ∧ xs.length ≤ 9 ∧ Rd w' R (P + 20) ∧ w.grownBy w' (some R)
set_option maxHeartbeats 8000000 in
theorem l20Terns_any (R P many : Nat) (n : Int) (w : World) (h : Rd w R P) (hP : P ≤ 900000) (hm : many ≤ 8) (h0 : 0 ≤ n) (h1 : n ≤ 1000) :
    Calls Try.prog 63 #[.pointer (some ⟨R, 0, none⟩), .int .i64 many, .int .i64 n] w (DrewInts R P w) := by
  have Hr := Lib.hid h
  have zR := h.lt
  have HO0 := Lib.hid (only_alloc (Only.refl (· = R) w) (.cells #[] 3))
  have HL0 := Lib.hid (World.ownsRow_lit (base := w.heap.size) (e := 3) (size := 1) w #[] 0 (Nat.le_refl _) (by unfold maxLen; omega) rfl)
  clear h
  go_enter Try.func63, Try.ntmps63
  go_wp2_with fail
  go_loopw [7, 8] (fun v i wr => ∃ (vv : Value) (k : Nat) (xs : List Int), vv = v ∧ i = .int .i64 k ∧ k ≤ many ∧ xs.length = k ∧ Hid (wr.ownsRow w.heap.size 3 1 v k (ints xs)) ∧ Hid (Rd wr R (P + k)) ∧ Hid (Only (· = R) w wr)) (fun _ i _ => many - (intOf i).toNat)
  case atStart => exact ⟨_, 0, [], rfl, rfl, Nat.zero_le _, rfl, HL0, Lib.hid (Hr.out.alloc _), HO0⟩
  case round =>
    obtain ⟨vv, k, xs, hvv, rfl, hk, hxl, Ho, Hr2, HO⟩ := hrel
    subst hvv
    have Hxl := Lib.hid hxl
    clear HO0 HL0 Hr hxl
    by_cases hlt : k < many
    · have hdk : decide (k < many) = true := decide_eq_true hlt
      go_wp2_with fail
      refine (pick_any 3 _ _ _ Hr2.out (by omega) (by omega) (by omega)).mono ?_
      rintro e w5 ⟨x, hx0, hx1, rfl, hr5, hg5⟩
      have Hr5 := Lib.hid hr5
      have HO5 := Lib.hid (only_drawn HO.out hg5 (.inr rfl))
      have Ho5 := Lib.hid (own_kept Ho.out hg5 (fun g hg e => by have h1 := (Ho.out.lt g hg).1; have h2 := Option.some.inj e; omega))
      have hz5 : w.heap.size ≤ w5.heap.size := HO5.out.size
      have Hlit := Lib.hid (Row.of_own (World.ownsRow_lit (base := w5.heap.size) (e := 3) (size := 1) w5 #[.int .i64 x] 1 (Nat.le_refl _) (by unfold maxLen; omega) rfl))
      clear hr5 hg5 Ho HO Hr2
      go_wp2_with (at_builtin; refine append_ints rfl (.tmp 15) (.tmp 18) rfl w.heap.size _ k _ rfl (Ho5.out.alloc _) _ 1 [.int .i64 x] rfl Hlit.out (by simp [Value.oneCell']) (by omega) (by simp; omega) ?_; intro v7 w7 hown7 hg7 hat7; have Ho7 := Lib.hid hown7; have Hg7 := Lib.hid hg7; clear hown7 hg7 hat7)
      go_roundw
      case rel =>
        refine ⟨_, k + 1, xs ++ [x], rfl, by go_num, by omega, by simp [Hxl.out], Lib.hid (by rw [ints_snoc]; exact Ho7.out), Lib.hid ?_, Lib.hid ?_⟩
        · exact (app_rd Hr5.out Hg7.out Ho5.out zR).more (by omega)
        · exact (only_alloc HO5.out _).aft (Only.grown Hg7.out fun g hg => hg) fun g hg => .inl (Ho5.out.lt g hg).1
      case measure => simp [intOf]; omega
    · obtain rfl : k = many := by omega
      have hdk : decide (k < k) = false := decide_eq_false (by omega)
      obtain ⟨A, c, e⟩ := slice_of_own Ho.out
      subst e
      go_wp2_with fail
      refine (odd_every n _ _ _ Hr2.out (by omega) h0 (by omega)).mono ?_
      rintro e w5 ⟨b, rfl, hr5, hg5⟩
      have Hr5 := Lib.hid hr5
      have HO5 := Lib.hid (only_drawn HO.out hg5 (.inr rfl))
      have Ho5 := Lib.hid (own_kept Ho.out hg5 (fun g hg e => by have h1 := (Ho.out.lt g hg).1; have h2 := Option.some.inj e; omega))
      have hz5 : w.heap.size ≤ w5.heap.size := HO5.out.size
      clear hr5 hg5 Ho HO Hr2
      cases b
      · go_wp2_with fail
        go_ret
        exact ⟨_, xs, rfl, by rw [Hxl.out]; exact Ho5.out, by rw [Hxl.out]; omega, Hr5.out.more (by omega), HO5.out.grownBy⟩
      · have Hlit := Lib.hid (fun (w5 : World) => Row.of_own (World.ownsRow_lit (base := w5.heap.size) (e := 3) (size := 1) w5 #[.int .i64 1] 1 (Nat.le_refl _) (by unfold maxLen; omega) rfl))
        by_cases hk0 : k = 0
        · have hd0 : ((k : Int) == 0) = true := by rw [hk0]; rfl
          clear hk0
          go_wp2_with (at_builtin; refine append_ints rfl (.tmp 31) (.tmp 32) rfl w.heap.size _ k _ rfl (Ho5.out.alloc _) _ 1 [.int .i64 1] rfl (Hlit.out _) (by simp [Value.oneCell']) (by omega) (by simp; omega) ?_; intro v7 w7 hown7 hg7 hat7; have Ho7 := Lib.hid hown7; have Hg7 := Lib.hid hg7; clear hown7 hg7 hat7)
          go_ret
          exact ⟨_, xs ++ [1], rfl, by rw [ints_snoc, List.length_append, Hxl.out]; exact Ho7.out, by rw [List.length_append, Hxl.out]; simp; omega, (app_rd Hr5.out Hg7.out Ho5.out zR).more (by omega), ((only_alloc HO5.out _).aft (Only.grown Hg7.out fun g hg => hg) fun g hg => .inl (Ho5.out.lt g hg).1).grownBy⟩
        · have hd0 : ((k : Int) == 0) = false := by simp; omega
          go_wp2_with fail
          refine (pick_any 2 _ _ _ Hr5.out (by omega) (by omega) (by omega)).mono ?_
          rintro e w6 ⟨q, hq0, hq1, rfl, hr6, hg6⟩
          have Hr6 := Lib.hid hr6
          have HO6 := Lib.hid (only_drawn HO5.out hg6 (.inr rfl))
          have Ho6 := Lib.hid (own_kept Ho5.out hg6 (fun g hg e => by have h1 := (Ho5.out.lt g hg).1; have h2 := Option.some.inj e; omega))
          have hz6 : w.heap.size ≤ w6.heap.size := HO6.out.size
          clear hr6 hg6 Ho5 HO5 Hr5
          by_cases hq : q = 0
          · subst hq
            go_wp2_with (at_builtin; refine append_ints rfl (.tmp 31) (.tmp 32) rfl w.heap.size _ k _ rfl (Ho6.out.alloc _) _ 1 [.int .i64 1] rfl (Hlit.out _) (by simp [Value.oneCell']) (by omega) (by simp; omega) ?_; intro v7 w7 hown7 hg7 hat7; have Ho7 := Lib.hid hown7; have Hg7 := Lib.hid hg7; clear hown7 hg7 hat7)
            go_ret
            exact ⟨_, xs ++ [1], rfl, by rw [ints_snoc, List.length_append, Hxl.out]; exact Ho7.out, by rw [List.length_append, Hxl.out]; simp; omega, (app_rd Hr6.out Hg7.out Ho6.out zR).more (by omega), ((only_alloc HO6.out _).aft (Only.grown Hg7.out fun g hg => hg) fun g hg => .inl (Ho6.out.lt g hg).1).grownBy⟩
          · have hdq : (q == 0) = false := by simpa using hq
            clear hq
            go_wp2_with fail
            refine (pick_any k _ _ _ Hr6.out (by omega) (by omega) (by omega)).mono ?_
            rintro e w7 ⟨j, hj0, hj1, rfl, hr7, hg7⟩
            obtain ⟨J, rfl⟩ := Int.eq_ofNat_of_zero_le hj0
            have Hr7 := Lib.hid hr7
            have HO7 := Lib.hid (only_drawn HO6.out hg7 (.inr rfl))
            have Ho7 := Lib.hid (own_kept Ho6.out hg7 (fun g hg e => by have h1 := (Ho6.out.lt g hg).1; have h2 := Option.some.inj e; omega))
            have hzr7 : R < w7.heap.size := hr7.lt
            clear hr7 hg7 Ho6 HO6 Hr6
            go_wp2_with fail
            refine (pick_any 2 _ _ _ (Hr7.out.alloc _) (by omega) (by omega) (by omega)).mono ?_
            rintro e w8 ⟨u, hu0, hu1, rfl, hr8, hg8⟩
            obtain ⟨vv, hvv, hu0', hcell⟩ := lit_cell2 _ _ _ _ _ hg8 hzr7 u hu0 hu1
            have zl := hg8.size
            rw [World.size_alloc] at zl
            have Hr8 := Lib.hid hr8
            have HO8 := Lib.hid (only_drawn (only_alloc HO7.out _) hg8 (.inr rfl))
            have Ho8 := Lib.hid (own_kept (Ho7.out.alloc _) hg8 (fun g hg e => by have h1 := (Ho7.out.lt g hg).1; have h2 := Option.some.inj e; omega))
            clear hr8 hg8 Ho7 HO7 Hr7
            obtain ⟨gA, cA, eA, hgA1, hgA2, -⟩ := own_open Ho8.out (by omega)
            injection eA with eA1 _ eA2
            subst eA1 eA2
            obtain ⟨uo, _, hs1, hf1⟩ := own_slot Ho8.out (j := J) (by omega)
            have Hst := Lib.hid (Ho8.out.stored J (.int .i64 vv))
            have HT : Hid ((ints xs).set J (.int .i64 vv) = ints (xs.set J vv)) := Lib.hid (by unfold ints; simp [List.map_set])
            go_wp2_with fail
            go_ret
            refine ⟨_, xs.set J vv, rfl, ?_, by rw [List.length_set, Hxl.out]; omega, ?_, ?_⟩
            · rw [List.length_set, Hxl.out, ← HT.out]
              exact Hst.out.1
            · exact (rd_set Hr8.out (by omega)).more (by omega)
            · exact (only_set HO8.out hgA1).grownBy
def DrawnEvalTernary (w : World) (e : Ending) (w' : World) : Prop := ∃ v c a xs b ys, e = .returned (.tuple #[v, a, b]) ∧ OwnC w.heap.size v c w' ∧ Small c ∧ IntsAt w' a xs ∧ IntsAt w' b ys ∧ xs.length ≤ 9 ∧ ys.length ≤ 9 ∧ Below w.heap.size w w'
set_option maxHeartbeats 8000000 in
theorem drawEvalTernary_any (v : Value) (bs : List Int) (w : World) (h : Row w 1 v bs.length (bs.map (Value.int .u8))) (hb : ∀ x ∈ bs, (Lit.int .u8 x).wf = true) (hl : bs.length ≤ 1048576) :
    Calls Try.prog 15 #[v] w (DrawnEvalTernary w) := by
  have H := Lib.hid h
  clear h
  have hX := heap_alloc_new w (.cells #[.int .i64 0, .slice none 0 0, .slice none 0 0, .slice none 0 0] 26)
  have HB0 := Lib.hid (bel_new w (.cells #[.int .i64 0, .slice none 0 0, .slice none 0 0, .slice none 0 0] 26))
  have hs : (w.alloc (.cells #[.int .i64 0, .slice none 0 0, .slice none 0 0, .slice none 0 0] 26)).heap.size = w.heap.size + 1 := by simp
  have HX := Lib.hid hX
  clear hX
  go_enter Try.func15, Try.ntmps15
  go_wp2_with fail
  have H0 := Lib.hid (H.out.alloc (.cells #[.int .i64 0, .slice none 0 0, .slice none 0 0, .slice none 0 0] 26))
  generalize w.alloc (.cells #[.int .i64 0, .slice none 0 0, .slice none 0 0, .slice none 0 0] 26) = W at *
  refine (open_any _ bs _ H0.out hb hl).mono ?_
  rintro e w1 ⟨rfl, hr1, hb1⟩
  rw [hs] at hr1
  have HZ1 := Lib.hid hr1.lt
  have Hr1 := Lib.hid hr1
  have Hb1 := Lib.hid (HB0.out.trans (hb1.mono HB0.out.size))
  have HX1 := Lib.hid ((hb1.block _ (by omega)).trans HX.out)
  clear hr1 hb1 HX HB0 H H0 hb hl
  go_wp2_with fail
  refine (l20Circuit_any _ 0 12 _ Hr1.out (by omega) (by omega) (by omega)).mono ?_
  rintro e w2 ⟨v2, c, rfl, hO, hS, hr2, hg2⟩
  have HX2 := Lib.hid (res_grown HX1.out hg2 (fun e => by have := Option.some.inj e; omega))
  have Hb2 := Lib.hid (Hb1.out.grown hg2 Hb1.out.size (fun k hk => by have := Option.some.inj hk; omega))
  have HO := Lib.hid hO
  have HS := Lib.hid hS
  obtain ⟨An, cn, Ag, cg, Ao, co, rfl⟩ := hO.shape
  obtain ⟨s1, s2, s3, s4, s5, -⟩ := hS
  have Hr2 := Lib.hid hr2
  have HZ2 := Lib.hid hg2.size
  clear hr2 hg2 hO HX1 Hb1 Hr1
  go_wp2_with fail
  have hb3 := bel_new w2 (.cells #[.int .i64 c.ins, .slice An c.next.length cn, .slice Ag c.gates.length cg, .slice Ao c.outs.length co] 26)
  have HO3 := Lib.hid (HO.out.only (E := fun _ => False) (Only.of_below _ hb3) fun _ _ e => e)
  have HX3 := Lib.hid ((hb3.block _ (blk_lt HX2.out)).trans HX2.out)
  have Hr3 := Lib.hid (Hr2.out.alloc (.cells #[.int .i64 c.ins, .slice An c.next.length cn, .slice Ag c.gates.length cg, .slice Ao c.outs.length co] 26))
  have Hb3 := Lib.hid (Hb2.out.trans (hb3.mono Hb2.out.size))
  have HM3 := Lib.hid (heap_alloc_new w2 (.cells #[.int .i64 c.ins, .slice An c.next.length cn, .slice Ag c.gates.length cg, .slice Ao c.outs.length co] 26))
  have z3 : w2.heap.size < (w2.alloc (.cells #[.int .i64 c.ins, .slice An c.next.length cn, .slice Ag c.gates.length cg, .slice Ao c.outs.length co] 26)).heap.size := by simp
  obtain ⟨gm, hgm⟩ : ∃ gm, w2.heap.size = gm := ⟨_, rfl⟩
  rw [hgm] at HM3 HZ2 z3 ⊢
  clear HO HX2 Hr2 Hb2 hb3 hgm
  generalize w2.alloc (.cells #[.int .i64 c.ins, .slice An c.next.length cn, .slice Ag c.gates.length cg, .slice Ao c.outs.length co] 26) = w3 at *
  have hgm2 : w.heap.size + 1 < gm := Nat.lt_of_lt_of_le HZ1.out HZ2.out
  have hneM : ¬ (gm = w.heap.size + 1 ∨ gm = w.heap.size) := by omega
  have f0 := blk_cell HM3.out 0
  have f1 := blk_cell HM3.out 1
  have f2 := blk_cell HM3.out 2
  have f3 := blk_cell HM3.out 3
  simp at f0 f1 f2 f3
  have hO := fun ops a => rdStepRS_ok (Pg := Try.prog) (ops := ops) (P := 0 + 10000) (a := a) (R0 := fun w' => w'.heap[w.heap.size]? = some (.cells #[.int .i64 0, .slice none 0 0, .slice none 0 0, .slice none 0 0] 26 (0, 0))) (R1 := fun w' => w'.heap[w.heap.size]? = some (.cells #[.int .i64 c.ins, .slice An c.next.length cn, .slice Ag c.gates.length cg, .slice Ao c.outs.length co] 26 (0, 0))) (d := 12) Hr3.out.lt (blk_lt HX3.out) (fun w1 w2 h ho => blk_only h ho (by omega)) (fun w1 w2 h ho => blk_only h ho (by omega))
  refine wp_region_rs (rdStepRS Try.prog _ (w.heap.size + 1) (0 + 10000) w3 _ w.heap.size _ _ 12) (hO _ _) (by kernel_rfl) (by kernel_rfl) (by kernel_rfl) (Nat.le_of_ble_eq_true rfl) Hr3.out HX3.out ?_
  apply rs_eq (hO _ _) (.inl (Nat.ne_of_beq_eq_false rfl))
  · intro ρ w' ho hK
    obtain ⟨h0, -⟩ := hK
    have h0' : ρ (.tmp 6) = .pointer (some ⟨gm, 0, none⟩) := h0
    have q0 := cell_on ho hneM z3 f0
    have q1 := cell_on ho hneM z3 f1
    have q2 := cell_on ho hneM z3 f2
    have q3 := cell_on ho hneM z3 f3
    go_simp
    try exact rfl
  refine rs_old (hO _ _) (.inl (Nat.ne_of_beq_eq_false rfl)) _ (.inl rfl) _ rfl rfl ?_
  apply rs_eq (hO _ _) (.inl (Nat.ne_of_beq_eq_false rfl))
  · intro ρ w' ho hK
    obtain ⟨h0, -⟩ := hK
    have h0' : ρ (.tmp 6) = .pointer (some ⟨gm, 0, none⟩) := h0
    go_simp
    try exact rfl
  apply rs_eq (hO _ _) (.inl (Nat.ne_of_beq_eq_false rfl))
  · intro ρ w' ho hK
    obtain ⟨h0, -⟩ := hK
    have h0' : ρ (.tmp 13) = .pointer (some ⟨gm, 1, none⟩) := h0
    have q1 := cell_on ho hneM z3 f1
    go_simp
    try exact rfl
  apply rs_eq (hO _ _) (.inl (Nat.ne_of_beq_eq_false rfl))
  · intro ρ w' ho hK
    obtain ⟨h0, -⟩ := hK
    have h0' : ρ (.tmp 14) = .slice An c.next.length cn := h0
    go_simp
    try exact rfl
  refine rs_drawcall (hO _ _) (.inl (Nat.ne_of_beq_eq_false rfl)) (fun w v => ∃ xs, w.ownsRow w3.heap.size 3 1 v xs.length (ints xs) ∧ xs.length ≤ 9) (fun v w1 w2 h ho => by
    obtain ⟨xs, h1, h2⟩ := h
    exact ⟨xs, own_only h1 ho (fun g hg he => by
      have h3 := (h1.lt g hg).1
      have h4 := blk_lt HX3.out
      have h5 := Hr3.out.lt
      rcases he with e | e <;> omega), h2⟩) 63 _ _ rfl (w.heap.size + 1) (0 + 10000) rfl (fun k ρ w' hk hr ho hK => by
    obtain ⟨h0, h1, h2, h3, -⟩ := hK
    have h0' : ρ (.func 63) = .func (.func 63) #[] #[] := h0
    have h1' : ρ (.tmp 12) = .pointer (some ⟨w.heap.size + 1, 0, none⟩) := h1
    have h3' : ρ (.const (.int .i64 12)) = .int .i64 12 := h3
    obtain ⟨mm, hmm⟩ : ∃ mm, c.next.length = mm := ⟨_, rfl⟩
    have h2' : ρ (.tmp 15) = .int .i64 (mm : Nat) := by rw [← hmm]; exact h2
    have hk' : k < 15 := hk
    have hw3 : w3.heap.size ≤ w'.heap.size := ho.size
    refine ⟨#[.pointer (some ⟨w.heap.size + 1, 0, none⟩), .int .i64 (mm : Nat), .int .i64 12], ?_, ?_⟩
    · go_simp
    · refine (l20Terns_any _ _ mm 12 w' hr (by omega) (by omega) (by omega) (by omega)).mono ?_
      rintro e w4 ⟨v4, xs, rfl, ho4, hx4, hr4, hg4⟩
      exact ⟨v4, rfl, ⟨xs, own_mono ho4 hw3, hx4⟩, hr4.more (by omega), hg4⟩) ?_
  refine rs_old (hO _ _) (.inl (Nat.ne_of_beq_eq_false rfl)) _ (.inl rfl) _ rfl rfl ?_
  apply rs_eq (hO _ _) (.inl (Nat.ne_of_beq_eq_false rfl))
  · intro ρ w' ho hK
    obtain ⟨h0, -⟩ := hK
    have h0' : ρ (.tmp 6) = .pointer (some ⟨gm, 0, none⟩) := h0
    go_simp
    try exact rfl
  apply rs_eq (hO _ _) (.inl (Nat.ne_of_beq_eq_false rfl))
  · intro ρ w' ho hK
    obtain ⟨h0, -⟩ := hK
    have h0' : ρ (.tmp 18) = .pointer (some ⟨gm, 0, none⟩) := h0
    have q0 := cell_on ho hneM z3 f0
    go_simp
    try exact rfl
  refine rs_pure (hO _ _) (.inl (Nat.ne_of_beq_eq_false rfl)) (TEq (.int .i64 c.ins)) (stb_eq _ _) (fun ρ w hK => by
    obtain ⟨h0, h1, -⟩ := hK
    have h0' : ρ (.const (.int .i64 8)) = .int .i64 8 := h0
    have h1' : ρ (.tmp 19) = .int .i64 c.ins := h1
    have hlt : c.ins < 8 := by omega
    refine ⟨.int .i64 c.ins, ?_, rfl⟩
    go_simp) ?_
  refine rs_pure (hO _ _) (.inl (Nat.ne_of_beq_eq_false rfl)) (fun _ v => ∃ mm : Nat, v = .int .i64 mm ∧ mm ≤ 5) (fun _ _ _ h _ => h) (fun ρ w hK => by
    obtain ⟨h0, h1, -⟩ := hK
    have h0' : ρ (.const (.int .i64 0)) = .int .i64 0 := h0
    have h1' : ρ (.tmp 20) = .int .i64 c.ins := h1
    by_cases hc0 : 0 < c.ins
    · obtain ⟨mm, hmm⟩ := Int.eq_ofNat_of_zero_le (show 0 ≤ c.ins by omega)
      refine ⟨.int .i64 c.ins, ?_, mm, by rw [hmm], by omega⟩
      go_simp
      try (intro hq; simp [hq])
    · refine ⟨.int .i64 0, ?_, 0, rfl, by omega⟩
      go_simp) ?_
  refine rs_drawcall (hO _ _) (.inl (Nat.ne_of_beq_eq_false rfl)) (fun w v => ∃ xs, w.ownsRow w3.heap.size 3 1 v xs.length (ints xs) ∧ xs.length ≤ 9) (fun v w1 w2 h ho => by
    obtain ⟨xs, h1, h2⟩ := h
    exact ⟨xs, own_only h1 ho (fun g hg he => by
      have h3 := (h1.lt g hg).1
      have h4 := blk_lt HX3.out
      have h5 := Hr3.out.lt
      rcases he with e | e <;> omega), h2⟩) 63 _ _ rfl (w.heap.size + 1) (0 + 10000) rfl (fun k ρ w' hk hr ho hK => by
    obtain ⟨h0, h1, h2, h3, -⟩ := hK
    have h0' : ρ (.func 63) = .func (.func 63) #[] #[] := h0
    have h1' : ρ (.tmp 17) = .pointer (some ⟨w.heap.size + 1, 0, none⟩) := h1
    have h3' : ρ (.const (.int .i64 12)) = .int .i64 12 := h3
    obtain ⟨mm, h2', hmm⟩ : ∃ mm : Nat, ρ (.tmp 21) = .int .i64 mm ∧ mm ≤ 5 := h2
    have hk' : k < 15 := hk
    have hw3 : w3.heap.size ≤ w'.heap.size := ho.size
    refine ⟨#[.pointer (some ⟨w.heap.size + 1, 0, none⟩), .int .i64 (mm : Nat), .int .i64 12], ?_, ?_⟩
    · go_simp
    · refine (l20Terns_any _ _ mm 12 w' hr (by omega) (by omega) (by omega) (by omega)).mono ?_
      rintro e w4 ⟨v4, xs, rfl, ho4, hx4, hr4, hg4⟩
      exact ⟨v4, rfl, ⟨xs, own_mono ho4 hw3, hx4⟩, hr4.more (by omega), hg4⟩) ?_
  refine rs_doR rfl rfl (w.heap.size + 1) (0 + 10000) rfl (fun ρ w' ho h0 hK => by
    obtain ⟨h1, h2, -⟩ := hK
    have h1' : ρ (.tmp 2) = .pointer (some ⟨w.heap.size, 0, none⟩) := h1
    have h2' : ρ (.tmp 11) = .agg #[.int .i64 c.ins, .slice An c.next.length cn, .slice Ag c.gates.length cg, .slice Ao c.outs.length co] := h2
    have h0' : w'.heap[w.heap.size]? = some (.cells #[.int .i64 0, .slice none 0 0, .slice none 0 0, .slice none 0 0] 26 (0, 0)) := h0
    have o0 := blk_cell h0' 0
    have o1 := blk_cell h0' 1
    have o2 := blk_cell h0' 2
    have o3 := blk_cell h0' 3
    have b0 := blk_free h0' 0
    have b1 := blk_free h0' 1
    have b2 := blk_free h0' 2
    have b3 := blk_free h0' 3
    have zr := blk_lt h0'
    simp at o0 o1 o2 o3
    refine ⟨setR w' w.heap.size (.int .i64 c.ins) (.slice An c.next.length cn) (.slice Ag c.gates.length cg) (.slice Ao c.outs.length co), ?_, setR_box h0', setR_only (.inr rfl), fun Q hQ => rd_only_k hQ (zero_no h0') (by omega) (setR_only rfl)⟩
    unfold setR
    go_simp) ?_
  refine rs_same (hO _ _) (.inl (Nat.ne_of_beq_eq_false rfl)) 16 5 (.inr rfl) rfl (fun w v => ∃ xs, w.ownsRow w3.heap.size 3 1 v xs.length (ints xs) ∧ xs.length ≤ 9) rfl ?_
  refine rs_same (hO _ _) (.inl (Nat.ne_of_beq_eq_false rfl)) 22 11 (.inr rfl) rfl (fun w v => ∃ xs, w.ownsRow w3.heap.size 3 1 v xs.length (ints xs) ∧ xs.length ≤ 9) rfl ?_
  intro f w9 k9 hk9 hI9 ht9 hcp9
  have E0 : f 0 = _ := ht9 0 (Nat.le_of_ble_eq_true rfl)
  have E1 : f 1 = _ := ht9 1 (Nat.le_of_ble_eq_true rfl)
  have E2 : f 2 = _ := ht9 2 (Nat.le_of_ble_eq_true rfl)
  have E3 : f 3 = _ := ht9 3 (Nat.le_of_ble_eq_true rfl)
  have E4 : f 4 = _ := ht9 4 (Nat.le_of_ble_eq_true rfl)
  have E6 : f 6 = _ := ht9 6 (Nat.le_of_ble_eq_true rfl)
  have E7 : f 7 = _ := ht9 7 (Nat.le_of_ble_eq_true rfl)
  have E8 : f 8 = _ := ht9 8 (Nat.le_of_ble_eq_true rfl)
  have E9 : f 9 = _ := ht9 9 (Nat.le_of_ble_eq_true rfl)
  have hT5 : (fun w v => ∃ xs, w.ownsRow w3.heap.size 3 1 v xs.length (ints xs) ∧ xs.length ≤ 9) w9 (f 5) := ht9 5 (Nat.le_of_ble_eq_true rfl)
  obtain ⟨xs, hx, hx1⟩ := hT5
  have hT11 : (fun w v => ∃ xs, w.ownsRow w3.heap.size 3 1 v xs.length (ints xs) ∧ xs.length ≤ 9) w9 (f 11) := ht9 11 (Nat.le_of_ble_eq_true rfl)
  obtain ⟨ys, hy, hy1⟩ := hT11
  have C13 : f 13 = f 5 := (hcp9 13 _ 16 5 rfl rfl rfl rfl).2
  have C14 : f 14 = f 11 := (hcp9 14 _ 22 11 rfl rfl rfl rfl).2
  have HE9 : Only (fun g => g = w.heap.size + 1 ∨ g = w.heap.size) w3 w9 := hI9.2.1
  have HR9 : w9.heap[w.heap.size]? = some (.cells #[.int .i64 c.ins, .slice An c.next.length cn, .slice Ag c.gates.length cg, .slice Ao c.outs.length co] 26 (0, 0)) := hI9.2.2
  simp only [putAll, E0, E1, E2, E3, E4, E6, E7, E8, E9, C13, C14, Nat.zero_add, Nat.reduceAdd, Act.put, List.setIfInBounds_toArray, List.set_cons_succ, List.set_cons_zero]
  clear E0 E1 E2 E3 E4 E6 E7 E8 E9 hI9 ht9 hcp9 hk9 hO
  clear C13 C14
  generalize f 10 = r10, f 12 = r12 at *
  generalize f 5 = v5 at *
  generalize f 11 = v11 at *
  obtain ⟨A5, c5, e5⟩ := slice_of_own hx
  obtain ⟨A11, c11, e11⟩ := slice_of_own hy
  subst e5 e11
  have XF := Lib.hid (show IntsAt w9 (.slice A5 xs.length c5) xs from Row.of_own hx)
  have YF := Lib.hid (show IntsAt w9 (.slice A11 ys.length c11) ys from Row.of_own hy)
  clear hx hy
  have o0 := blk_cell HR9 0
  have o1 := blk_cell HR9 1
  have o2 := blk_cell HR9 2
  have o3 := blk_cell HR9 3
  have zr := blk_lt HR9
  simp at o0 o1 o2 o3
  have HOF := Lib.hid ((HO3.out.only HE9 (fun g hg => by have := HZ1.out; omega)).mono (show w.heap.size ≤ w1.heap.size by have := HZ1.out; omega))
  have HBF := Lib.hid (Only.below Hb3.out HE9 (Nat.le_trans Hb3.out.size (Nat.le_refl _)) (fun g hg => by omega))
  clear HE9 HR9 HO3 HX3 Hr3 Hb3 HM3 f0 f1 f2 f3
  go_wp2_with fail
  refine bodyPost_ret (v := .tuple #[.agg #[.int .i64 c.ins, .slice An c.next.length cn, .slice Ag c.gates.length cg, .slice Ao c.outs.length co], .slice A5 xs.length c5, .slice A11 ys.length c11]) (by simp [results, Try.results15, go_sem, o0, o1, o2, o3]) rfl ⟨_, c, _, xs, _, ys, rfl, HOF.out, HS.out, XF.out, YF.out, hx1, hy1, HBF.out⟩
end Go.Proofs.Ytopimdakpnnbhaa

namespace Go.Proofs.Ytopimdakpnnbhaa
open Go.RowKit
set_option maxRecDepth 100000
theorem cell_only {E : Nat → Prop} {w w' : World} {g i : Nat} {u : Value} (ho : Only E w w') (hn : ¬ E g) (hl : g < w.heap.size) (h : w.cell? ⟨g, i, none⟩ = some u) : w'.cell? ⟨g, i, none⟩ = some u := cell_on ho hn hl h
set_option maxHeartbeats 16000000 in
theorem specEvalT_ok (v vs vi : Value) (d : Ci) (st inp : List Nat) (w : World) (h : CircAt w v (Cir.toCz d)) (hd : Cir.Ok d) (hv : Cir.valid (Cir.toCz d) = true) (hs : NatsAt w vs st) (hi : NatsAt w vi inp) (h1 : inp.length = d.ins) (h2 : st.length = d.next.length) (t1 : ∀ x ∈ st, x ≤ 2) (t2 : ∀ x ∈ inp, x ≤ 2) :
    Calls Try.prog 18 #[v, vs, vi] w (OwnInts (nats (Cir.tvals d st inp)) w) := by
  have l1 := hd.ins
  have l2 := hd.nexts
  have l3 := hd.gatess
  have HG := Lib.hid hd.gate
  have hnl : (Cir.toCz d).next.length = d.next.length := List.length_map _
  have hgl : (Cir.toCz d).gates.length = d.gates.length := List.length_map _
  have HCa := Lib.hid h
  obtain ⟨vn, vg, vo, rfl, r1, r2, r3⟩ := h
  obtain ⟨An, cn, hvn, hcn, hcmn⟩ := r1.shape
  obtain ⟨Ag, cg, hvg, hcg, hcmg⟩ := Row.shape r2
  rw [hnl] at hvn
  rw [hgl] at hvg hcg
  subst hvn hvg
  have hins : (Cir.toCz d).ins = (d.ins : Int) := rfl
  rw [hins] at HCa ⊢
  have B0 := Lib.hid (bel_al w (.cells #[.int .i64 d.ins, .slice An d.next.length cn, .slice Ag d.gates.length cg, vo] 26))
  have PC := Lib.hid (PCells.boxed w d.ins (.slice An d.next.length cn) (.slice Ag d.gates.length cg) vo 26)
  have R2 : Hid (Row w 2 (.slice Ag d.gates.length cg) d.gates.length (cubes (Cir.toCz d).gates)) := Lib.hid (by have := r2; unfold CubesAt at this; rwa [hgl] at this)
  have HV : Hid (Calls Try.prog 29 #[.agg #[.int .i64 d.ins, .slice An d.next.length cn, .slice Ag d.gates.length cg, vo]] (w.alloc (.cells #[.int .i64 d.ins, .slice An d.next.length cn, .slice Ag d.gates.length cg, vo] 26)) fun e w' => e = .returned (.bool true) ∧ Below (w.alloc (.cells #[.int .i64 d.ins, .slice An d.next.length cn, .slice Ag d.gates.length cg, vo] 26)).heap.size (w.alloc (.cells #[.int .i64 d.ins, .slice An d.next.length cn, .slice Ag d.gates.length cg, vo] 26)) w') := Lib.hid (by
    have := specValid_any _ _ _ (HCa.out.below B0.out)
    rwa [hv] at this)
  have a1 : (nats st).all Cir.tern = true := by
    rw [List.all_eq_true]
    intro x hx
    obtain ⟨y, hy, rfl⟩ := List.mem_map.1 hx
    have := t1 y hy
    exact decide_eq_true (by simp; omega)
  have a2 : (nats inp).all Cir.tern = true := by
    rw [List.all_eq_true]
    intro x hx
    obtain ⟨y, hy, rfl⟩ := List.mem_map.1 hx
    have := t2 y hy
    exact decide_eq_true (by simp; omega)
  have HO1 : Hid (∀ w', Below w.heap.size w w' → Calls Try.prog 67 #[vs, .int .i64 d.next.length] w' fun e w'' => e = .returned (.bool true) ∧ w' = w'') := Lib.hid fun w' hb => by
    have := l27Ok_any vs (nats st) d.next.length w' (Row.below hs hb)
    rwa [a1, nats_length, h2, decide_eq_true rfl] at this
  have HO2 : Hid (∀ w', Below w.heap.size w w' → Calls Try.prog 67 #[vi, .int .i64 d.ins] w' fun e w'' => e = .returned (.bool true) ∧ w' = w'') := Lib.hid fun w' hb => by
    have := l27Ok_any vi (nats inp) d.ins w' (Row.below hi hb)
    rwa [a2, nats_length, h1, decide_eq_true rfl] at this
  have Hs := Lib.hid hs
  have Hi := Lib.hid hi
  have HE : Hid (∀ k, k ≤ d.gates.length → (Cir.tevalG (d.gates.take k) (0 :: (inp ++ st))).length = Cir.nfirst d + k) := Lib.hid fun k hk => by
    rw [Cir.tevalG_length]
    simp [Cir.nfirst, h1, h2]
    omega
  have HT : Hid (∀ k, ∀ x ∈ Cir.tevalG (d.gates.take k) (0 :: (inp ++ st)), x ≤ 2) := Lib.hid fun k => Cir.tevalG_le _ fun x hx => by
    rcases List.mem_cons.1 hx with rfl | hx
    · omega
    · rcases List.mem_append.1 hx with h | h
      · exact t2 x h
      · exact t1 x h
  have hnf : Cir.nfirst d ≤ 8 := by unfold Cir.nfirst; omega
  have HVV : Hid (Cir.tevalG (d.gates.take d.gates.length) (0 :: (inp ++ st)) = Cir.tvals d st inp) := Lib.hid (by rw [List.take_length]; rfl)
  have HI0 : Hid (nints (0 :: (inp ++ st)) = [.int .i64 0] ++ nints inp ++ nints st ∧ (0 :: (inp ++ st)).length = 1 + inp.length + st.length) := Lib.hid (by simp [nints, ints, nats]; omega)
  have hi4 : inp.length ≤ 4 := by omega
  have hs3 : st.length ≤ 3 := by omega
  generalize Cir.tvals d st inp = res at *
  generalize Cir.nfirst d = nf at *
  generalize (0 :: (inp ++ st)) = I0 at *
  generalize hW : w.alloc (.cells #[.int .i64 d.ins, .slice An d.next.length cn, .slice Ag d.gates.length cg, vo] 26) = W at *
  obtain ⟨z, p0, p1, p2, p3⟩ := PC.out
  clear r1 r2 r3 hs hi h1 h2 t1 t2 a1 a2 hv hd hnl HCa hins
  obtain ⟨i0, hi0, hz0, hz1, hz2⟩ := info_parts info_int
  go_enter Try.func18, Try.ntmps18
  go_wp2_with fail
  refine HV.out.mono ?_
  rintro e w1 ⟨rfl, hb1⟩
  have B1 := Lib.hid (B0.out.trans (hb1.mono B0.out.size))
  have PC1 := Lib.hid (PC.out.below hb1)
  clear z p0 p1 p2 p3 hb1 PC
  obtain ⟨z, p0, p1, p2, p3⟩ := PC1.out
  go_wp2_with fail
  refine (HO1.out _ B1.out).mono ?_
  rintro e w' ⟨rfl, rfl⟩
  go_wp2_with fail
  refine (HO2.out _ B1.out).mono ?_
  rintro e w' ⟨rfl, rfl⟩
  have hzw : w.heap.size + 1 ≤ w1.heap.size := by omega
  have Hlit : Hid ((w1.alloc (.cells #[.int .i64 0] 3)).ownsRow (w.heap.size + 1) 3 1 (.slice (some ⟨w1.heap.size, 0, none⟩) 1 1) 1 [.int .i64 0]) := Lib.hid (World.ownsRow_lit (base := w.heap.size + 1) (e := 3) (size := 1) w1 #[.int .i64 0] 1 hzw (by unfold maxLen; omega) rfl)
  have Bl := Lib.hid (B1.out.alloc B1.out.size (.cells #[.int .i64 0] 3))
  have PCl := Lib.hid (cells_alloc PC1.out (.cells #[.int .i64 0] 3))
  clear HO1 HO2 HV hW p0 p1 p2 p3 z
  go_wp2_with (first
    | (at_builtin; refine append_ints rfl (.tmp 28) (.tmp 29) rfl (w.heap.size + 1) _ 1 [.int .i64 0] rfl Hlit.out _ inp.length (nints inp) rfl (by have := Row.below Hi.out Bl.out; rwa [nats_length] at this) (nints_one _) (by omega) (by simp; omega) ?_; intro v5 w5 hown5 hg5 hat5; have Ho5 := Lib.hid hown5; have P5 := Lib.hid (PCl.out.grown hg5 (own_ne Hlit.out (by omega))); have B5 := Lib.hid (Bl.out.grown hg5 Bl.out.size (fun q hq => by have := (Hlit.out.lt q hq).1; omega)); have z5 := hg5.size; clear hown5 hg5 hat5)
    | (at_builtin; refine append_ints rfl (.tmp 31) (.tmp 32) rfl (w.heap.size + 1) _ (1 + inp.length) ([Value.int .i64 0] ++ nints inp) rfl Ho5.out _ st.length (nints st) rfl (by have := Row.below Hs.out B5.out; rwa [nats_length] at this) (nints_one _) (by omega) (by simp at z5; omega) ?_; intro v6 w6 hown6 hg6 hat6; have Ho6 := Lib.hid hown6; have P6 := Lib.hid (P5.out.grown hg6 (own_ne Ho5.out (by omega))); have B6 := Lib.hid (B5.out.grown hg6 B5.out.size (fun q hq => by have := (Ho5.out.lt q hq).1; omega)); clear hown6 hg6 hat6))
  go_loopw [7, 8] (fun v i wr => ∃ (vv : Value) (k : Nat), vv = v ∧ k ≤ d.gates.length ∧ i = .int .i64 k ∧ Hid (wr.ownsRow (w.heap.size + 1) 3 1 v (nf + k) (nints (Cir.tevalG (d.gates.take k) I0))) ∧ Hid (PCells wr w.heap.size d.ins (.slice An d.next.length cn) (.slice Ag d.gates.length cg) vo) ∧ Below w.heap.size w wr) (fun _ i _ => d.gates.length - (intOf i).toNat)
  case atStart =>
    refine ⟨_, 0, rfl, Nat.zero_le _, rfl, Lib.hid ?_, P6, B6.out⟩
    have := Ho6.out
    have e : Cir.tevalG (d.gates.take 0) I0 = I0 := rfl
    have hl0 := HE.out 0 (Nat.zero_le _)
    rw [e] at hl0
    rw [e, HI0.out.1, ← hl0, HI0.out.2]
    exact this
  case round =>
    obtain ⟨vv, k, hvv, hk, rfl, Ho, P, hb⟩ := hrel
    subst hvv
    by_cases hlt : k < d.gates.length
    · obtain ⟨b, o, x, rfl, hbl, hx, hs1, hs2⟩ := cubes_open R2.out hb hgl.symm (i := k) (by omega)
      obtain ⟨gt, hgt⟩ := at_some hlt
      have hxe : x = ((gt.1 : Int), (gt.2 : Int)) := by
        have h1 := hx.out
        unfold Cir.toCz at h1
        simp only [List.getElem?_map, hgt] at h1
        exact (Option.some.inj h1).symm
      subst hxe
      obtain ⟨g1, g2⟩ := HG.out k gt hgt
      have hEk := HE.out k (by omega)
      have hTk := HT.out k
      have HS : Hid (nints (Cir.tevalG (d.gates.take (k + 1)) I0) = nints (Cir.tevalG (d.gates.take k) I0) ++ [.int .i64 (Cir.tand (Cir.tlit (Cir.tevalG (d.gates.take k) I0) gt.1) (Cir.tlit (Cir.tevalG (d.gates.take k) I0) gt.2) : Nat)]) := Lib.hid (by rw [Cir.tevalG_take_snoc hgt, nints_append]; rfl)
      clear hx hgt
      obtain ⟨E2, hE2⟩ : ∃ E2, Cir.tevalG (d.gates.take (k + 1)) I0 = E2 := ⟨_, rfl⟩
      rw [hE2] at HS
      have HE2 := Lib.hid hE2
      clear hE2
      generalize Cir.tevalG (d.gates.take k) I0 = E at *
      have Hb := Lib.hid hb
      have hzr := hb.size
      have hl1 := Cir.tlit_le hTk gt.1
      have hl2 := Cir.tlit_le hTk gt.2
      obtain ⟨G1, hG1⟩ : ∃ G1, G1 = gt.1 := ⟨_, rfl⟩
      obtain ⟨G2, hG2⟩ : ∃ G2, G2 = gt.2 := ⟨_, rfl⟩
      rw [← hG1] at g1 HS hs1 hl1
      rw [← hG2] at g2 HS hs2 hl2
      have HTk := Lib.hid hTk
      have HEk := Lib.hid hEk
      obtain ⟨z, p0, p1, p2, p3⟩ := P.out
      have hNb : ¬ (vv.ownBlock = some b) := fun e => by have := (Ho.out.lt _ e).1; omega
      have hNg : ¬ (vv.ownBlock = some w.heap.size) := fun e => by have := (Ho.out.lt _ e).1; omega
      have HR : Hid (∀ w', w'.ownsRow (w.heap.size + 1) 3 1 vv (nf + k) (nints E) → NatsAt w' vv E) := Lib.hid fun w' h => nats_own h hEk
      clear hb hG1 hG2 hEk hTk
      go_wp2_with fail
      have hO := fun ops a => appRS_ok (Pg := Try.prog) (ops := ops) (a := a) (news := [.int .i64 (Cir.tand (Cir.tlit E G1) (Cir.tlit E G2) : Nat)]) (d := 19) Ho.out
      refine wp_region_rs (appRS Try.prog _ wr _ (w.heap.size + 1) 3 1 vv (nf + k) (nints E) [.int .i64 (Cir.tand (Cir.tlit E G1) (Cir.tlit E G2) : Nat)] 19) (hO _ _) (by kernel_rfl) (by kernel_rfl) (by kernel_rfl) (Nat.le_of_ble_eq_true rfl) trivial Ho.out ?_
      have HGS : ∀ w', Only (fun g => vv.ownBlock = some g) wr w' → w'.cell? ⟨w.heap.size, 2, none⟩ = some (.slice (some ⟨b, o, none⟩) d.gates.length cg) := fun w' ho => cell_only ho hNg z p2
      have HB1 : ∀ w', Only (fun g => vv.ownBlock = some g) wr w' → w'.cell? ⟨b, o + k * 2, none⟩ = some (.int .i64 (G1 : Nat)) := fun w' ho => cell_only ho hNb (by omega) hs1
      have HB2 : ∀ w', Only (fun g => vv.ownBlock = some g) wr w' → w'.cell? ⟨b, o + k * 2 + 1, none⟩ = some (.int .i64 (G2 : Nat)) := fun w' ho => cell_only ho hNb (by omega) hs2
      refine rs_old (hO _ _) (.inl (Nat.ne_of_beq_eq_false rfl)) _ (.inl rfl) _ rfl rfl ?_
      refine rs_old (hO _ _) (.inl (Nat.ne_of_beq_eq_false rfl)) _ (.inl rfl) _ rfl rfl ?_
      refine rs_look (hO _ _) (.inl (Nat.ne_of_beq_eq_false rfl)) (TEq (.pointer (some ⟨w.heap.size, 2, none⟩))) (stb_eq _ _) (fun ρ w' ho hK => by
        obtain ⟨h0, -⟩ := hK
        have h0' : ρ (.tmp 3) = .pointer (some ⟨w.heap.size, 0, none⟩) := h0
        refine ⟨_, ?_, rfl⟩
        go_simp) ?_
      refine rs_look (hO _ _) (.inl (Nat.ne_of_beq_eq_false rfl)) (TEq (.slice (some ⟨b, o, none⟩) d.gates.length cg)) (stb_eq _ _) (fun ρ w' ho hK => by
        obtain ⟨h0, -⟩ := hK
        have h0' : ρ (.tmp 43) = .pointer (some ⟨w.heap.size, 2, none⟩) := h0
        have q := HGS w' ho
        refine ⟨_, ?_, rfl⟩
        go_simp) ?_
      refine rs_old (hO _ _) (.inl (Nat.ne_of_beq_eq_false rfl)) _ (.inl rfl) _ rfl rfl ?_
      refine rs_look (hO _ _) (.inl (Nat.ne_of_beq_eq_false rfl)) (TEq (.pointer (some ⟨b, o + k * 2, none⟩))) (stb_eq _ _) (fun ρ w' ho hK => by
        obtain ⟨h0, h1, -⟩ := hK
        have h0' : ρ (.tmp 44) = .slice (some ⟨b, o, none⟩) d.gates.length cg := h0
        have h1' : ρ (.tmp 45) = .int .i64 (k : Nat) := h1
        refine ⟨_, ?_, rfl⟩
        go_simp) ?_
      refine rs_look (hO _ _) (.inl (Nat.ne_of_beq_eq_false rfl)) (TEq (.pointer (some ⟨b, o + k * 2, none⟩))) (stb_eq _ _) (fun ρ w' ho hK => by
        obtain ⟨h0, -⟩ := hK
        have h0' : ρ (.tmp 46) = .pointer (some ⟨b, o + k * 2, none⟩) := h0
        refine ⟨_, ?_, rfl⟩
        go_simp) ?_
      refine rs_look (hO _ _) (.inl (Nat.ne_of_beq_eq_false rfl)) (TEq (.int .i64 (G1 : Nat))) (stb_eq _ _) (fun ρ w' ho hK => by
        obtain ⟨h0, -⟩ := hK
        have h0' : ρ (.tmp 47) = .pointer (some ⟨b, o + k * 2, none⟩) := h0
        have q := HB1 w' ho
        refine ⟨_, ?_, rfl⟩
        go_simp) ?_
      refine rs_call_before (hO _ _) (Nat.ne_of_beq_eq_false rfl) (by kernel_rfl) (TEq (.int .i64 (Cir.tlit E G1 : Nat))) (stb_eq _ _) 69 _ _ rfl (fun ρ w' ho hJ hK => by
        obtain ⟨hf, h0, h1, -⟩ := hK
        have hf' : ρ (.func 69) = .func (.func 69) #[] #[] := hf
        have h0' : ρ (.tmp 42) = vv := h0
        have h1' : ρ (.tmp 48) = .int .i64 (G1 : Nat) := h1
        refine ⟨#[vv, .int .i64 (G1 : Nat)], ?_, ?_⟩
        · go_simp
        · refine (l27Lit_any vv E G1 w' (HR.out w' hJ) (by rw [HEk.out]; exact g1) (by omega) HTk.out).mono ?_
          rintro e w2 ⟨rfl, rfl⟩
          exact ⟨_, rfl, rfl, Below.refl _ _⟩) ?_
      refine rs_old (hO _ _) (.inl (Nat.ne_of_beq_eq_false rfl)) _ (.inl rfl) _ rfl rfl ?_
      refine rs_look (hO _ _) (.inl (Nat.ne_of_beq_eq_false rfl)) (TEq (.pointer (some ⟨w.heap.size, 2, none⟩))) (stb_eq _ _) (fun ρ w' ho hK => by
        obtain ⟨h0, -⟩ := hK
        have h0' : ρ (.tmp 3) = .pointer (some ⟨w.heap.size, 0, none⟩) := h0
        refine ⟨_, ?_, rfl⟩
        go_simp) ?_
      refine rs_look (hO _ _) (.inl (Nat.ne_of_beq_eq_false rfl)) (TEq (.slice (some ⟨b, o, none⟩) d.gates.length cg)) (stb_eq _ _) (fun ρ w' ho hK => by
        obtain ⟨h0, -⟩ := hK
        have h0' : ρ (.tmp 51) = .pointer (some ⟨w.heap.size, 2, none⟩) := h0
        have q := HGS w' ho
        refine ⟨_, ?_, rfl⟩
        go_simp) ?_
      refine rs_old (hO _ _) (.inl (Nat.ne_of_beq_eq_false rfl)) _ (.inl rfl) _ rfl rfl ?_
      refine rs_look (hO _ _) (.inl (Nat.ne_of_beq_eq_false rfl)) (TEq (.pointer (some ⟨b, o + k * 2, none⟩))) (stb_eq _ _) (fun ρ w' ho hK => by
        obtain ⟨h0, h1, -⟩ := hK
        have h0' : ρ (.tmp 52) = .slice (some ⟨b, o, none⟩) d.gates.length cg := h0
        have h1' : ρ (.tmp 53) = .int .i64 (k : Nat) := h1
        refine ⟨_, ?_, rfl⟩
        go_simp) ?_
      refine rs_look (hO _ _) (.inl (Nat.ne_of_beq_eq_false rfl)) (TEq (.pointer (some ⟨b, o + k * 2 + 1, none⟩))) (stb_eq _ _) (fun ρ w' ho hK => by
        obtain ⟨h0, -⟩ := hK
        have h0' : ρ (.tmp 54) = .pointer (some ⟨b, o + k * 2, none⟩) := h0
        refine ⟨_, ?_, rfl⟩
        go_simp) ?_
      refine rs_look (hO _ _) (.inl (Nat.ne_of_beq_eq_false rfl)) (TEq (.int .i64 (G2 : Nat))) (stb_eq _ _) (fun ρ w' ho hK => by
        obtain ⟨h0, -⟩ := hK
        have h0' : ρ (.tmp 55) = .pointer (some ⟨b, o + k * 2 + 1, none⟩) := h0
        have q := HB2 w' ho
        refine ⟨_, ?_, rfl⟩
        go_simp) ?_
      refine rs_call_before (hO _ _) (Nat.ne_of_beq_eq_false rfl) (by kernel_rfl) (TEq (.int .i64 (Cir.tlit E G2 : Nat))) (stb_eq _ _) 69 _ _ rfl (fun ρ w' ho hJ hK => by
        obtain ⟨hf, h0, h1, -⟩ := hK
        have hf' : ρ (.func 69) = .func (.func 69) #[] #[] := hf
        have h0' : ρ (.tmp 50) = vv := h0
        have h1' : ρ (.tmp 56) = .int .i64 (G2 : Nat) := h1
        refine ⟨#[vv, .int .i64 (G2 : Nat)], ?_, ?_⟩
        · go_simp
        · refine (l27Lit_any vv E G2 w' (HR.out w' hJ) (by rw [HEk.out]; exact g2) (by omega) HTk.out).mono ?_
          rintro e w2 ⟨rfl, rfl⟩
          exact ⟨_, rfl, rfl, Below.refl _ _⟩) ?_
      refine rs_call (hO _ _) (.inl (Nat.ne_of_beq_eq_false rfl)) (TEq (.int .i64 (Cir.tand (Cir.tlit E G1) (Cir.tlit E G2) : Nat))) (stb_eq _ _) 68 _ _ rfl (fun ρ w' ho hK => by
        obtain ⟨hf, h0, h1, -⟩ := hK
        have hf' : ρ (.func 68) = .func (.func 68) #[] #[] := hf
        have h0' : ρ (.tmp 49) = .int .i64 (Cir.tlit E G1 : Nat) := h0
        have h1' : ρ (.tmp 57) = .int .i64 (Cir.tlit E G2 : Nat) := h1
        refine ⟨#[.int .i64 (Cir.tlit E G1 : Nat), .int .i64 (Cir.tlit E G2 : Nat)], ?_, ?_⟩
        · go_simp
        · refine (l27And_any _ _ w' hl1 hl2).mono ?_
          rintro e w2 ⟨rfl, rfl⟩
          exact ⟨_, rfl, rfl, Below.refl _ _⟩) ?_
      refine rs_build1 (hO _ _) (.inl (Nat.ne_of_beq_eq_false rfl)) 1 [.int .i64 (Cir.tand (Cir.tlit E G1) (Cir.tlit E G2) : Nat)] 3 rfl (fun ρ w' ho hK => by
        obtain ⟨h1, -⟩ := hK
        have h1' : ρ (.tmp 58) = .int .i64 (Cir.tand (Cir.tlit E G1) (Cir.tlit E G2) : Nat) := h1
        go_simp) ?_
      refine rs_append1 rfl (w.heap.size + 1) 3 23 1 vv (nf + k) (nints E) _ rfl rfl (fun g hg => hg) (show w.heap.size + 1 ≤ wr.heap.size by omega) _ _ rfl _ _ rfl rfl rfl rfl i0 _ 8 Try.underlying23 hi0 hz0 hz1 hz2 rfl (by decide) (by omega) (by decide) (by simp [Value.oneCell']) ?_
      refine rs_same (hO _ _) (.inl (Nat.ne_of_beq_eq_false rfl)) _ _ (.inr rfl) rfl _ rfl ?_
      intro f w9 k9 hk9 hI9 ht9 hcp9
      have hfe : f 20 = f 19 := (hcp9 20 _ 60 19 rfl rfl rfl rfl).2
      have hown9 : w9.ownsRow (w.heap.size + 1) 3 1 (f 19) (nf + k + 1) (nints E ++ [.int .i64 (Cir.tand (Cir.tlit E G1) (Cir.tlit E G2) : Nat)]) := hI9.2.2
      have Ho9 := Lib.hid hown9
      have hon : Only (fun g => vv.ownBlock = some g) wr w9 := hI9.2.1
      have HB9 : Hid (Below w.heap.size w w9) := Lib.hid (Only.below Hb.out hon hzr (fun g hg => by have := (Ho.out.lt g hg).1; omega))
      have P9 : Hid (PCells w9 w.heap.size d.ins (.slice An d.next.length cn) (.slice (some ⟨b, o, none⟩) d.gates.length cg) vo) := Lib.hid ⟨Nat.lt_of_lt_of_le z hon.size, cell_only hon hNg z p0, cell_only hon hNg z p1, cell_only hon hNg z p2, cell_only hon hNg z p3⟩
      simp only [putAll, hfe, Nat.zero_add, Nat.reduceAdd, Act.put, List.setIfInBounds_toArray, List.set_cons_succ, List.set_cons_zero]
      generalize f 19 = v9 at *
      generalize f 0 = z0, f 1 = z1, f 2 = z2, f 3 = z3, f 4 = z4, f 5 = z5, f 6 = z6, f 7 = z7, f 8 = z8, f 9 = z9, f 10 = z10, f 11 = z11, f 12 = z12, f 13 = z13, f 14 = z14, f 15 = z15, f 16 = z16, f 17 = z17, f 18 = z18
      clear hI9 ht9 hcp9 hk9 hfe hown9 hon HGS HB1 HB2 hO p0 p1 p2 p3
      go_wp2_with fail
      go_roundw
      case rel => exact ⟨v9, k + 1, rfl, by omega, by go_num, Lib.hid (by rw [HE2.out, HS.out]; exact Ho9.out), P9, HB9.out⟩
      case measure => simp [intOf] <;> omega
    · obtain rfl : k = d.gates.length := by omega
      obtain ⟨z, p0, p1, p2, p3⟩ := P.out
      have HLn := Lib.hid (HE.out d.gates.length (Nat.le_refl _))
      go_wp2_with fail
      go_ret
      refine ⟨_, rfl, ?_, hb⟩
      rw [nats_length, ← HVV.out, HLn.out]
      exact own_mono Ho.out (by omega)
set_option maxHeartbeats 8000000 in
theorem specEvalT_any (v vs vi : Value) (c : Cz) (st inp : List Int) (w : World) (h : CircAt w v c) (hs : IntsAt w vs st) (hi : IntsAt w vi inp) :
    Calls Try.prog 18 #[v, vs, vi] w (OwnInts (Cir.evalT c st inp) w) := by
  cases hok : Cir.evalOk c st inp
  · rw [Cir.evalT_no hok]
    obtain ⟨vn, vg, vo, rfl, r1, r2, r3⟩ := h
    obtain ⟨An, cn, hvn, hcn, hcmn⟩ := r1.shape
    subst hvn
    have B0 := Lib.hid (bel_al w (.cells #[.int .i64 c.ins, .slice An c.next.length cn, vg, vo] 26))
    obtain ⟨z, p0, p1, p2, p3⟩ := PCells.boxed w c.ins (.slice An c.next.length cn) vg vo 26
    have HC : Hid (CircAt (w.alloc (.cells #[.int .i64 c.ins, .slice An c.next.length cn, vg, vo] 26)) (.agg #[.int .i64 c.ins, .slice An c.next.length cn, vg, vo]) c) := Lib.hid (CircAt.below ⟨_, _, _, rfl, r1, r2, r3⟩ B0.out)
    generalize hW : w.alloc (.cells #[.int .i64 c.ins, .slice An c.next.length cn, vg, vo] 26) = W at *
    have HV := Lib.hid (specValid_any _ c _ HC.out)
    have HO1 := Lib.hid fun w' (hb : Below w.heap.size w w') => l27Ok_any vs st c.next.length w' (Row.below hs hb)
    have HO2 := Lib.hid fun w' (hb : Below w.heap.size w w') => l27Ok_any vi inp c.ins w' (Row.below hi hb)
    clear r1 r2 r3 hs hi HC
    have hcs : Cir.valid c = false ∨ (Cir.valid c = true ∧ (st.all Cir.tern && decide ((st.length : Int) = c.next.length)) = false) ∨ (Cir.valid c = true ∧ (st.all Cir.tern && decide ((st.length : Int) = c.next.length)) = true ∧ (inp.all Cir.tern && decide ((inp.length : Int) = c.ins)) = false) := by
      unfold Cir.evalOk at hok
      have e : decide ((st.length : Int) = c.next.length) = decide (st.length = c.next.length) := decide_eq_decide.2 (by omega)
      rw [e]
      revert hok
      cases Cir.valid c <;> cases decide (st.length = c.next.length) <;> cases decide ((inp.length : Int) = c.ins) <;> cases st.all Cir.tern <;> cases inp.all Cir.tern <;> simp
    rcases hcs with h1 | ⟨h1, h2⟩ | ⟨h1, h2, h3⟩
    · rw [h1] at HV
      clear h1 hok
      go_enter Try.func18, Try.ntmps18
      go_wp2_with fail
      refine HV.out.mono ?_
      rintro e w1 ⟨rfl, hb1⟩
      have B1 := Lib.hid (B0.out.trans (hb1.mono B0.out.size))
      clear hb1
      go_wp2_with fail
      go_ret
      exact own_lit0 w w1 B1.out 3
    · rw [h1] at HV
      rw [h2] at HO1
      clear h1 h2 hok
      go_enter Try.func18, Try.ntmps18
      go_wp2_with fail
      refine HV.out.mono ?_
      rintro e w1 ⟨rfl, hb1⟩
      have B1 := Lib.hid (B0.out.trans (hb1.mono B0.out.size))
      have k0 := (hb1.cell (p := ⟨w.heap.size, 0, none⟩) z).trans p0
      have k1 := (hb1.cell (p := ⟨w.heap.size, 1, none⟩) z).trans p1
      clear hb1 p0 p1 p2 p3
      go_wp2_with fail
      refine (HO1.out _ B1.out).mono ?_
      rintro e w' ⟨rfl, rfl⟩
      go_wp2_with fail
      go_ret
      exact own_lit0 w w1 B1.out 3
    · rw [h1] at HV
      rw [h2] at HO1
      rw [h3] at HO2
      clear h1 h2 h3 hok
      go_enter Try.func18, Try.ntmps18
      go_wp2_with fail
      refine HV.out.mono ?_
      rintro e w1 ⟨rfl, hb1⟩
      have B1 := Lib.hid (B0.out.trans (hb1.mono B0.out.size))
      have k0 := (hb1.cell (p := ⟨w.heap.size, 0, none⟩) z).trans p0
      have k1 := (hb1.cell (p := ⟨w.heap.size, 1, none⟩) z).trans p1
      clear hb1 p0 p1 p2 p3
      go_wp2_with fail
      refine (HO1.out _ B1.out).mono ?_
      rintro e w' ⟨rfl, rfl⟩
      go_wp2_with fail
      refine (HO2.out _ B1.out).mono ?_
      rintro e w' ⟨rfl, rfl⟩
      go_wp2_with fail
      go_ret
      exact own_lit0 w w1 B1.out 3
  · have hk := hok
    unfold Cir.evalOk at hk
    simp only [Bool.and_eq_true, decide_eq_true_eq] at hk
    obtain ⟨hv, k1, k2, k3, k4⟩ := hk
    obtain ⟨d1, d2⟩ := Cir.nat_ok hv
    obtain ⟨n1, m1⟩ := Cir.tern_nats k3
    obtain ⟨n2, m2⟩ := Cir.tern_nats k4
    have hR : Cir.evalT c st inp = nats (Cir.tvals (Cir.nat c) (st.map Int.toNat) (inp.map Int.toNat)) := by unfold Cir.evalT; rw [if_pos hok]
    rw [hR]
    refine specEvalT_ok v vs vi (Cir.nat c) _ _ w (by rw [← d1]; exact h) d2 (by rw [← d1]; exact hv) (by unfold NatsAt; rw [← n1]; exact hs) (by unfold NatsAt; rw [← n2]; exact hi) ?_ ?_ m1 m2
    · rw [List.length_map]
      have e : (Cir.nat c).ins = c.ins.toNat := rfl
      omega
    · rw [List.length_map]
      have e : (Cir.nat c).next.length = c.next.length := List.length_map _
      rw [e]
      exact k1
end Go.Proofs.Ytopimdakpnnbhaa

namespace Go.Proofs.Ytopimdakpnnbhaa
namespace Cir
/-! What a completion of ternary values is, plainly. -/
/-- The first k of the given values fit assignment x. -/
def fits (g : List Nat) (x : Nat) : Nat → Bool
  | 0 => true
  | k + 1 => fits g x k && (g.getD k 0 == 2 || g.getD k 0 == x / 2 ^ k % 2)
theorem fits_at {g : List Nat} {x : Nat} : ∀ {n k : Nat}, fits g x n = true → k < n → (g.getD k 0 = 2 ∨ g.getD k 0 = x / 2 ^ k % 2)
  | n + 1, k, h, hk => by
    rw [fits, Bool.and_eq_true] at h
    rcases Nat.lt_or_ge k n with h1 | h1
    · exact fits_at h.1 h1
    · obtain rfl : k = n := by omega
      simpa using h.2
theorem bits_get {x n i : Nat} {b : Bool} (h : (bits x n)[i]? = some b) : i < n ∧ b = x.testBit i := by
  unfold bits at h
  rw [List.getElem?_map, Option.map_eq_some_iff] at h
  obtain ⟨a, ha, hb⟩ := h
  rw [List.getElem?_eq_some_iff] at ha
  obtain ⟨h1, h2⟩ := ha
  simp at h1 h2
  exact ⟨h1, by rw [← hb, ← h2]⟩
theorem bit_mod (x i : Nat) : (x.testBit i).toNat = x / 2 ^ i % 2 := by rw [Nat.toNat_testBit]
theorem rt_fits {inp st : List Nat} {x : Nat} (h : fits (inp ++ st) x (inp ++ st).length = true) : RtAll inp (bits x inp.length) ∧ RtAll st (bits (x / 2 ^ inp.length) st.length) := by
  refine ⟨⟨by rw [bits_length], fun i t b h1 h2 => ?_⟩, ⟨by rw [bits_length], fun i t b h1 h2 => ?_⟩⟩
  · obtain ⟨hi, rfl⟩ := bits_get h2
    have := fits_at (k := i) h (by rw [List.length_append]; omega)
    rw [List.getD_eq_getElem?_getD, List.getElem?_append_left hi, h1] at this
    unfold Rt
    rw [bit_mod]
    simpa using this
  · obtain ⟨hi, rfl⟩ := bits_get h2
    have := fits_at (k := inp.length + i) h (by rw [List.length_append]; omega)
    rw [List.getD_eq_getElem?_getD, List.getElem?_append_right (by omega), Nat.add_sub_cancel_left, h1] at this
    unfold Rt
    rw [bit_mod, Nat.div_div_eq_div_mul, ← Nat.pow_add]
    simpa using this
/-- Whenever assignment x fits, the known values are right. -/
theorem tern_right (c : Ci) (hc : Ok c) {st inp : List Nat} {x : Nat} (l1 : inp.length = c.ins) (l2 : st.length = c.next.length) (h : fits (inp ++ st) x (inp ++ st).length = true) {k t : Nat} {b : Bool} (h1 : (tvals c st inp)[k]? = some t) (h2 : (vals c (bits (x / 2 ^ c.ins) c.next.length) (bits x c.ins))[k]? = some b) (ht : t ≠ 2) : t = b.toNat := by
  obtain ⟨h3, h4⟩ := rt_fits h
  rw [l1] at h3 h4
  rw [l2] at h4
  exact ((rt_vals c hc h3 h4 l1 l2).2 k t b h1 h2).resolve_left ht
end Cir
end Go.Proofs.Ytopimdakpnnbhaa
