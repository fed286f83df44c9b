import Derived.Test.YthnfbjjnabohoaaRs
import Derived.Test.YthnfbjjnabohoaaPair
namespace Go.Proofs.Ythnfbjjnabohoaa
open Go.RowKit
/-! Drawn regions that make memory alone, with slices of booleans. -/
theorem only_below {w w' : World} (h : Only (fun _ => False) w w') : Below w.heap.size w w' := ⟨h.os, h.tape, h.output, h.size, fun k hk => h.block k hk id⟩
def TBools (xs : List Bool) : Ty := fun w v => BoolsAt w v xs
theorem stb_bools (xs : List Bool) : Stb (fun _ => False) (TBools xs) := fun _ _ _ h ho => Row.below h (only_below ho)
def TInts (xs : List Int) : Ty := fun w v => IntsAt w v xs
theorem stb_ints (xs : List Int) : Stb (fun _ => False) (TInts xs) := fun _ _ _ h ho => Row.below h (only_below ho)
def JNo : Option Value → World → Prop := fun _ _ => True
@[reducible] def quietRS (Pg : Program) (ops : Array Oper) (w : World) (a : Act) : RS := { P := Pg, ops := ops, E := fun _ => False, F := fun _ => False, rd := none, w0 := w, J := JNo, d := 0, a0 := a }
theorem quietRS_ok {Pg : Program} {ops : Array Oper} {w : World} {a : Act} : (quietRS Pg ops w a).Ok :=
  ⟨fun _ h => h, fun _ _ _ _ _ => trivial, fun _ _ e => (by cases e), fun _ e => e.elim⟩
theorem quiet_any {Pg : Program} {ops : Array Oper} {w : World} {a : Act} {i : Nat} : i ≠ (quietRS Pg ops w a).d ∨ ∀ ov w', (quietRS Pg ops w a).J ov w' := .inr fun _ _ => trivial
section
variable {S : RS} {Fin : List Ty → Prop} {o : Oper} {l : List Oper} {i : Nat} {τs : List Ty}
/-- A step that leaves the world alone and may read it. -/
theorem rs_look (hO : S.Ok) (hid : i ≠ S.d ∨ ∀ ov w, S.J ov w) (T : Ty) (hT : Stb S.E T)
    (h : ∀ ρ w, Only S.E S.w0 w → Known S.ops (tys τs) S.a0 ρ w i o.op.operands.toList → ∃ v, (execOp ρ o).run S.P w = .ok (.value v) w ∧ T w v)
    (rest : RSeq S Fin l (i + 1) (T :: τs)) : RSeq S Fin (o :: l) i τs := by
  refine rs_plain hO hid T hT (fun k ρ w _ hr ho hK => ?_) rest
  obtain ⟨v, h1, h2⟩ := h ρ w ho hK
  unfold Good
  rw [h1]
  exact ⟨h2, rdO_more hr, Only.refl _ _⟩
/-- A step that lays a block. -/
theorem rs_alloc (hO : S.Ok) (hid : i ≠ S.d ∨ ∀ ov w, S.J ov w) (T : Ty) (hT : Stb S.E T)
    (h : ∀ ρ w, Only S.E S.w0 w → Known S.ops (tys τs) S.a0 ρ w i o.op.operands.toList → ∃ v c, (execOp ρ o).run S.P w = .ok (.value v) (w.alloc c) ∧ T (w.alloc c) v)
    (rest : RSeq S Fin l (i + 1) (T :: τs)) : RSeq S Fin (o :: l) i τs := by
  refine rs_plain hO hid T hT (fun k ρ w _ hr ho hK => ?_) rest
  obtain ⟨v, c, h1, h2⟩ := h ρ w ho hK
  unfold Good
  rw [h1]
  refine ⟨h2, ?_, Only.of_below _ ((Below.refl _ _).alloc (Nat.le_refl _) c)⟩
  have hr' := rdO_more hr
  cases hrd : S.rd with
  | none => trivial
  | some x =>
    rw [hrd] at hr'
    exact Rd.alloc hr' _
/-- A step that must come before the d-th one: it finds J as it was. -/
theorem rs_before (hO : S.Ok) (hid : i ≠ S.d) (hanc : ancB S.ops 8 i S.d = true) (T : Ty) (hT : Stb S.E T)
    (h : ∀ k ρ w, RdO S.rd k w → Only S.E S.w0 w → S.J none w → Known S.ops (tys τs) S.a0 ρ w i o.op.operands.toList → Good S.P o ρ w fun v w' => T w' v ∧ RdO S.rd (k + 1) w' ∧ Only S.F w w')
    (rest : RSeq S Fin l (i + 1) (T :: τs)) : RSeq S Fin (o :: l) i τs := by
  intro _
  refine ⟨T, hT, fun k ov ρ w hk hI hov hK => ?_, rest⟩
  obtain rfl := hov hanc
  refine (h k ρ w hI.1 hI.2.1 hI.2.2 hK).mono fun v w' ⟨h1, h2, h3⟩ => ?_
  refine ⟨h1, ⟨h2, hI.2.1.trans (h3.mono hO.sub), ?_⟩, h3.mono hO.sub⟩
  rw [if_neg hid]
  exact hO.keep _ _ _ hI.2.2 h3
/-- A call that must come before the d-th step and makes memory alone. -/
theorem rs_call_before (hO : S.Ok) (hid : i ≠ S.d) (hanc : ancB S.ops 8 i S.d = true) (T : Ty) (hT : Stb S.E T) (f : FuncId) (args : Array Operand) (at_ : Array TypeId) (ho : o.op = .call { callee := .value (.func f), args := args, argTypes := at_ })
    (h : ∀ ρ w, Only S.E S.w0 w → S.J none w → Known S.ops (tys τs) S.a0 ρ w i (.func f :: args.toList) → ∃ vs, (execOp ρ o).run S.P w = .ok (.enter f vs) w ∧ Calls S.P f vs w fun e w' => ∃ v, e = .returned v ∧ T w' v ∧ Below w.heap.size w w')
    (rest : RSeq S Fin l (i + 1) (T :: τs)) : RSeq S Fin (o :: l) i τs := by
  refine rs_before hO hid hanc T hT (fun k ρ w hr hon hJ hK => ?_) rest
  have he : o.op.operands.toList = .func f :: args.toList := by rw [ho]; simp [Op.operands, Call.operands]
  rw [he] at hK
  obtain ⟨vs, h1, h2⟩ := h ρ w hon hJ hK
  unfold Good
  rw [h1]
  refine h2.mono ?_
  rintro e w' ⟨v, rfl, h3, h4⟩
  refine ⟨h3, ?_, Only.of_below _ h4⟩
  have hr' := rdO_more hr
  cases hrd : S.rd with
  | none => trivial
  | some x =>
    rw [hrd] at hr'
    exact Rd.below hr' h4 (Rd.lt hr')
end
/-! ### An append of known cells to a row of the call's own -/
def JApp (B : Nat) (e : TypeId) (size : Nat) (v : Value) (n : Nat) (cs news : List Value) : Option Value → World → Prop
  | none, w => w.ownsRow B e size v n cs
  | some v', w => w.ownsRow B e size v' (n + 1) (cs ++ news)
@[reducible] def appRS (Pg : Program) (ops : Array Oper) (w : World) (a : Act) (B : Nat) (e : TypeId) (size : Nat) (v : Value) (n : Nat) (cs news : List Value) (d : Nat) : RS :=
  { P := Pg, ops := ops, E := fun g => v.ownBlock = some g, F := fun _ => False, rd := none, w0 := w, J := JApp B e size v n cs news, d := d, a0 := a }
theorem appRS_ok {Pg : Program} {ops : Array Oper} {w : World} {a : Act} {B : Nat} {e : TypeId} {size : Nat} {v : Value} {n : Nat} {cs news : List Value} {d : Nat} (hown : w.ownsRow B e size v n cs) : (appRS Pg ops w a B e size v n cs news d).Ok :=
  ⟨fun _ h => h.elim, fun ov w1 w2 hj ho => by
    cases ov with
    | none => exact own_below hj (only_below ho)
    | some v' => exact own_below hj (only_below ho),
    fun _ _ e => (by cases e), fun g hg => (hown.lt g hg).2⟩
/-- A slice that lies in a block that nobody writes, and its cells. -/
def TNew (E : Nat → Prop) (size m : Nat) (news : List Value) : Ty := fun w v => Row w size v m news ∧ ∃ g c, v = .slice (some ⟨g, 0, none⟩) m c ∧ ¬ E g ∧ g < w.heap.size
theorem stb_new (E : Nat → Prop) (size m : Nat) (news : List Value) : Stb E (TNew E size m news) := by
  rintro v w w' ⟨h, g, c, rfl, hn, hl⟩ ho
  refine ⟨?_, g, c, rfl, hn, Nat.lt_of_lt_of_le hl ho.size⟩
  obtain ⟨h0, A, c', hv, h1, h2, h3⟩ := h
  injection hv with e1 _ e3
  subst e1 e3
  refine ⟨h0, _, c, rfl, h1, h2, fun hp => ?_⟩
  obtain ⟨b, o, hA, hb, hc⟩ := h3 hp
  have hA' := Option.some.inj hA
  injection hA' with e4 e5
  subst e4 e5
  exact ⟨g, 0, rfl, Nat.lt_of_lt_of_le hl ho.size, fun j u hu => (World.cell?_of_block (a := ⟨g, 0 + j, none⟩) (ho.block g hl hn)).trans (hc j u hu)⟩
section
variable {S : RS} {Fin : List Ty → Prop} {o : Oper} {l : List Oper} {i : Nat} {τs : List Ty}
/-- A literal of one element. -/
theorem rs_build1 (hO : S.Ok) (hid : i ≠ S.d ∨ ∀ ov w, S.J ov w) (size : Nat) (news : List Value) (e : TypeId) (hs : news.length = size)
    (h : ∀ ρ w, Only S.E S.w0 w → Known S.ops (tys τs) S.a0 ρ w i o.op.operands.toList → (execOp ρ o).run S.P w = .ok (.value (.slice (some ⟨w.heap.size, 0, none⟩) 1 1)) (w.alloc (.cells news.toArray e)))
    (rest : RSeq S Fin l (i + 1) (TNew S.E size 1 news :: τs)) : RSeq S Fin (o :: l) i τs := by
  refine rs_alloc hO hid _ (stb_new _ _ _ _) (fun ρ w hon hK => ?_) rest
  refine ⟨_, _, h ρ w hon hK, Row.of_own (World.ownsRow_lit (base := w.heap.size) (e := e) (size := size) w news.toArray 1 (Nat.le_refl _) (by unfold maxLen; omega) (by simp [hs])), w.heap.size, 1, rfl, fun hE => ?_, by simp⟩
  have h4 := hO.low _ hE
  have h5 := hon.size
  omega
/-- The append. -/
theorem rs_append1 (hd : i = S.d) (B : Nat) (e t : TypeId) (size : Nat) (v : Value) (n : Nat) (cs news : List Value) (hJ : S.J = JApp B e size v n cs news) (hrd : S.rd = none) (hE : ∀ g, v.ownBlock = some g → S.E g) (hB : B ≤ S.w0.heap.size)
    (x y : Nat) (ho : o.op = .call { callee := .builtin .append, args := #[.tmp x, .tmp y], argTypes := #[t, t] }) (jx jy : Nat) (hx : writer S.ops i x = some jx) (hy : writer S.ops i y = some jy) (hTx : tys τs jx = TEq v) (hTy : tys τs jy = TNew S.E size 1 news)
    (inf : TypeInfo) (z : Value) (bytes : Nat) (ht : S.P.underlying t = some (.slice e)) (hi : S.P.info? e = some inf) (hz : inf.zero = some z) (hsize : inf.size = size) (hby : inf.bytes = bytes) (hzs : z.cells.size = size) (hsz : 0 < size) (h63 : n ≤ 1000000) (hbb : bytes ≤ 1000) (hone : ∀ u ∈ news, u.oneCell' = true)
    (rest : RSeq S Fin l (i + 1) (TAny :: τs)) : RSeq S Fin (o :: l) i τs := by
  intro _
  refine ⟨TAny, stb_any _, fun k ov ρ w hk hI hov hK => ?_, rest⟩
  obtain rfl := hov (by rw [hd]; exact ancB_self _ _ _)
  rw [ho] at hK
  have h1 := hK.1
  have h2 := hK.2.1
  rw [hx] at h1
  rw [hy] at h2
  simp only [hTx] at h1
  simp only [hTy] at h2
  have h1' : ρ (.tmp x) = v := h1
  have h2' : Row w size (ρ (.tmp y)) 1 news := h2.1
  have hown : w.ownsRow B e size v n cs := by have := hI.2.2; rw [hJ] at this; exact this
  obtain ⟨v', w', hrun, hown', hgr, _⟩ := run_append_row_at (P := S.P) w B t o.type e inf z size bytes ht hi hz hsize hby hzs hsz v n cs hown _ 1 news h2' hone (by unfold maxLen; omega) (Nat.le_trans (Nat.mul_le_mul (show n + 1 ≤ 1000001 by omega) hbb) (by decide)) (Nat.le_trans hB hI.2.1.size)
  have hre : (execOp ρ o).run S.P w = .ok (.value v') w' := by
    unfold execOp
    simp only [ho, resolve, invoke, builtin, Sem.run_bind, Sem.run_pure, Result.andThen_ok, List.map_toArray, List.map_cons, List.map_nil, h1', hrun]
  unfold Good
  rw [hre]
  have hon : Only S.E w w' := Only.grown hgr hE
  refine ⟨trivial, ⟨?_, hI.2.1.trans hon, ?_⟩, hon⟩
  · rw [hrd]; trivial
  · rw [if_pos hd, hJ]
    exact hown'
end
end Go.Proofs.Ythnfbjjnabohoaa
