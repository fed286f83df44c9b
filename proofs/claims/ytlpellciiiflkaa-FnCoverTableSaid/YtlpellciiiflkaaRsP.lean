import Derived.Test.YtlpellciiiflkaaRs
import Derived.Test.YtlpellciiiflkaaTwoB
namespace Go.Proofs.Ytlpellciiiflkaa
open Go.RowKit
/-! Drawn regions with literals of pairs of ints, and an append of one such pair to a row of the call's own. -/
def GAgg (G : Int × Int → Prop) (v : Value) : Prop := ∃ x : Int × Int, v = .agg #[.int .i64 x.1, .int .i64 x.2] ∧ G x
def TLitP (E : Nat → Prop) (n : Nat) (G : Int × Int → Prop) : Ty := fun w v => ∃ g, v = .slice (some ⟨g, 0, none⟩) n n ∧ ¬ E g ∧ g < w.heap.size ∧ ∀ i, i < n → ∃ x : Int × Int, w.cell? ⟨g, i * 2, none⟩ = some (.int .i64 x.1) ∧ w.cell? ⟨g, i * 2 + 1, none⟩ = some (.int .i64 x.2) ∧ G x
def TPtrP (E : Nat → Prop) (G : Int × Int → Prop) : Ty := fun w v => ∃ g i, ∃ x : Int × Int, v = .pointer (some ⟨g, i, none⟩) ∧ ¬ E g ∧ g < w.heap.size ∧ w.cell? ⟨g, i, none⟩ = some (.int .i64 x.1) ∧ w.cell? ⟨g, i + 1, none⟩ = some (.int .i64 x.2) ∧ G x
section
variable (E : Nat → Prop)
theorem stb_litP (n : Nat) (G : Int × Int → Prop) : Stb E (TLitP E n G) := by
  rintro v w w' ⟨g, hv, hn, hl, hc⟩ hg
  refine ⟨g, hv, hn, Nat.lt_of_lt_of_le hl hg.size, fun i hi => ?_⟩
  obtain ⟨x, hx, hy, hb⟩ := hc i hi
  exact ⟨x, cell_on hg hn hl hx, cell_on hg hn hl hy, hb⟩
theorem stb_ptrP (G : Int × Int → Prop) : Stb E (TPtrP E G) := by
  rintro v w w' ⟨g, i, x, hv, hn, hl, hc, hd, hb⟩ hg
  exact ⟨g, i, x, hv, hn, Nat.lt_of_lt_of_le hl hg.size, cell_on hg hn hl hc, cell_on hg hn hl hd, hb⟩
end
/-- What an append of one pair to the row v is about. -/
def JRow (B : Nat) (e : TypeId) (v : Value) (ks : List (Int × Int)) (G : Int × Int → Prop) : Option Value → World → Prop
  | none, w => w.ownsRow B e 2 v ks.length (cubes ks)
  | some v', w => ∃ x, G x ∧ w.ownsRow B e 2 v' (ks.length + 1) (cubes (ks ++ [x]))
@[reducible] def rowRS (Pg : Program) (ops : Array Oper) (R P : Nat) (w : World) (a : Act) (B : Nat) (e : TypeId) (v : Value) (ks : List (Int × Int)) (G : Int × Int → Prop) (d : Nat) : RS :=
  { P := Pg, ops := ops, E := fun g => g = R ∨ v.ownBlock = some g, F := (· = R), rd := some (R, P), w0 := w, J := JRow B e v ks G, d := d, a0 := a }
theorem rowRS_ok {Pg : Program} {ops : Array Oper} {R P : Nat} {w : World} {a : Act} {B : Nat} {e : TypeId} {v : Value} {ks : List (Int × Int)} {G : Int × Int → Prop} {d : Nat} (h : R < w.heap.size) (hB : R < B) (hown : w.ownsRow B e 2 v ks.length (cubes ks)) : (rowRS Pg ops R P w a B e v ks G d).Ok :=
  ⟨fun _ h => .inl h, fun ov w1 w2 hj ho => by
    have hg : w1.grownBy w2 (some R) := ho.grownBy
    cases ov with
    | none =>
      have hj' : w1.ownsRow B e 2 v ks.length (cubes ks) := hj
      refine World.ownsRow.kept hj' hg ?_
      cases hv : v.ownBlock with
      | none => exact .inl rfl
      | some g => exact .inr fun e => by have h1 := (hj'.lt g hv).1; have h2 := Option.some.inj e; omega
    | some v' =>
      obtain ⟨x, hx, hj'⟩ := hj
      refine ⟨x, hx, World.ownsRow.kept hj' hg ?_⟩
      cases hv : v'.ownBlock with
      | none => exact .inl rfl
      | some g => exact .inr fun e => by have h1 := (hj'.lt g hv).1; have h2 := Option.some.inj e; omega,
    fun _ _ e => by cases e; exact ⟨rfl, h⟩, fun g hg => by
      rcases hg with rfl | hg
      · exact h
      · exact (hown.lt g hg).2⟩
section
variable {S : RS} {Fin : List Ty → Prop} {o : Oper} {l : List Oper} {i : Nat} {τs : List Ty}
theorem rs_buildP (hO : S.Ok) (hid : i ≠ S.d ∨ ∀ ov w, S.J ov w) (n : Nat) (G : Int × Int → Prop) (e : TypeId)
    (h : ∀ ρ w, Known S.ops (tys τs) S.a0 ρ w i o.op.operands.toList → ∃ (ks : List (Int × Int)) (cs : Array Value), ks.length = n ∧ cs = (cubes ks).toArray ∧ (execOp ρ o).run S.P w = .ok (.value (.slice (some ⟨w.heap.size, 0, none⟩) n n)) (w.alloc (.cells cs e)) ∧ ∀ c ∈ ks, G c)
    (rest : RSeq S Fin l (i + 1) (TLitP S.E n G :: τs)) : RSeq S Fin (o :: l) i τs := by
  refine rs_plain hO hid _ (stb_litP _ _ _) (fun k ρ w hk hr hon hK => ?_) rest
  obtain ⟨ks, cs, h0, h1, h2, h3⟩ := h ρ w hK
  subst h0 h1
  unfold Good
  rw [h2]
  have hb : Below w.heap.size w (w.alloc (.cells (cubes ks).toArray e)) := (Below.refl _ _).alloc (Nat.le_refl _) _
  refine ⟨⟨w.heap.size, rfl, fun hE => ?_, by simp, fun j hj => ?_⟩, ?_, Only.of_below _ hb⟩
  · have h4 := hO.low _ hE
    have h5 := hon.size
    omega
  · obtain ⟨x, hx⟩ := at_some hj
    obtain ⟨h4, h5⟩ := cubes_get hx
    exact ⟨x, by rw [World.cell?_alloc_new, List.getElem?_toArray]; exact h4, by rw [World.cell?_alloc_new, List.getElem?_toArray]; exact h5, h3 x (List.mem_of_getElem? hx)⟩
  · have hr' := rdO_more hr
    cases hrd : S.rd with
    | none => trivial
    | some x =>
      rw [hrd] at hr'
      exact Rd.alloc hr' _
def IxOkP (P' : Program) (t : TypeId) : Prop := ∀ (w : World) (g n j : Nat), j < n → n ≤ 1000 → (Instr.indexAt t (.slice (some ⟨g, 0, none⟩) n n) (.int .i64 (j : Int))).run P' w = .ok (.pointer (some ⟨g, j * 2, none⟩)) w
theorem rs_indexP (hO : S.Ok) (hid : i ≠ S.d ∨ ∀ ov w, S.J ov w) (t : TypeId) (x y : Nat) (n : Nat) (G : Int × Int → Prop) (hi : Int) (ho : o.op = .indexAddr t (.tmp x) (.tmp y)) (jx jy : Nat) (hx : writer S.ops i x = some jx) (hy : writer S.ops i y = some jy) (hTx : tys τs jx = TLitP S.E n G) (hTy : tys τs jy = TInt 0 hi)
    (hn : n ≤ 1000) (hlt : hi < n) (hix : IxOkP S.P t) (rest : RSeq S Fin l (i + 1) (TPtrP S.E G :: τs)) : RSeq S Fin (o :: l) i τs := by
  refine rs_pure hO hid _ (stb_ptrP _ _) (fun ρ w hK => ?_) rest
  rw [ho] at hK
  have h1 := hK.1
  have h2 := hK.2.1
  rw [hx] at h1
  rw [hy] at h2
  simp only [hTx] at h1
  simp only [hTy] at h2
  obtain ⟨g, hv, hg, hl, hc⟩ := h1
  obtain ⟨j, hj, h0, h1⟩ := h2
  obtain ⟨j', rfl⟩ := Int.eq_ofNat_of_zero_le h0
  obtain ⟨z, hz, hz', hb⟩ := hc j' (by omega)
  refine ⟨.pointer (some ⟨g, j' * 2, none⟩), ?_, ⟨g, j' * 2, z, rfl, hg, hl, hz, hz', hb⟩⟩
  have : j' < n := by omega
  have hr := hix w g n j' this hn
  simp [execOp, ho, hv, hj, Result.andThen, hr]
def LdOkP (P' : Program) (t : TypeId) : Prop := ∀ (o : Oper) (x : Operand) (ρ : Operand → Value) (w : World) (g i : Nat) (a b : Int), o.op = .load t x → ρ x = .pointer (some ⟨g, i, none⟩) → w.cell? ⟨g, i, none⟩ = some (.int .i64 a) → w.cell? ⟨g, i + 1, none⟩ = some (.int .i64 b) → (execOp ρ o).run P' w = .ok (.value (.agg #[.int .i64 a, .int .i64 b])) w
theorem rs_loadP (hO : S.Ok) (hid : i ≠ S.d ∨ ∀ ov w, S.J ov w) (t : TypeId) (x : Nat) (G : Int × Int → Prop) (ho : o.op = .load t (.tmp x)) (jx : Nat) (hx : writer S.ops i x = some jx) (hTx : tys τs jx = TPtrP S.E G) (ht : LdOkP S.P t)
    (rest : RSeq S Fin l (i + 1) (TOf (GAgg G) :: τs)) : RSeq S Fin (o :: l) i τs := by
  refine rs_pure hO hid _ (stb_of _ _) (fun ρ w hK => ?_) rest
  rw [ho] at hK
  have h1 := hK.1
  rw [hx] at h1
  simp only [hTx] at h1
  obtain ⟨g, i, z, hv, hn, hl, hc, hd, hG⟩ := h1
  exact ⟨_, ht o _ ρ w g i z.1 z.2 ho hv hc hd, z, rfl, hG⟩
/-- The append. -/
theorem rs_appendP (hd : i = S.d) (B : Nat) (e t : TypeId) (v : Value) (ks : List (Int × Int)) (G : Int × Int → Prop) (hJ : S.J = JRow B e v ks G) (R P : Nat) (hrd : S.rd = some (R, P)) (hE : ∀ g, v.ownBlock = some g → S.E g) (hRB : R < B) (hB : B ≤ S.w0.heap.size)
    (x y : Nat) (ho : o.op = .call { callee := .builtin .append, args := #[.tmp x, .tmp y], argTypes := #[t, t] }) (jx jy : Nat) (hx : writer S.ops i x = some jx) (hy : writer S.ops i y = some jy) (hTx : tys τs jx = TEq v) (hTy : tys τs jy = TLitP S.E 1 G)
    (inf : TypeInfo) (z : Value) (bytes : Nat) (ht : S.P.underlying t = some (.slice e)) (hi : S.P.info? e = some inf) (hz : inf.zero = some z) (hsize : inf.size = 2) (hby : inf.bytes = bytes) (hzs : z.cells.size = 2) (h63 : ks.length ≤ 1000000) (hbb : bytes ≤ 1000)
    (rest : RSeq S Fin l (i + 1) (TAny :: τs)) : RSeq S Fin (o :: l) i τs := by
  intro _
  refine ⟨TAny, stb_any _, fun k ov ρ w hk hI hov hK => ?_, rest⟩
  obtain rfl := hov hd
  rw [ho] at hK
  have h1 := hK.1
  have h2 := hK.2.1
  rw [hx] at h1
  rw [hy] at h2
  simp only [hTx] at h1
  simp only [hTy] at h2
  have h1' : ρ (.tmp x) = v := h1
  obtain ⟨g, hv, hg, hl, hc⟩ := h2
  obtain ⟨q, hq0, hq1, hG⟩ := hc 0 (by omega)
  have hown : w.ownsRow B e 2 v ks.length (cubes ks) := by have := hI.2.2; rw [hJ] at this; exact this
  have hr : Row w 2 (.slice (some ⟨g, 0, none⟩) 1 1) 1 (cubes [q]) := ⟨rfl, _, 1, rfl, Nat.le_refl _, by unfold maxLen; omega, fun _ => ⟨g, 0, rfl, hl, fun j u hu => by
    match j, hu with
    | 0, hu => have := Option.some.inj hu; subst this; exact hq0
    | 1, hu => have := Option.some.inj hu; subst this; exact hq1
    | j + 2, hu => simp [cubes] at hu⟩⟩
  obtain ⟨v', w', hrun, hown', hgr, _⟩ := run_append_row_at (P := S.P) w B t o.type e inf z 2 bytes ht hi hz hsize hby hzs (by decide) v ks.length (cubes ks) hown _ 1 (cubes [q]) hr (by simp [cubes, Value.oneCell']) (by unfold maxLen; omega) (Nat.le_trans (Nat.mul_le_mul (show ks.length + 1 ≤ 1000001 by omega) hbb) (by decide)) (Nat.le_trans hB hI.2.1.size)
  have hre : (execOp ρ o).run S.P w = .ok (.value v') w' := by
    unfold execOp
    simp only [ho, resolve, invoke, builtin, Sem.run_bind, Sem.run_pure, Result.andThen_ok, List.map_toArray, List.map_cons, List.map_nil, h1', hv, hrun]
  unfold Good
  rw [hre]
  have hon : Only S.E w w' := Only.grown hgr hE
  refine ⟨trivial, ⟨?_, hI.2.1.trans hon, ?_⟩, hon⟩
  · have hr' := hI.1
    rw [hrd] at hr' ⊢
    have hr'' : Rd w R (P + k) := hr'
    exact (hr''.grown hgr fun q hq => by have := (hown.lt q hq).1; omega).more (by omega)
  · rw [if_pos hd, hJ]
    exact ⟨q, hG, by rw [cubes_append]; exact hown'⟩
end
end Go.Proofs.Ytlpellciiiflkaa
