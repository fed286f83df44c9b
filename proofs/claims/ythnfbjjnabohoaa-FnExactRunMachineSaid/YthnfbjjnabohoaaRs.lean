import Derived.Test.YthnfbjjnabohoaaRg
import Derived.Test.YthnfbjjnabohoaaOnly
import Derived.Test.YthnfbjjnabohoaaDraw
import Derived.Test.YthnfbjjnabohoaaApp
namespace Go.Proofs.Ythnfbjjnabohoaa
open Go.RowKit
/-! Regions that draw their order, one line an operation, in the text's order: the types of what the operations yield are found on the way. -/
abbrev Ty := World → Value → Prop
def TEq (c : Value) : Ty := fun _ v => v = c
def TInt (lo hi : Int) : Ty := fun _ v => ∃ x, v = .int .i64 x ∧ lo ≤ x ∧ x ≤ hi
def TBool : Ty := fun _ v => ∃ x, v = .bool x
/-- A slice of n cells of which G holds, in a block that nobody writes. -/
def TLit (E : Nat → Prop) (n : Nat) (G : Value → Prop) : Ty := fun w v => ∃ g, v = .slice (some ⟨g, 0, none⟩) n n ∧ ¬ E g ∧ g < w.heap.size ∧ ∀ i, i < n → ∃ x, w.cell? ⟨g, i, none⟩ = some x ∧ G x
def TPtr (E : Nat → Prop) (G : Value → Prop) : Ty := fun w v => ∃ g i x, v = .pointer (some ⟨g, i, none⟩) ∧ ¬ E g ∧ g < w.heap.size ∧ w.cell? ⟨g, i, none⟩ = some x ∧ G x
def TOf (G : Value → Prop) : Ty := fun _ v => G v
def TAny : Ty := fun _ _ => True
def GInt (lo hi : Int) (v : Value) : Prop := ∃ x, v = .int .i64 x ∧ lo ≤ x ∧ x ≤ hi
def Stb (E : Nat → Prop) (T : Ty) : Prop := ∀ v w w', T w v → Only E w w' → T w' v
section
variable (E : Nat → Prop)
theorem stb_eq (c : Value) : Stb E (TEq c) := fun _ _ _ h _ => h
theorem stb_int (lo hi : Int) : Stb E (TInt lo hi) := fun _ _ _ h _ => h
theorem stb_bool : Stb E TBool := fun _ _ _ h _ => h
theorem stb_of (G : Value → Prop) : Stb E (TOf G) := fun _ _ _ h _ => h
theorem stb_any : Stb E TAny := fun _ _ _ _ _ => trivial
variable {E} in
theorem cell_on {w w' : World} {g i : Nat} {u : Value} (hg : Only E w w') (hn : ¬ E g) (hl : g < w.heap.size) (h : w.cell? ⟨g, i, none⟩ = some u) : w'.cell? ⟨g, i, none⟩ = some u :=
  (World.cell?_of_block (a := ⟨g, i, none⟩) (hg.block g hl hn)).trans h
theorem stb_lit (n : Nat) (G : Value → Prop) : Stb E (TLit E n G) := by
  rintro v w w' ⟨g, hv, hn, hl, hc⟩ hg
  refine ⟨g, hv, hn, Nat.lt_of_lt_of_le hl hg.size, fun i hi => ?_⟩
  obtain ⟨x, hx, hb⟩ := hc i hi
  exact ⟨x, cell_on hg hn hl hx, hb⟩
theorem stb_ptr (G : Value → Prop) : Stb E (TPtr E G) := by
  rintro v w w' ⟨g, i, x, hv, hn, hl, hc, hb⟩ hg
  exact ⟨g, i, x, hv, hn, Nat.lt_of_lt_of_le hl hg.size, cell_on hg hn hl hc, hb⟩
end
/-- The type of the i-th operation; the list holds the last one first. -/
def tys (l : List Ty) (i : Nat) : Ty := l.getD (l.length - 1 - i) (TEq undef)
theorem tys_stb {E : Nat → Prop} {l : List Ty} (h : ∀ T ∈ l, Stb E T) (i : Nat) : Stb E (tys l i) := by
  unfold tys
  rw [List.getD_eq_getElem?_getD]
  cases hi : l[l.length - 1 - i]? with
  | none => exact stb_eq E undef
  | some T => exact h T (List.mem_of_getElem? hi)
theorem tys_old (T : Ty) (l : List Ty) {j : Nat} (h : j < l.length) : tys (T :: l) j = tys l j := by
  unfold tys
  rw [List.length_cons, show l.length + 1 - 1 - j = (l.length - 1 - j) + 1 from by omega]
  rfl
theorem tys_new (T : Ty) (l : List Ty) : tys (T :: l) l.length = T := by
  unfold tys
  rw [List.length_cons, show l.length + 1 - 1 - l.length = 0 from by omega]
  rfl
/-- The reader, where there is one: block R, at most P + k draws. -/
def RdO (rd : Option (Nat × Nat)) (k : Nat) (w : World) : Prop := match rd with | none => True | some (R, P) => Rd w R (P + k)
/-- What is fixed for a region: E: the blocks that its steps may write; F: those that all steps but the d-th may write; rd: its reader; J: what the d-th step is about. -/
structure RS where
  P : Program
  ops : Array Oper
  E : Nat → Prop
  F : Nat → Prop
  rd : Option (Nat × Nat)
  w0 : World
  J : Option Value → World → Prop
  d : Nat
  a0 : Act
def RS.I (S : RS) (k : Nat) (ov : Option Value) (w : World) : Prop := RdO S.rd k w ∧ Only S.E S.w0 w ∧ S.J ov w
structure RS.Ok (S : RS) : Prop where
  sub : ∀ g, S.F g → S.E g
  keep : ∀ ov w w', S.J ov w → Only S.F w w' → S.J ov w'
  reader : ∀ R P, S.rd = some (R, P) → S.F R ∧ R < S.w0.heap.size
  low : ∀ g, S.E g → g < S.w0.heap.size
def RSeq (S : RS) (Fin : List Ty → Prop) : List Oper → Nat → List Ty → Prop
  | [], _, τs => Fin τs
  | o :: l, i, τs => (∀ T ∈ τs, Stb S.E T) → ∃ T : Ty, Stb S.E T ∧ (∀ k ov ρ w, k < S.ops.size → S.I k ov w → (ancB S.ops 8 i S.d = true → ov = none) → Known S.ops (tys τs) S.a0 ρ w i o.op.operands.toList → Good S.P o ρ w fun v w' => T w' v ∧ S.I (k + 1) (if i = S.d then some v else ov) w' ∧ Only S.E w w') ∧ RSeq S Fin l (i + 1) (T :: τs)
theorem Good.mono {P : Program} {o : Oper} {ρ : Operand → Value} {w : World} {R R' : Value → World → Prop} (h : Good P o ρ w R) (hR : ∀ v w', R v w' → R' v w') : Good P o ρ w R' := by
  unfold Good at h ⊢
  generalize (execOp ρ o).run P w = r at h ⊢
  match r, h with
  | .ok (.value v) w', h => exact hR v w' h
  | .ok .skip w', h => exact hR _ w' h
  | .ok (.enter f args) w', h =>
    refine Calls.mono h fun e w'' he => ?_
    match e, he with
    | .returned v, he => exact hR v w'' he
theorem known_mono {ops : Array Oper} {τ τ' : Nat → World → Value → Prop} {a0 : Act} {ρ : Operand → Value} {w : World} {i : Nat} (h : ∀ j w v, j < i → τ j w v → τ' j w v) : ∀ xs : List Operand, Known ops τ a0 ρ w i xs → Known ops τ' a0 ρ w i xs
  | [], _ => trivial
  | .tmp t :: xs, ⟨h1, h2⟩ => by
    refine ⟨?_, known_mono h xs h2⟩
    cases hw : writer ops i t with
    | none => rw [hw] at h1; exact h1
    | some j =>
      rw [hw] at h1
      have hj : j < i := by
        have := List.mem_of_find?_eq_some hw
        exact List.mem_range.1 this
      exact h j w _ hj h1
  | .const v :: xs, ⟨h1, h2⟩ => ⟨h1, known_mono h xs h2⟩
  | .global v :: xs, ⟨h1, h2⟩ => ⟨h1, known_mono h xs h2⟩
  | .func v :: xs, ⟨h1, h2⟩ => ⟨h1, known_mono h xs h2⟩
/-- The types, all told. -/
theorem rseq_types {S : RS} {Fin : List Ty → Prop} : ∀ (l : List Oper) (τs : List Ty), S.ops.toList.drop τs.length = l → τs.length + l.length = S.ops.size → (∀ T ∈ τs, Stb S.E T) → RSeq S Fin l τs.length τs →
    ∃ τ : List Ty, (∀ j, j < τs.length → tys τ j = tys τs j) ∧ (∀ T ∈ τ, Stb S.E T) ∧ Fin τ ∧ ∀ i o, τs.length ≤ i → S.ops[i]? = some o → ∀ k ov ρ w, k < S.ops.size → S.I k ov w → (ancB S.ops 8 i S.d = true → ov = none) → Known S.ops (tys τ) S.a0 ρ w i o.op.operands.toList → Good S.P o ρ w fun v w' => tys τ i w' v ∧ S.I (k + 1) (if i = S.d then some v else ov) w' ∧ Only S.E w w'
  | [], τs, _, hlen, hst, h => by
    simp at hlen
    refine ⟨τs, fun _ _ => rfl, hst, h, fun i o hi ho => ?_⟩
    have := (Array.getElem?_eq_some_iff.1 ho).1
    omega
  | o :: l, τs, hl, hlen, hst, h => by
    obtain ⟨T, hT, hg, hr⟩ := h hst
    have hst' : ∀ T' ∈ T :: τs, Stb S.E T' := by
      intro T' hT'
      rcases List.mem_cons.1 hT' with h1 | h1
      · rw [h1]; exact hT
      · exact hst T' h1
    have hdrop : S.ops.toList.drop (T :: τs).length = l := by
      rw [List.length_cons, ← List.drop_drop, hl]; rfl
    obtain ⟨τ, h2, h3, h4, h5⟩ := rseq_types l (T :: τs) hdrop (by simp at hlen ⊢; omega) hst' (by rw [List.length_cons]; exact hr)
    rw [List.length_cons] at h2 h5
    have hget : ∀ j, j < τs.length → tys τ j = tys τs j := fun j hj => (h2 j (by omega)).trans (tys_old T τs hj)
    have hgetT : tys τ τs.length = T := (h2 _ (by omega)).trans (tys_new T τs)
    refine ⟨τ, hget, h3, h4, fun i o' hi ho => ?_⟩
    rcases Nat.lt_or_ge τs.length i with hlt | hge
    · exact h5 i o' hlt ho
    · obtain rfl : i = τs.length := by omega
      have : o' = o := by
        have e : S.ops.toList[τs.length]? = some o := by
          have := congrArg (fun l => l[0]?) hl
          simpa using this
        rw [Array.getElem?_toList] at e
        exact Option.some.inj (ho.symm.trans e)
      subst this
      intro k ov ρ w hk hI hd hK
      rw [hgetT]
      exact hg k ov ρ w hk hI hd (known_mono (fun j w v hj h => by rw [← hget j hj]; exact h) _ hK)
/-- THE RULE. -/
theorem wp_region_rs {id : Nat} {Q : Exit → Act → World → Prop} (S : RS) (hO : S.Ok) (hm : S.P.follows .mixedOrders = true) (hB : rgB S.ops = true) (hS : (S.ops.all fun o => match o.dst with | some t => decide (t < S.a0.tmps.size) | none => true) = true) (hd : S.d < S.ops.size)
    (hr : RdO S.rd 0 S.w0) (hJ : S.J none S.w0)
    (h : RSeq S (fun τ => ∀ f w' k, k ≤ S.ops.size → S.I k (some (f S.d)) w' → (∀ i, i < S.ops.size → tys τ i w' (f i)) → Copies S.ops (fun j => decide (j < S.ops.size)) f → Q .normal (putAll S.ops.toList f 0 S.a0) w') S.ops.toList 0 []) : (Code.region id S.ops true).wp S.P Q S.a0 S.w0 := by
  obtain ⟨τ, _, h3, h4, h5⟩ := rseq_types S.ops.toList [] (by simp) (by simp) (by simp) h
  refine wp_region_rga (tys τ) S.d S.I (Only S.E) hm hB hS ⟨?_, Only.drew _ _, hO.keep _ _ _ hJ (Only.drew _ _)⟩ (fun i v w w' ht hg => tys_stb h3 i v w w' ht hg) (fun i o ho => h5 i o (Nat.zero_le _) ho) hd (fun f w' k hk hI ht hc => h4 f w' k hk hI ht hc)
  cases hrd : S.rd with
  | none => trivial
  | some x =>
    rw [hrd] at hr
    exact Rd.drew1 hr
/-! ### The steps -/
section
variable {S : RS} {Fin : List Ty → Prop} {o : Oper} {l : List Oper} {i : Nat} {τs : List Ty}
/-- A step that is not the d-th. -/
theorem rs_plain (hO : S.Ok) (hid : i ≠ S.d ∨ ∀ ov w, S.J ov w) (T : Ty) (hT : Stb S.E T)
    (h : ∀ k ρ w, k < S.ops.size → RdO S.rd k w → Only S.E S.w0 w → Known S.ops (tys τs) S.a0 ρ w i o.op.operands.toList → Good S.P o ρ w fun v w' => T w' v ∧ RdO S.rd (k + 1) w' ∧ Only S.F w w')
    (rest : RSeq S Fin l (i + 1) (T :: τs)) : RSeq S Fin (o :: l) i τs := by
  intro _
  refine ⟨T, hT, fun k ov ρ w hk hI _ hK => ?_, rest⟩
  refine (h k ρ w hk hI.1 hI.2.1 hK).mono fun v w' ⟨h1, h2, h3⟩ => ?_
  refine ⟨h1, ⟨h2, hI.2.1.trans (h3.mono hO.sub), ?_⟩, h3.mono hO.sub⟩
  rcases hid with hid | hid
  · rw [if_neg hid]
    exact hO.keep _ _ _ hI.2.2 h3
  · exact hid _ _
theorem rdO_more {rd : Option (Nat × Nat)} {k : Nat} {w : World} (h : RdO rd k w) : RdO rd (k + 1) w := by
  cases rd with
  | none => trivial
  | some x => exact Rd.more h (by omega)
theorem rdO_only {rd : Option (Nat × Nat)} {k : Nat} {w w' : World} {F : Nat → Prop} (h : RdO rd k w) (hg : w.grownBy w' none) : RdO rd k w' := by
  cases rd with
  | none => trivial
  | some x => exact Rd.grown h hg (by simp)
/-- A step that leaves the world alone. -/
theorem rs_pure (hO : S.Ok) (hid : i ≠ S.d ∨ ∀ ov w, S.J ov w) (T : Ty) (hT : Stb S.E T)
    (h : ∀ ρ w, Known S.ops (tys τs) S.a0 ρ w i o.op.operands.toList → ∃ v, (execOp ρ o).run S.P w = .ok (.value v) w ∧ T w v)
    (rest : RSeq S Fin l (i + 1) (T :: τs)) : RSeq S Fin (o :: l) i τs := by
  refine rs_plain hO hid T hT (fun k ρ w _ hr _ hK => ?_) rest
  obtain ⟨v, h1, h2⟩ := h ρ w hK
  unfold Good
  rw [h1]
  exact ⟨h2, rdO_more hr, Only.refl _ _⟩
/-- 'move' and 'assign' of a slot of before, of a constant. -/
theorem rs_old (hO : S.Ok) (hid : i ≠ S.d ∨ ∀ ov w, S.J ov w) (x : Operand) (ho : o.op = .move x ∨ o.op = .assign x) (c : Value) (hx : S.a0.eval x = c) (hw : (match x with | .tmp t => writer S.ops i t | _ => none) = none)
    (rest : RSeq S Fin l (i + 1) (TEq c :: τs)) : RSeq S Fin (o :: l) i τs := by
  refine rs_pure hO hid _ (stb_eq _ _) (fun ρ w hK => ⟨ρ x, ?_, ?_⟩) rest
  · rcases ho with ho | ho <;> simp [execOp, ho, go_sem]
  · have he : o.op.operands.toList = [x] := by rcases ho with ho | ho <;> rw [ho] <;> rfl
    rw [he] at hK
    show ρ x = c
    rw [← hx]
    cases x with
    | tmp t =>
      have h1 := hK.1
      rw [show writer S.ops i t = none from hw] at h1
      exact h1
    | const v => exact hK.1
    | global v => exact hK.1
    | func v => exact hK.1
/-- 'move' and 'assign' of what the region yielded. -/
theorem rs_same (hO : S.Ok) (hid : i ≠ S.d ∨ ∀ ov w, S.J ov w) (t j : Nat) (ho : o.op = .move (.tmp t) ∨ o.op = .assign (.tmp t)) (hw : writer S.ops i t = some j) (T : Ty) (hT : tys τs j = T)
    (rest : RSeq S Fin l (i + 1) (T :: τs)) : RSeq S Fin (o :: l) i τs := by
  intro hst
  refine rs_pure hO hid T (hT ▸ tys_stb hst j) (fun ρ w hK => ⟨ρ (.tmp t), ?_, ?_⟩) rest hst
  · rcases ho with ho | ho <;> simp [execOp, ho, go_sem]
  · have he : o.op.operands.toList = [.tmp t] := by rcases ho with ho | ho <;> rw [ho] <;> rfl
    rw [he] at hK
    have h1 := hK.1
    rw [hw] at h1
    rw [← hT]
    exact h1
def FnOk (P' : Program) (f : FuncId) : Prop := ∀ (args : Array Value) (w : World), (callFunc f args).run P' w = .ok (.enter f args) w
/-- A draw: whatever is asked for. -/
theorem rs_pick (hO : S.Ok) (hid : i ≠ S.d ∨ ∀ ov w, S.J ov w) (f : FuncId) (x y : Operand) (at_ : Array TypeId) (R P hi : Nat) (ho : o.op = .call { callee := .value (.func f), args := #[x, y], argTypes := at_ }) (hrd : S.rd = some (R, P)) (hcf : FnOk S.P f)
    (hx : ∀ ρ w, Known S.ops (tys τs) S.a0 ρ w i [.func f, x, y] → ρ (.func f) = .func (.func f) #[] #[] ∧ ρ x = .pointer (some ⟨R, 0, none⟩) ∧ ∃ n : Int, ρ y = .int .i64 n ∧ 1 ≤ n ∧ n ≤ hi + 1)
    (hc : ∀ (n : Int) (k : Nat) (w : World), k < S.ops.size → 1 ≤ n → n ≤ hi + 1 → Rd w R (P + k) → Calls S.P f #[.pointer (some ⟨R, 0, none⟩), .int .i64 n] w fun e w' => ∃ x : Int, 0 ≤ x ∧ x ≤ hi ∧ e = .returned (.int .i64 x) ∧ Rd w' R (P + k + 1) ∧ w.grownBy w' (some R))
    (rest : RSeq S Fin l (i + 1) (TInt 0 hi :: τs)) : RSeq S Fin (o :: l) i τs := by
  refine rs_plain hO hid _ (stb_int _ _ _) (fun k ρ w hk hr hon hK => ?_) rest
  rw [ho] at hK
  obtain ⟨h1, h2, n, h3, h3', h4⟩ := hx ρ w hK
  rw [hrd] at hr
  have hrun : (execOp ρ o).run S.P w = .ok (.enter f #[.pointer (some ⟨R, 0, none⟩), .int .i64 n]) w := by
    simp [execOp, ho, h1, h2, h3, go_sem, Result.andThen]
    exact hcf _ _
  unfold Good
  rw [hrun]
  refine (hc n k w hk h3' h4 hr).mono ?_
  rintro e w' ⟨y, h5, h6, rfl, hr', hg⟩
  refine ⟨⟨y, rfl, h5, h6⟩, by rw [hrd]; exact hr', Only.grown hg fun q hq => ?_⟩
  cases hq
  exact (hO.reader R P hrd).1
/-- A call that makes memory alone. -/
theorem rs_call (hO : S.Ok) (hid : i ≠ S.d ∨ ∀ ov w, S.J ov w) (T : Ty) (hT : Stb S.E T) (f : FuncId) (args : Array Operand) (at_ : Array TypeId) (ho : o.op = .call { callee := .value (.func f), args := args, argTypes := at_ })
    (h : ∀ ρ w, Only S.E S.w0 w → Known S.ops (tys τs) S.a0 ρ w i (.func f :: args.toList) → ∃ vs, (execOp ρ o).run S.P w = .ok (.enter f vs) w ∧ Calls S.P f vs w fun e w' => ∃ v, e = .returned v ∧ T w' v ∧ Below w.heap.size w w')
    (rest : RSeq S Fin l (i + 1) (T :: τs)) : RSeq S Fin (o :: l) i τs := by
  refine rs_plain hO hid T hT (fun k ρ w hk hr hon hK => ?_) rest
  have he : o.op.operands.toList = .func f :: args.toList := by rw [ho]; simp [Op.operands, Call.operands]
  rw [he] at hK
  obtain ⟨vs, h1, h2⟩ := h ρ w hon hK
  unfold Good
  rw [h1]
  refine h2.mono ?_
  rintro e w' ⟨v, rfl, h3, h4⟩
  refine ⟨h3, ?_, Only.of_below _ h4⟩
  have hr' := rdO_more hr
  cases hrd : S.rd with
  | none => trivial
  | some x =>
    rw [hrd] at hr'
    exact Rd.below hr' h4 (Rd.lt hr')
/-- A literal. -/
theorem rs_build (hO : S.Ok) (hid : i ≠ S.d ∨ ∀ ov w, S.J ov w) (n : Nat) (G : Value → Prop) (e : TypeId)
    (h : ∀ ρ w, Known S.ops (tys τs) S.a0 ρ w i o.op.operands.toList → ∃ cs : Array Value, cs.size = n ∧ (execOp ρ o).run S.P w = .ok (.value (.slice (some ⟨w.heap.size, 0, none⟩) n n)) (w.alloc (.cells cs e)) ∧ ∀ c ∈ cs, G c)
    (rest : RSeq S Fin l (i + 1) (TLit S.E n G :: τs)) : RSeq S Fin (o :: l) i τs := by
  refine rs_plain hO hid _ (stb_lit _ _ _) (fun k ρ w hk hr hon hK => ?_) rest
  obtain ⟨cs, h1, h2, h3⟩ := h ρ w hK
  unfold Good
  rw [h2]
  have hb : Below w.heap.size w (w.alloc (.cells cs e)) := (Below.refl _ _).alloc (Nat.le_refl _) _
  refine ⟨⟨w.heap.size, rfl, fun hE => ?_, by simp, fun j hj => ?_⟩, ?_, Only.of_below _ hb⟩
  · have h4 := hO.low _ hE
    have h5 := hon.size
    omega
  · have hj' : j < cs.size := by omega
    exact ⟨cs[j], by rw [World.cell?_alloc_new]; exact Array.getElem?_eq_getElem hj', h3 _ (Array.getElem_mem hj')⟩
  · have hr' := rdO_more hr
    cases hrd : S.rd with
    | none => trivial
    | some x =>
      rw [hrd] at hr'
      exact Rd.alloc hr' _
def IxOk (P' : Program) (t : TypeId) : Prop := ∀ (w : World) (g n j : Nat), j < n → n ≤ 1000 → (Instr.indexAt t (.slice (some ⟨g, 0, none⟩) n n) (.int .i64 (j : Int))).run P' w = .ok (.pointer (some ⟨g, j, none⟩)) w
/-- An index of a literal. -/
theorem rs_index (hO : S.Ok) (hid : i ≠ S.d ∨ ∀ ov w, S.J ov w) (t : TypeId) (x y : Nat) (n : Nat) (G : Value → Prop) (hi : Int) (ho : o.op = .indexAddr t (.tmp x) (.tmp y)) (jx jy : Nat) (hx : writer S.ops i x = some jx) (hy : writer S.ops i y = some jy) (hTx : tys τs jx = TLit S.E n G) (hTy : tys τs jy = TInt 0 hi)
    (hn : n ≤ 1000) (hlt : hi < n) (hix : IxOk S.P t) (rest : RSeq S Fin l (i + 1) (TPtr S.E G :: τs)) : RSeq S Fin (o :: l) i τs := by
  refine rs_pure hO hid _ (stb_ptr _ _) (fun ρ w hK => ?_) rest
  rw [ho] at hK
  have h1 := hK.1
  have h2 := hK.2.1
  rw [hx] at h1
  rw [hy] at h2
  simp only [hTx] at h1
  simp only [hTy] at h2
  obtain ⟨g, hv, hg, hl, hc⟩ := h1
  obtain ⟨j, hj, h0, h1⟩ := h2
  obtain ⟨j', rfl⟩ := Int.eq_ofNat_of_zero_le h0
  obtain ⟨z, hz, hb⟩ := hc j' (by omega)
  refine ⟨.pointer (some ⟨g, j', none⟩), ?_, ⟨g, j', z, rfl, hg, hl, hz, hb⟩⟩
  have : j' < n := by omega
  have hr := hix w g n j' this hn
  simp [execOp, ho, hv, hj, Result.andThen, hr]
/-- What a pointer into a literal reads. -/
theorem rs_load (hO : S.Ok) (hid : i ≠ S.d ∨ ∀ ov w, S.J ov w) (t : TypeId) (x : Nat) (G : Value → Prop) (ho : o.op = .load t (.tmp x)) (jx : Nat) (hx : writer S.ops i x = some jx) (hTx : tys τs jx = TPtr S.E G) (ht : ∀ w, (isAgg t).run S.P w = .ok false w)
    (rest : RSeq S Fin l (i + 1) (TOf G :: τs)) : RSeq S Fin (o :: l) i τs := by
  refine rs_pure hO hid _ (stb_of _ _) (fun ρ w hK => ?_) rest
  rw [ho] at hK
  have h1 := hK.1
  rw [hx] at h1
  simp only [hTx] at h1
  obtain ⟨g, i, z, hv, hn, hl, hc, hG⟩ := h1
  refine ⟨z, ?_, hG⟩
  simp [execOp, ho, hv, go_sem, hc, ht, Result.andThen]
end
end Go.Proofs.Ythnfbjjnabohoaa
