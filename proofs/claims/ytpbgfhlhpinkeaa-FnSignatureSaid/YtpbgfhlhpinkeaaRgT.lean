import Derived.Test.YtpbgfhlhpinkeaaRg
import Derived.Test.YtpbgfhlhpinkeaaDraw
namespace Go.Proofs.Ytpbgfhlhpinkeaa
open Go.RowKit
/-! What the operations of a drawn region yield, for regions that draw numbers out of a reader at block R. E: the blocks that the region's steps may write. -/
structure Only (E : Nat → Prop) (w w' : World) : Prop where
  os : w'.os = w.os
  tape : w'.tape = w.tape
  output : w'.output = w.output
  size : w.heap.size ≤ w'.heap.size
  block : ∀ k, k < w.heap.size → ¬ E k → w'.heap[k]? = w.heap[k]?
section
variable {E : Nat → Prop} {a b c : World}
theorem Only.refl (E : Nat → Prop) (w : World) : Only E w w := ⟨rfl, rfl, rfl, Nat.le_refl _, fun _ _ _ => rfl⟩
theorem Only.trans (h : Only E a b) (h' : Only E b c) : Only E a c :=
  ⟨h'.os.trans h.os, h'.tape.trans h.tape, h'.output.trans h.output, Nat.le_trans h.size h'.size, fun k hk he => (h'.block k (Nat.lt_of_lt_of_le hk h.size) he).trans (h.block k hk he)⟩
theorem Only.grown {r : Option Nat} (h : a.grownBy b r) (hr : ∀ k, r = some k → E k) : Only E a b :=
  ⟨h.os, h.tape, h.output, h.size, fun k hk he => h.block k hk fun e => he (hr k e.symm)⟩
theorem Only.drew (w : World) : Only E w w.drew := ⟨rfl, rfl, rfl, Nat.le_refl _, fun _ _ _ => rfl⟩
theorem Only.mono {F : Nat → Prop} (h : Only E a b) (hE : ∀ k, E k → F k) : Only F a b := ⟨h.os, h.tape, h.output, h.size, fun k hk he => h.block k hk fun e => he (hE k e)⟩
theorem Only.below {B : Nat} {w : World} (h : Below B w a) (h' : Only E a b) (hB : B ≤ a.heap.size) (hE : ∀ k, E k → B ≤ k) : Below B w b :=
  ⟨h'.os.trans h.os, h'.tape.trans h.tape, h'.output.trans h.output, Nat.le_trans h.size h'.size, fun k hk => (h'.block k (Nat.lt_of_lt_of_le hk hB) fun e => by have := hE k e; omega).trans (h.block k hk)⟩
end
abbrev Ty := World → Value → Prop
def TEq (c : Value) : Ty := fun _ v => v = c
def TInt (lo hi : Int) : Ty := fun _ v => ∃ x, v = .int .i64 x ∧ lo ≤ x ∧ x ≤ hi
/-- A slice of n numbers between lo and hi, in a block that nobody writes. -/
def TLit (E : Nat → Prop) (n : Nat) (lo hi : Int) : Ty := fun w v => ∃ g, v = .slice (some ⟨g, 0, none⟩) n n ∧ ¬ E g ∧ g < w.heap.size ∧ ∀ i, i < n → ∃ x, w.cell? ⟨g, i, none⟩ = some (.int .i64 x) ∧ lo ≤ x ∧ x ≤ hi
def TPtr (E : Nat → Prop) (lo hi : Int) : Ty := fun w v => ∃ g i x, v = .pointer (some ⟨g, i, none⟩) ∧ ¬ E g ∧ g < w.heap.size ∧ w.cell? ⟨g, i, none⟩ = some (.int .i64 x) ∧ lo ≤ x ∧ x ≤ hi
def TAny : Ty := fun _ _ => True
def Stb (E : Nat → Prop) (T : Ty) : Prop := ∀ v w w', T w v → Only E w w' → T w' v
section
variable (E : Nat → Prop)
theorem stb_eq (c : Value) : Stb E (TEq c) := fun _ _ _ h _ => h
theorem stb_int (lo hi : Int) : Stb E (TInt lo hi) := fun _ _ _ h _ => h
theorem stb_any : Stb E TAny := fun _ _ _ _ _ => trivial
variable {E} in
theorem cell_on {w w' : World} {g i : Nat} {u : Value} (hg : Only E w w') (hn : ¬ E g) (hl : g < w.heap.size) (h : w.cell? ⟨g, i, none⟩ = some u) : w'.cell? ⟨g, i, none⟩ = some u :=
  (World.cell?_of_block (a := ⟨g, i, none⟩) (hg.block g hl hn)).trans h
theorem stb_lit (n : Nat) (lo hi : Int) : Stb E (TLit E n lo hi) := by
  rintro v w w' ⟨g, hv, hn, hl, hc⟩ hg
  refine ⟨g, hv, hn, Nat.lt_of_lt_of_le hl hg.size, fun i hi => ?_⟩
  obtain ⟨x, hx, hb⟩ := hc i hi
  exact ⟨x, cell_on hg hn hl hx, hb⟩
theorem stb_ptr (lo hi : Int) : Stb E (TPtr E lo hi) := by
  rintro v w w' ⟨g, i, x, hv, hn, hl, hc, hb⟩ hg
  exact ⟨g, i, x, hv, hn, Nat.lt_of_lt_of_le hl hg.size, cell_on hg hn hl hc, hb⟩
end
def tys (l : List Ty) (i : Nat) : Ty := l.getD i (TEq undef)
theorem tys_stb {E : Nat → Prop} {l : List Ty} (h : ∀ T ∈ l, Stb E T) (i : Nat) : Stb E (tys l i) := by
  unfold tys
  rw [List.getD_eq_getElem?_getD]
  cases hi : l[i]? with
  | none => exact stb_eq E undef
  | some T => exact h T (List.mem_of_getElem? hi)
/-- The reader lies at R; the world has grown out of w0 by writes to E; J holds besides. -/
def RdI (E : Nat → Prop) (R P : Nat) (w0 : World) (J : Option Value → World → Prop) (k : Nat) (ov : Option Value) (w : World) : Prop := Rd w R (P + k) ∧ Only E w0 w ∧ J ov w
/-- J outlives a step that writes the reader alone. -/
def JS (R : Nat) (J : Option Value → World → Prop) : Prop := ∀ ov w w', J ov w → w.grownBy w' (some R) → J ov w'
def JNone : Option Value → World → Prop := fun _ _ => True
theorem js_none (R : Nat) : JS R JNone := fun _ _ _ _ _ => trivial
/-- A row of the call's own, before and behind an append. -/
def JOwn (B : Nat) (e : TypeId) (size : Nat) (v0 : Value) (n : Nat) (xs : List Value) (m : Nat) (N : List Value → Prop) : Option Value → World → Prop
  | none, w => w.ownsRow B e size v0 n xs
  | some v, w => ∃ news, N news ∧ w.ownsRow B e size v (n + m) (xs ++ news)
theorem js_own {B : Nat} {e : TypeId} {size : Nat} {v0 : Value} {n : Nat} {xs : List Value} {m : Nat} {N : List Value → Prop} {R : Nat} (hR : R < B) : JS R (JOwn B e size v0 n xs m N) := by
  intro ov w w' h hg
  have key : ∀ {v : Value} {n : Nat} {xs : List Value}, w.ownsRow B e size v n xs → w'.ownsRow B e size v n xs := fun {v n xs} hw => hw.kept hg (by
    cases hv : v.ownBlock with
    | none => exact .inl rfl
    | some k =>
      right
      intro h0
      have h1 := (hw.lt k hv).1
      have h2 : k = R := Option.some.inj h0
      omega)
  cases ov with
  | none => exact key h
  | some v =>
    obtain ⟨news, h1, h2⟩ := h
    exact ⟨news, h1, key h2⟩
/-- What a step must leave. -/
def Post (E : Nat → Prop) (R P : Nat) (w0 : World) (J : Option Value → World → Prop) (T : Ty) (k : Nat) (ov : Option Value) (w : World) (v : Value) (w' : World) : Prop := T w' v ∧ RdI E R P w0 J (k + 1) ov w' ∧ Only E w w'
section
variable {P' : Program} {o : Oper} {ρ : Operand → Value} {w w0 : World} {E : Nat → Prop} {R P k : Nat} {T : Ty} {J : Option Value → World → Prop} {ov : Option Value}
theorem Good.mono {R R' : Value → World → Prop} (h : Good P' o ρ w R) (hR : ∀ v w', R v w' → R' v w') : Good P' o ρ w R' := by
  unfold Good at h ⊢
  generalize (execOp ρ o).run P' w = r at h ⊢
  match r, h with
  | .ok (.value v) w', h => exact hR v w' h
  | .ok .skip w', h => exact hR _ w' h
  | .ok (.enter f args) w', h =>
    refine Calls.mono h fun e w'' he => ?_
    match e, he with
    | .returned v, he => exact hR v w'' he
theorem good_none (g : Value → Option Value) (h : Good P' o ρ w (Post E R P w0 JNone T k ov w)) : Good P' o ρ w fun v w' => T w' v ∧ RdI E R P w0 JNone (k + 1) (g v) w' ∧ Only E w w' :=
  h.mono fun _ _ ⟨h1, h2, h3⟩ => ⟨h1, ⟨h2.1, h2.2.1, trivial⟩, h3⟩
theorem good_pure {v : Value} (hI : RdI E R P w0 J k ov w) (hr : (execOp ρ o).run P' w = .ok (.value v) w) (hT : T w v) : Good P' o ρ w (Post E R P w0 J T k ov w) := by
  unfold Good
  rw [hr]
  exact ⟨hT, ⟨hI.1.more (by omega), hI.2⟩, Only.refl _ _⟩
theorem good_move {x : Operand} (hI : RdI E R P w0 J k ov w) (ho : o.op = .move x) (hT : T w (ρ x)) : Good P' o ρ w (Post E R P w0 J T k ov w) :=
  good_pure hI (by simp [execOp, ho, go_sem]) hT
theorem good_assign {x : Operand} (hI : RdI E R P w0 J k ov w) (ho : o.op = .assign x) (hT : T w (ρ x)) : Good P' o ρ w (Post E R P w0 J T k ov w) :=
  good_pure hI (by simp [execOp, ho, go_sem]) hT
theorem good_load {x : Operand} {t : TypeId} {lo hi : Int} (hI : RdI E R P w0 J k ov w) (ho : o.op = .load t x) (ht : ∀ w, (isAgg t).run P' w = .ok false w) (hT : TPtr E lo hi w (ρ x)) : Good P' o ρ w (Post E R P w0 J (TInt lo hi) k ov w) := by
  obtain ⟨g, i, x, hv, hn, hl, hc, h1, h2⟩ := hT
  refine good_pure (v := .int .i64 x) hI ?_ ⟨x, rfl, h1, h2⟩
  simp [execOp, ho, hv, go_sem, hc, ht, Result.andThen]
def IxOk (P' : Program) (t : TypeId) : Prop := ∀ (w : World) (g n j : Nat), j < n → n ≤ 1000 → (Instr.indexAt t (.slice (some ⟨g, 0, none⟩) n n) (.int .i64 (j : Int))).run P' w = .ok (.pointer (some ⟨g, j, none⟩)) w
theorem good_index {x y : Operand} {t : TypeId} {n : Nat} {lo hi : Int} (hI : RdI E R P w0 J k ov w) (ho : o.op = .indexAddr t x y) (hT : TLit E n lo hi w (ρ x)) (hy : TInt 0 (n - 1) w (ρ y)) (hn : n ≤ 1000) (hix : IxOk P' t) : Good P' o ρ w (Post E R P w0 J (TPtr E lo hi) k ov w) := by
  obtain ⟨g, hv, hg, hl, hc⟩ := hT
  obtain ⟨j, hj, h0, h1⟩ := hy
  obtain ⟨j', rfl⟩ := Int.eq_ofNat_of_zero_le h0
  obtain ⟨z, hz, hb⟩ := hc j' (by omega)
  refine good_pure (v := .pointer (some ⟨g, j', none⟩)) hI ?_ ⟨g, j', z, rfl, hg, hl, hz, hb⟩
  have : j' < n := by omega
  have hr := hix w g n j' this hn
  simp [execOp, ho, hv, hj, Result.andThen, hr]
def FnOk (P' : Program) (f : FuncId) : Prop := ∀ (args : Array Value) (w : World), (callFunc f args).run P' w = .ok (.enter f args) w
theorem good_call {f : FuncId} {x y : Operand} {n : Int} {at_ : Array TypeId} (hI : RdI E R P w0 J k ov w) (hE : E R) (hJ : JS R J) (ho : o.op = .call { callee := .value (.func f), args := #[x, y], argTypes := at_ })
    (hcf : FnOk P' f) (hf : ρ (.func f) = .func (.func f) #[] #[]) (hx : ρ x = .pointer (some ⟨R, 0, none⟩)) (hn : ρ y = .int .i64 n)
    (hc : Calls P' f #[.pointer (some ⟨R, 0, none⟩), .int .i64 n] w (Picked n R (P + k) w)) : Good P' o ρ w (Post E R P w0 J (TInt 0 (n - 1)) k ov w) := by
  have hr : (execOp ρ o).run P' w = .ok (.enter f #[.pointer (some ⟨R, 0, none⟩), .int .i64 n]) w := by
    simp [execOp, ho, hf, hx, hn, go_sem, Result.andThen]
    exact hcf _ _
  unfold Good
  rw [hr]
  refine hc.mono ?_
  rintro e w' ⟨y, h0, h1, rfl, hr, hg⟩
  have ho : Only E w w' := Only.grown hg fun k hk => by cases hk; exact hE
  exact ⟨⟨y, rfl, h0, by omega⟩, ⟨hr, hI.2.1.trans ho, hJ _ _ _ hI.2.2 hg⟩, ho⟩
theorem good_build {e : TypeId} (cs : List Int) {lo hi : Int} (hI : RdI E R P w0 J k ov w) (hE : ∀ g, E g → g < w0.heap.size) (hJ : JS R J) (hr : (execOp ρ o).run P' w = .ok (.value (.slice (some ⟨w.heap.size, 0, none⟩) cs.length cs.length)) (w.alloc (.cells (cs.map (Value.int .i64)).toArray e)))
    (hL : ∀ x ∈ cs, lo ≤ x ∧ x ≤ hi) : Good P' o ρ w (Post E R P w0 J (TLit E cs.length lo hi) k ov w) := by
  unfold Good
  rw [hr]
  have ho : Only E w (w.alloc (.cells (cs.map (Value.int .i64)).toArray e)) := Only.grown (World.grownBy_alloc w _ none) (by simp)
  have hs := hI.2.1.size
  refine ⟨⟨w.heap.size, rfl, fun h => by have := hE _ h; omega, by simp, fun i hi' => ?_⟩, ⟨(hI.1.alloc _).more (by omega), hI.2.1.trans ho, hJ _ _ _ hI.2.2 (World.grownBy_alloc w _ _)⟩, ho⟩
  obtain ⟨v, h1, h2, h3⟩ := lit_cell w cs e lo hi hL i hi'
  exact ⟨v, h3, h1, h2⟩
/-- append of a literal to the row of the call's own. -/
theorem good_append {x y : Operand} {t ty e : TypeId} {i : TypeInfo} {z : Value} {bytes B n m : Nat} {xs : List Value} {v0 : Value} {lo hi : Int} {N : List Value → Prop} (hI : RdI E R P w0 (JOwn B e 1 v0 n xs m N) k none w)
    (ho : o.op = .call { callee := .builtin .append, args := #[x, y], argTypes := #[t, t] }) (hty : o.type = ty) (ht : P'.underlying t = some (.slice e)) (hinf : P'.info? e = some i) (hz : i.zero = some z) (hs : i.size = 1) (hby : i.bytes = bytes) (hzs : z.cells.size = 1)
    (hx : ρ x = v0) (hy : TLit E m lo hi w (ρ y)) (hN : ∀ cs : List Int, cs.length = m → (∀ c ∈ cs, lo ≤ c ∧ c ≤ hi) → N (cs.map (Value.int .i64))) (hE : ∀ g, v0.ownBlock = some g → E g) (hR : R < B) (hB : B ≤ w0.heap.size)
    (hm : 0 < m) (hlen : n + m ≤ 1000000) (hb : bytes ≤ 1000) : Good P' o ρ w fun v w' => TAny w' v ∧ RdI E R P w0 (JOwn B e 1 v0 n xs m N) (k + 1) (some v) w' ∧ Only E w w' := by
  obtain ⟨g, hv, hg, hl, hc⟩ := hy
  obtain ⟨cs, hcl, hcb, hcc⟩ : ∃ cs : List Int, cs.length = m ∧ (∀ c ∈ cs, lo ≤ c ∧ c ≤ hi) ∧ ∀ j u, (cs.map (Value.int .i64))[j]? = some u → w.cell? ⟨g, j, none⟩ = some u := by
    refine ⟨(List.range m).map fun j => if h : j < m then (hc j h).choose else 0, by simp, ?_, fun j u hj => ?_⟩
    · intro c hc'
      obtain ⟨j, hj, rfl⟩ := List.mem_map.1 hc'
      have hjm := List.mem_range.1 hj
      simp only [hjm, dite_true]
      exact (hc j hjm).choose_spec.2
    · have hjm : j < m := by
        obtain ⟨hj', _⟩ := List.getElem?_eq_some_iff.1 hj
        simpa using hj'
      have := (hc j hjm).choose_spec.1
      simp [hjm] at hj
      rw [← hj]
      exact this
  have hown : w.ownsRow B e 1 v0 n xs := hI.2.2
  obtain ⟨v', w', hrun, hown', hgr, _⟩ := run_append_own (P := P') w B t ty e i z 1 bytes ht hinf hz hs hby hzs (by decide) v0 n xs hown ⟨g, 0, none⟩ m m (cs.map (Value.int .i64)) (by simp [hcl])
    (fun j u hj => by
      rw [Go.WideShapes.add_plain, Nat.zero_add]
      exact hcc j u hj) (by simp [Value.oneCell']) (by unfold maxLen; omega) (Nat.le_trans (Nat.mul_le_mul hlen hb) (by decide)) (Nat.le_trans hB hI.2.1.size)
  have hr : (execOp ρ o).run P' w = .ok (.value v') w' := by
    subst hty
    unfold execOp
    simp only [ho, resolve, invoke, builtin, Sem.run_bind, Sem.run_pure, Result.andThen_ok, List.map_toArray, List.map_cons, List.map_nil, hx, hv, hrun]
  unfold Good
  rw [hr]
  have hon : Only E w w' := Only.grown hgr hE
  have hlt := hI.1.lt
  refine ⟨trivial, ⟨(hI.1.grown hgr fun q hq => ?_).more (by omega), hI.2.1.trans hon, cs.map (Value.int .i64), hN cs hcl hcb, hown'⟩, hon⟩
  have := (hown.lt q hq).1
  omega
end
end Go.Proofs.Ytpbgfhlhpinkeaa
