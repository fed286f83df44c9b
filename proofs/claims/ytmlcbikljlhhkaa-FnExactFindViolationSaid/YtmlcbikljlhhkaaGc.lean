import Derived.WalkKit
import Derived.Orders
import Derived.Laws.AppendOwn
import Derived.Below
import Derived.Test.YtmlcbikljlhhkaaProg
import Derived.Test.YtmlcbikljlhhkaaGa
namespace Go.Proofs.Ytmlcbikljlhhkaa
/-! A region that draws its order, proved by what each of its operations yields, whatever the order: one step for each operation, none for an order. -/

/-- i is j, or is bound to come before j (by at most n edges). -/
def ancB (ops : Array Oper) : Nat → Nat → Nat → Bool
  | 0, i, j => i == j
  | n + 1, i, j => i == j || ((ops[j]?).map fun o => o.after.any fun e => Region.binds .any e && ancB ops n i e.on).getD false
def Shut (ops : Array Oper) (L : Nat → Bool) : Prop := ∀ j o, L j = true → ops[j]? = some o → ∀ e ∈ o.after, Region.binds .any e = true → L e.on = true
theorem ancB_shut {ops : Array Oper} {L : Nat → Bool} (hC : Shut ops L) : ∀ n i j, ancB ops n i j = true → L j = true → L i = true
  | 0, i, j, h, hj => by
    have : i = j := by simpa [ancB] using h
    exact this ▸ hj
  | n + 1, i, j, h, hj => by
    rw [ancB, Bool.or_eq_true] at h
    rcases h with h | h
    · have : i = j := by simpa using h
      exact this ▸ hj
    · cases ho : ops[j]? with
      | none => simp [ho] at h
      | some o =>
        simp only [ho, Option.map_some, Option.getD_some, Array.any_eq_true] at h
        obtain ⟨k, hk, h⟩ := h
        rw [Bool.and_eq_true] at h
        exact ancB_shut hC n i _ h.2 (hC j o hj ho _ (Array.getElem_mem hk) h.1)

def tmpsOf (xs : List Operand) : List Tmp := xs.filterMap fun | .tmp t => some t | _ => none
/-- Two operations whose order matters to the slots. -/
def clash (x y : Oper) : Bool :=
  (match x.dst with | some d => (tmpsOf y.op.operands.toList).contains d | none => false) ||
  (match y.dst with | some d => (tmpsOf x.op.operands.toList).contains d | none => false)
def rgB (ops : Array Oper) : Bool :=
  (List.range ops.size).all fun i => match ops[i]? with
    | none => true
    | some o => o.guard.isNone && o.after.all (fun e => !Region.binds .any e || decide (e.on < i)) &&
        (match o.op with | .select .. => false | _ => true) &&
        (List.range i).all fun j => match ops[j]? with
          | none => true
          | some p => (p.dst.isNone || p.dst != o.dst) && (!clash p o || ancB ops 4 j i)

section
variable {P : Program} {ops : Array Oper}
structure RgOk (ops : Array Oper) (i : Nat) (o : Oper) : Prop where
  guard : o.guard = none
  back : ∀ e ∈ o.after, Region.binds .any e = true → e.on < i
  sel : ∀ cs b, o.op ≠ .select cs b
  one : ∀ j p, j < i → ops[j]? = some p → ∀ d, p.dst = some d → o.dst ≠ some d
  anc : ∀ j p, j < i → ops[j]? = some p → clash p o = true → ancB ops 4 j i = true
theorem rgB_ok (h : rgB ops = true) {i : Nat} {o : Oper} (ho : ops[i]? = some o) : RgOk ops i o := by
  have hlt : i < ops.size := (Array.getElem?_eq_some_iff.1 ho).1
  have h1 := List.all_eq_true.1 h i (List.mem_range.2 hlt)
  simp only [ho, Bool.and_eq_true] at h1
  obtain ⟨⟨⟨h1, h2⟩, h3⟩, h4⟩ := h1
  refine ⟨by simpa using h1, fun e he hb => ?_, fun cs b e => by simp [e] at h3, fun j p hj hp d hd e => ?_, fun j p hj hp hc => ?_⟩
  · have := Array.all_eq_true_iff_forall_mem.1 h2 e he
    simpa [hb] using this
  · have := List.all_eq_true.1 h4 j (List.mem_range.2 hj)
    simp [hp, hd, e] at this
  · have := List.all_eq_true.1 h4 j (List.mem_range.2 hj)
    simp only [hp, Bool.and_eq_true] at this
    simpa [hc] using this.2

/-! ### What the slots hold -/
structure Is (ops : Array Oper) (a0 : Act) (L : Nat → Bool) (f : Nat → Value) (a : Act) : Prop where
  defers : a.defers = a0.defers
  size : a.tmps.size = a0.tmps.size
  mine : ∀ i o t, L i = true → ops[i]? = some o → o.dst = some t → t < a0.tmps.size → a.tmps.getD t undef = f i
  old : ∀ t, (∀ i o, L i = true → ops[i]? = some o → o.dst ≠ some t) → a.tmps.getD t undef = a0.tmps.getD t undef

theorem put_size (a : Act) (d : Option Tmp) (v : Value) : (a.put d v).tmps.size = a.tmps.size := by cases d <;> simp [Act.put]
theorem put_defers (a : Act) (d : Option Tmp) (v : Value) : (a.put d v).defers = a.defers := by cases d <;> rfl
theorem put_get (a : Act) (d : Tmp) (v : Value) (h : d < a.tmps.size) : (a.put (some d) v).tmps.getD d undef = v := by simp [Act.put, h]
theorem put_get_ne (a : Act) (d : Option Tmp) (v : Value) (t : Tmp) (h : d ≠ some t) : (a.put d v).tmps.getD t undef = a.tmps.getD t undef := by
  cases d with
  | none => rfl
  | some d =>
    have : d ≠ t := fun e => h (by rw [e])
    simp [Act.put, Array.getElem?_setIfInBounds_ne this]

theorem Is.start (a0 : Act) (f : Nat → Value) : Is ops a0 (fun _ => false) f a0 := ⟨rfl, rfl, fun _ _ _ h => (by cases h), fun _ _ => rfl⟩
theorem Is.step (hB : rgB ops = true) {a0 a : Act} {L : Nat → Bool} {f : Nat → Value} (h : Is ops a0 L f a) {i : Nat} {o : Oper} (ho : ops[i]? = some o) (hL : L i = false) (v : Value) :
    Is ops a0 (fun j => if j = i then true else L j) (fun j => if j = i then v else f j) (a.put o.dst v) := by
  refine ⟨(put_defers _ _ _).trans h.defers, (put_size _ _ _).trans h.size, fun j p t hj hp ht hlt => ?_, fun t ht => ?_⟩
  · by_cases e : j = i
    · subst e
      obtain rfl := Option.some.inj (ho.symm.trans hp)
      simp only [if_true]
      rw [ht]
      exact put_get _ _ _ (by rw [h.size]; exact hlt)
    · simp only [e, if_false] at hj ⊢
      rw [put_get_ne]
      · exact h.mine j p t hj hp ht hlt
      · intro hd
        rcases Nat.lt_or_gt_of_ne e with hlt' | hgt
        · exact (rgB_ok hB ho).one j p hlt' hp t ht hd
        · exact (rgB_ok hB hp).one i o hgt ho t hd ht
  · rw [put_get_ne]
    · exact h.old t fun j p hj hp => ht j p (by by_cases e : j = i <;> simp [e, hj]) hp
    · exact ht i o (by simp) ho
theorem Is.same {a0 a b : Act} {L : Nat → Bool} {f : Nat → Value} (h : Is ops a0 L f a) (h' : Is ops a0 L f b) : a = b := by
  have hd : a.defers = b.defers := h.defers.trans h'.defers.symm
  have ht : a.tmps = b.tmps := by
    apply Array.ext (h.size.trans h'.size.symm)
    intro t h1 h2
    have key : a.tmps.getD t undef = b.tmps.getD t undef := by
      by_cases hw : ∃ i o, L i = true ∧ ops[i]? = some o ∧ o.dst = some t
      · obtain ⟨i, o, hi, ho, hd⟩ := hw
        rw [h.mine i o t hi ho hd (by rw [← h.size]; exact h1), h'.mine i o t hi ho hd (by rw [← h.size]; exact h1)]
      · have hn : ∀ i o, L i = true → ops[i]? = some o → o.dst ≠ some t := fun i o hi ho hd => hw ⟨i, o, hi, ho, hd⟩
        rw [h.old t hn, h'.old t hn]
    simpa [Array.getD, h1, h2] using key
  cases a; cases b
  simp only at hd ht
  subst hd ht
  rfl

/-- All operations' values, in the text's order. -/
def putAll : List Oper → (Nat → Value) → Nat → Act → Act
  | [], _, _, a => a
  | o :: l, f, k, a => putAll l f (k + 1) (a.put o.dst (f k))
theorem putAll_is (hB : rgB ops = true) {a0 : Act} {f : Nat → Value} : ∀ (l : List Oper) (k : Nat) (a : Act), ops.toList.drop k = l → Is ops a0 (fun j => decide (j < k)) f a → Is ops a0 (fun j => decide (j < ops.size)) f (putAll l f k a)
  | [], k, a, hl, h => by
    have hk : ops.size ≤ k := by simpa using hl
    have e : Is ops a0 (fun j => decide (j < ops.size)) f a := ⟨h.defers, h.size, fun i o t hi ho => h.mine i o t (by simp at hi ⊢; omega) ho, fun t ht => h.old t fun i o hi ho => ht i o (by
      have := (Array.getElem?_eq_some_iff.1 ho).1
      simpa using this) ho⟩
    exact e
  | o :: l, k, a, hl, h => by
    have hk : k < ops.toList.length := by
      rcases Nat.lt_or_ge k ops.toList.length with h' | h'
      · exact h'
      · rw [List.drop_eq_nil_of_le h'] at hl; cases hl
    rw [List.drop_eq_getElem_cons hk] at hl
    injection hl with h1 h2
    have ho : ops[k]? = some o := by
      rw [← h1, ← Array.getElem?_toList, List.getElem?_eq_getElem hk]
    have hs := h.step hB ho (by simp) (f k)
    refine putAll_is hB l (k + 1) _ h2 ?_
    have e1 : (fun j => if j = k then true else decide (j < k)) = fun j => decide (j < k + 1) := by
      funext j
      by_cases e : j = k
      · subst e; simp
      · simp [e]; omega
    have e2 : (fun j => if j = k then f k else f j) = f := by
      funext j
      by_cases e : j = k <;> simp [e]
    rw [e1, e2] at hs
    exact hs

/-! ### The steps -/
/-- What one operation comes to, its operands' values given. -/
def Good (P : Program) (o : Oper) (ρ : Operand → Value) (w : World) (R : Value → World → Prop) : Prop :=
  match (execOp ρ o).run P w with
  | .ok (.value v) w' => R v w'
  | .ok .skip w' => R undef w'
  | .ok (.enter f args) w' => Calls P f args w' fun e w'' => match e with | .returned v => R v w'' | _ => False
  | _ => False
/-- The operation among the first i that writes slot t. -/
def writer (ops : Array Oper) (i t : Nat) : Option Nat := (List.range i).find? fun j => ((ops[j]?).bind (·.dst)) == some t
/-- What is known of the operands' values. -/
def Known (ops : Array Oper) (τ : Nat → World → Value → Prop) (a0 : Act) (ρ : Operand → Value) (w : World) (i : Nat) : List Operand → Prop
  | [] => True
  | .tmp t :: xs => (match writer ops i t with | some j => τ j w (ρ (.tmp t)) | none => ρ (.tmp t) = a0.eval (.tmp t)) ∧ Known ops τ a0 ρ w i xs
  | x :: xs => ρ x = a0.eval x ∧ Known ops τ a0 ρ w i xs

theorem known_of {τ : Nat → World → Value → Prop} {a0 : Act} {ρ : Operand → Value} {w : World} {i : Nat} (hw : ∀ t j, writer ops i t = some j → τ j w (ρ (.tmp t))) : ∀ (xs : List Operand),
    (∀ t, .tmp t ∈ xs → writer ops i t = none → ρ (.tmp t) = a0.eval (.tmp t)) → (∀ x, (∀ t, x ≠ .tmp t) → ρ x = a0.eval x) → Known ops τ a0 ρ w i xs
  | [], _, _ => trivial
  | .tmp t :: xs, h1, h2 => by
    refine ⟨?_, known_of hw xs (fun t ht => h1 t (List.mem_cons_of_mem _ ht)) h2⟩
    cases hj : writer ops i t with
    | none => exact h1 t (by simp) hj
    | some j => exact hw t j hj
  | .const v :: xs, h1, h2 => ⟨h2 _ (by simp), known_of hw xs (fun t ht => h1 t (List.mem_cons_of_mem _ ht)) h2⟩
  | .global v :: xs, h1, h2 => ⟨h2 _ (by simp), known_of hw xs (fun t ht => h1 t (List.mem_cons_of_mem _ ht)) h2⟩
  | .func v :: xs, h1, h2 => ⟨h2 _ (by simp), known_of hw xs (fun t ht => h1 t (List.mem_cons_of_mem _ ht)) h2⟩

theorem countP_lt {α : Type} {p q : α → Bool} : ∀ {l : List α}, (∀ x ∈ l, p x = true → q x = true) → (∃ x ∈ l, q x = true ∧ p x = false) → l.countP p < l.countP q
  | [], _, ⟨x, hx, _⟩ => by cases hx
  | y :: l, h, ⟨x, hx, hq, hp⟩ => by
    have hle : l.countP p ≤ l.countP q := List.countP_mono_left fun z hz => h z (List.mem_cons_of_mem _ hz)
    rw [List.countP_cons, List.countP_cons]
    rcases List.mem_cons.1 hx with e | hx'
    · subst e
      simp [hq, hp]; omega
    · have hlt := countP_lt (fun z hz => h z (List.mem_cons_of_mem _ hz)) ⟨x, hx', hq, hp⟩
      have := h y (by simp)
      by_cases hy : p y = true
      · simp [hy, this hy]; exact hlt
      · simp [hy]; split <;> omega

theorem Good.wp {Q : Exit → Act → World → Prop} {o : Oper} {a : Act} {w : World} {R : Value → World → Prop} {K : Act → World → Prop} (h : Good P o a.eval w R) (hK : ∀ v w', R v w' → K (a.put o.dst v) w') : o.wp P a w K Q := by
  unfold Good at h
  unfold Oper.wp
  generalize (execOp a.eval o).run P w = r at h
  match r, h with
  | .ok (.value v) w', h => exact hK v w' h
  | .ok .skip w', h => exact hK _ w' h
  | .ok (.enter f args) w', h =>
    refine Calls.mono h fun e w'' he => ?_
    match e, he with
    | .returned v, he => exact hK v w'' he

/-- What was assigned out of a slot that the region wrote is what was written there. -/
def Copies (ops : Array Oper) (L : Nat → Bool) (f : Nat → Value) : Prop := ∀ i o t j, L i = true → ops[i]? = some o → o.op = .assign (.tmp t) → writer ops i t = some j → L j = true ∧ f i = f j
theorem Good.assign {o : Oper} {ρ : Operand → Value} {w : World} {R : Value → World → Prop} (h : Good P o ρ w R) : Good P o ρ w fun v w' => R v w' ∧ ∀ x, o.op = .assign x → v = ρ x := by
  by_cases hx : ∃ x, o.op = .assign x
  · obtain ⟨x, hx⟩ := hx
    have hr : (execOp ρ o).run P w = .ok (.value (ρ x)) w := by simp [execOp, hx, go_sem]
    unfold Good at h ⊢
    rw [hr] at h ⊢
    exact ⟨h, fun y hy => by rw [hx] at hy; injection hy with hy; rw [hy]⟩
  · have hno : ∀ (v : Value) x, o.op = .assign x → v = ρ x := fun v x h => absurd ⟨x, h⟩ hx
    unfold Good at h ⊢
    generalize (execOp ρ o).run P w = r at h ⊢
    match r, h with
    | .ok (.value v) w', h => exact ⟨h, hno v⟩
    | .ok .skip w', h => exact ⟨h, hno _⟩
    | .ok (.enter f args) w', h =>
      refine Calls.mono h fun e w'' he => ?_
      match e, he with
      | .returned v, he => exact ⟨he, hno v⟩

structure Inv (ops : Array Oper) (τ : Nat → World → Value → Prop) (d : Nat) (I : Option Value → World → Prop) (a0 : Act) (L : Nat → Bool) (a : Act) (w : World) : Prop where
  shut : Shut ops L
  vals : ∃ f, Is ops a0 L f a ∧ I (if L d then some (f d) else none) w ∧ (∀ i, L i = true → i < ops.size ∧ τ i w (f i)) ∧ Copies ops L f

theorem eval_const (a b : Act) (x : Operand) (h : ∀ t, x ≠ .tmp t) : a.eval x = b.eval x := by
  cases x with
  | tmp t => exact absurd rfl (h t)
  | _ => rfl

theorem Inv.known {τ : Nat → World → Value → Prop} {d : Nat} {I : Option Value → World → Prop} {a0 a : Act} {L : Nat → Bool} {w : World} (hB : rgB ops = true) (hS : (ops.all fun o => match o.dst with | some t => decide (t < a0.tmps.size) | none => true) = true)
    (h : Inv ops τ d I a0 L a w) {i : Nat} {o : Oper} (ho : ops[i]? = some o) (hL : L i = false) (hr : ∀ e ∈ o.after, Region.binds .any e = true → L e.on = true) : Known ops τ a0 a.eval w i o.op.operands.toList := by
  obtain ⟨hC, f, hf, hI, hτ, _⟩ := h
  have anc : ∀ j, ancB ops 4 j i = true → j ≠ i → L j = true := by
    intro j hj hne
    rw [show (4 : Nat) = 3 + 1 from rfl, ancB, Bool.or_eq_true] at hj
    rcases hj with hj | hj
    · exact absurd (by simpa using hj) hne
    · simp only [ho, Option.map_some, Option.getD_some, Array.any_eq_true] at hj
      obtain ⟨k, hk, hj⟩ := hj
      rw [Bool.and_eq_true] at hj
      exact ancB_shut hC 3 j _ hj.2 (hr _ (Array.getElem_mem hk) hj.1)
  have hdst : ∀ (j : Nat) (p : Oper) (t : Tmp), ops[j]? = some p → p.dst = some t → t < a0.tmps.size := by
    intro j p t hp ht
    have := Array.all_eq_true_iff_forall_mem.1 hS p (Array.mem_of_getElem? hp)
    simpa [ht] using this
  have mem : ∀ t, .tmp t ∈ o.op.operands.toList → ∀ p : Oper, p.dst = some t → clash p o = true := by
    intro t ht p hp
    unfold clash
    rw [hp]
    simp only [Bool.or_eq_true]
    left
    rw [List.contains_iff_mem]
    exact List.mem_filterMap.2 ⟨_, ht, rfl⟩
  have mem' : ∀ t, .tmp t ∈ o.op.operands.toList → ∀ p : Oper, p.dst = some t → clash o p = true := by
    intro t ht p hp
    unfold clash
    rw [hp]
    simp only [Bool.or_eq_true]
    right
    rw [List.contains_iff_mem]
    exact List.mem_filterMap.2 ⟨_, ht, rfl⟩
  -- only what the operation looks at is asked
  have go : ∀ xs : List Operand, (∀ x ∈ xs, x ∈ o.op.operands.toList) → Known ops τ a0 a.eval w i xs := by
    intro xs
    induction xs with
    | nil => intro _; trivial
    | cons x xs ih =>
      intro hx
      have hrest := ih fun y hy => hx y (List.mem_cons_of_mem _ hy)
      cases x with
      | tmp t =>
        have ht := hx (.tmp t) (by simp)
        refine ⟨?_, hrest⟩
        cases hj : writer ops i t with
        | none =>
          show a.tmps.getD t undef = a0.tmps.getD t undef
          refine hf.old t fun j p hLj hp hd => ?_
          have hji : ¬ j < i := fun hlt => by
            have := List.find?_eq_none.1 hj j (List.mem_range.2 hlt)
            simp [hp, hd] at this
          have hne : j ≠ i := fun e => by subst e; rw [hL] at hLj; cases hLj
          -- j comes behind i: then i is listed too
          have hlt : i < j := by omega
          have := ancB_shut hC 4 i j ((rgB_ok hB hp).anc i o hlt ho (mem' t ht p hd)) hLj
          rw [hL] at this; cases this
        | some j =>
          have hj' := List.find?_some hj
          have hji : j < i := List.mem_range.1 (List.mem_of_find?_eq_some hj)
          cases hp : ops[j]? with
          | none => simp [hp] at hj'
          | some p =>
            have hd : p.dst = some t := by simpa [hp] using hj'
            have hLj := anc j ((rgB_ok hB ho).anc j p hji hp (mem t ht p hd)) (by omega)
            have := hf.mine j p t hLj hp hd (hdst j p t hp hd)
            show τ j w (a.tmps.getD t undef)
            rw [this]
            exact (hτ j hLj).2
      | const v => exact ⟨rfl, hrest⟩
      | global v => exact ⟨rfl, hrest⟩
      | func v => exact ⟨rfl, hrest⟩
  exact go _ fun _ h => h

theorem Inv.copy {τ : Nat → World → Value → Prop} {d : Nat} {I : Option Value → World → Prop} {a0 a : Act} {L : Nat → Bool} {w : World} (hB : rgB ops = true) (hS : (ops.all fun o => match o.dst with | some t => decide (t < a0.tmps.size) | none => true) = true)
    (h : Inv ops τ d I a0 L a w) {i : Nat} {o : Oper} (ho : ops[i]? = some o) (hL : L i = false) (hr : ∀ e ∈ o.after, Region.binds .any e = true → L e.on = true) {f : Nat → Value} (hf : Is ops a0 L f a) {t : Tmp} {j : Nat}
    (ha : o.op = .assign (.tmp t)) (hj : writer ops i t = some j) : L j = true ∧ a.eval (.tmp t) = f j := by
  have hC := h.shut
  have hj' := List.find?_some hj
  have hji : j < i := List.mem_range.1 (List.mem_of_find?_eq_some hj)
  cases hp : ops[j]? with
  | none => simp [hp] at hj'
  | some p =>
    have hd : p.dst = some t := by simpa [hp] using hj'
    have hcl : clash p o = true := by
      unfold clash
      rw [hd]
      simp only [Bool.or_eq_true]
      left
      rw [List.contains_iff_mem]
      exact List.mem_filterMap.2 ⟨.tmp t, by rw [ha]; simp [Op.operands], rfl⟩
    have hanc := (rgB_ok hB ho).anc j p hji hp hcl
    have hLj : L j = true := by
      rw [show (4 : Nat) = 3 + 1 from rfl, ancB, Bool.or_eq_true] at hanc
      rcases hanc with h1 | h1
      · exact absurd (by simpa using h1) (Nat.ne_of_lt hji)
      · simp only [ho, Option.map_some, Option.getD_some, Array.any_eq_true] at h1
        obtain ⟨k, hk, h1⟩ := h1
        rw [Bool.and_eq_true] at h1
        exact ancB_shut hC 3 j _ h1.2 (hr _ (Array.getElem_mem hk) h1.1)
    have hdst : t < a0.tmps.size := by
      have := Array.all_eq_true_iff_forall_mem.1 hS p (Array.mem_of_getElem? hp)
      simpa [hd] using this
    exact ⟨hLj, hf.mine j p t hLj hp hd hdst⟩

def open_ (ops : Array Oper) (listed : Array Bool) : Nat := (List.range ops.size).countP fun i => !listed.getD i false

theorem rg_any {Q : Exit → Act → World → Prop} {τ : Nat → World → Value → Prop} {d : Nat} {I : Nat → Option Value → World → Prop} {G : World → World → Prop} {a0 : Act} (hB : rgB ops = true) (hS : (ops.all fun o => match o.dst with | some t => decide (t < a0.tmps.size) | none => true) = true)
    (hG : ∀ i v w w', τ i w v → G w w' → τ i w' v)
    (hstep : ∀ i o, ops[i]? = some o → ∀ k ov ρ w, k < ops.size → I k ov w → (ancB ops 8 i d = true → ov = none) → Known ops τ a0 ρ w i o.op.operands.toList → Good P o ρ w fun v w' => τ i w' v ∧ I (k + 1) (if i = d then some v else ov) w' ∧ G w w')
    (hd : d < ops.size) (hend : ∀ f w' k, k ≤ ops.size → I k (some (f d)) w' → (∀ i, i < ops.size → τ i w' (f i)) → Copies ops (fun j => decide (j < ops.size)) f → Q .normal (putAll ops.toList f 0 a0) w') :
    ∀ (fuel : Nat) (listed : Array Bool) (a : Act) (w : World) (k : Nat), k + fuel = ops.size → listed.size = ops.size → open_ ops listed ≤ fuel → Inv ops τ d (I k) a0 (fun i => listed.getD i false) a w → wpAny P .any ops Q fuel listed a w := by
  have last : ∀ (listed : Array Bool) (a : Act) (w : World) (k : Nat), k ≤ ops.size → listed.size = ops.size → Inv ops τ d (I k) a0 (fun i => listed.getD i false) a w → Region.ready .any ops listed = [] → Q .normal a w := by
    intro listed a w k hk hsz h hr
    have hall : ∀ i, i < ops.size → listed.getD i false = true := by
      intro i
      induction i using Nat.strongRecOn with
      | _ i ih =>
        intro hi
        rcases hb : listed.getD i false with _ | _
        · exfalso
          have hm : i ∈ Region.ready .any ops listed := mem_ready.2 ⟨by
            have : i < listed.size := by omega
            simpa [Array.getD, this] using hb, ops[i], Array.getElem?_eq_getElem hi, fun e he hbn => ih e.on ((rgB_ok hB (Array.getElem?_eq_getElem hi)).back e he hbn) (by
              have := (rgB_ok hB (Array.getElem?_eq_getElem hi)).back e he hbn
              omega)⟩
          rw [hr] at hm
          cases hm
        · rfl
    obtain ⟨_, f, hf, hI, hτ, hcp⟩ := h
    have hI : I k (some (f d)) w := by simpa [hall d hd] using hI
    have e1 : Is ops a0 (fun j => decide (j < ops.size)) f a := ⟨hf.defers, hf.size, fun i o t hi ho hd hl => hf.mine i o t (hall i (Array.getElem?_eq_some_iff.1 ho).1) ho hd hl,
      fun t ht => hf.old t fun i o hi ho => ht i o (by simpa using (Array.getElem?_eq_some_iff.1 ho).1) ho⟩
    have e0 : Is ops a0 (fun j => decide (j < 0)) f a0 := ⟨rfl, rfl, fun _ _ _ h => by simp at h, fun _ _ => rfl⟩
    rw [e1.same (putAll_is hB ops.toList 0 a0 rfl e0)]
    refine hend f w k hk hI (fun i hi => (hτ i (hall i hi)).2) fun i o t j hi ho ha hw => ?_
    have hi' : i < ops.size := by simpa using hi
    obtain ⟨h1, h2⟩ := hcp i o t j (hall i hi') ho ha hw
    exact ⟨by simpa using (hτ j h1).1, h2⟩
  intro fuel
  induction fuel with
  | zero =>
    intro listed a w k hk hsz hc h
    have hr : Region.ready .any ops listed = [] := by
      refine List.eq_nil_iff_forall_not_mem.2 fun i hi => ?_
      obtain ⟨h1, o, ho, _⟩ := mem_ready.1 hi
      have hlt := (Array.getElem?_eq_some_iff.1 ho).1
      have hpos : 0 < open_ ops listed := List.countP_pos_iff.2 ⟨i, List.mem_range.2 hlt, by
        have : i < listed.size := by omega
        simpa [Array.getD, this] using h1⟩
      omega
    exact ⟨hr, last listed a w k (by omega) hsz h hr⟩
  | succ fuel ih =>
    intro listed a w k hk0 hsz hc h
    refine ⟨last listed a w k (by omega) hsz h, fun i hi => ?_⟩
    obtain ⟨h1, o, ho, hr⟩ := mem_ready.1 hi
    have hlt := (Array.getElem?_eq_some_iff.1 ho).1
    have hil : i < listed.size := by omega
    have h1' : listed.getD i false = false := by simpa [Array.getD, hil] using h1
    have hk := h.known hB hS ho h1' hr
    have hcopy : ∀ (f : Nat → Value), Is ops a0 (fun i => listed.getD i false) f a → ∀ t j, o.op = .assign (.tmp t) → writer ops i t = some j → listed.getD j false = true ∧ a.eval (.tmp t) = f j := fun f hf t j ha hw => h.copy hB hS ho h1' hr hf ha hw
    obtain ⟨hC, f, hf, hI, hτ, hcp⟩ := h
    have hg := hstep i o ho k _ a.eval w (by omega) hI (fun e => if_neg (fun hdl => by have := ancB_shut hC 8 i d e hdl; rw [h1'] at this; cases this)) hk
    unfold wpOp
    simp only [ho]
    rw [if_pos (by simp [Region.wanted, (rgB_ok hB ho).guard])]
    refine .inl (Good.wp hg.assign fun v w' ⟨⟨hv, hI', hgw⟩, hva⟩ => ?_)
    have eL : (fun j => (listed.setIfInBounds i true).getD j false) = fun j => if j = i then true else listed.getD j false := by
      funext j
      by_cases e : j = i
      · subst e; simp [hil]
      · simp only [e, if_false]
        exact getD_set_ne false (fun h => e h.symm)
    refine ih _ _ _ (k + 1) (by omega) (by simpa using hsz) ?_ ?_
    · have : open_ ops (listed.setIfInBounds i true) < open_ ops listed := by
        refine countP_lt (fun x _ hx => ?_) ⟨i, List.mem_range.2 hlt, by simpa using h1', ?_⟩
        · have : (listed.setIfInBounds i true).getD x false = if x = i then true else listed.getD x false := congrFun eL x
          rw [this] at hx
          by_cases e : x = i
          · simp [e] at hx
          · simpa [e] using hx
        · have : (listed.setIfInBounds i true).getD i false = if i = i then true else listed.getD i false := congrFun eL i
          rw [this]
          simp
      omega
    · rw [eL]
      refine ⟨fun j p hj hp e he hb => ?_, _, hf.step hB ho h1' v, ?_, fun j hj => ?_, fun j p t q hj hp ha hw => ?_⟩
      · by_cases ej : j = i
        · subst ej
          obtain rfl := Option.some.inj (ho.symm.trans hp)
          have := hr e he hb
          by_cases ee : e.on = j <;> simp [ee, this]
        · simp only [ej, if_false] at hj
          have := hC j p hj hp e he hb
          by_cases ee : e.on = i <;> simp [ee, this]
      · by_cases ed : i = d
        · subst ed
          simpa using hI'
        · simpa [ed, show ¬ d = i from fun h => ed h.symm] using hI'
      · by_cases ej : j = i
        · subst ej
          exact ⟨hlt, by simpa using hv⟩
        · simp only [ej, if_false] at hj ⊢
          exact ⟨(hτ j hj).1, hG j _ _ _ (hτ j hj).2 hgw⟩
      · have hqj : q < j := List.mem_range.1 (List.mem_of_find?_eq_some hw)
        by_cases ej : j = i
        · subst ej
          obtain rfl := Option.some.inj (ho.symm.trans hp)
          obtain ⟨h5, h6⟩ := hcopy f hf t q ha hw
          have hne : q ≠ j := by omega
          exact ⟨by simp only [hne, if_false]; exact h5, by simp only [hne, if_false, if_true]; rw [hva _ ha, h6]⟩
        · simp only [ej, if_false] at hj ⊢
          obtain ⟨h5, h6⟩ := hcp j p t q hj hp ha hw
          have h5' : listed.getD q false = true := h5
          have hne : q ≠ i := fun e => by rw [e, h1'] at h5'; cases h5'
          simp only [hne, if_false]
          exact ⟨h5, h6⟩

theorem ancB_self (ops : Array Oper) : ∀ (n i : Nat), ancB ops n i i = true
  | 0, i => by simp [ancB]
  | n + 1, i => by simp [ancB]
/-- THE RULE; what must come before the d-th step finds it undone. τ: what each operation yields; I: what holds of the world throughout; G: how the world may change. -/
theorem wp_region_rga {id : Nat} {Q : Exit → Act → World → Prop} {a0 : Act} {w : World} (τ : Nat → World → Value → Prop) (d : Nat) (I : Nat → Option Value → World → Prop) (G : World → World → Prop)
    (hm : P.follows .mixedOrders = true) (hB : rgB ops = true) (hS : (ops.all fun o => match o.dst with | some t => decide (t < a0.tmps.size) | none => true) = true) (h0 : I 0 none w.drew)
    (hG : ∀ i v w w', τ i w v → G w w' → τ i w' v)
    (hstep : ∀ i o, ops[i]? = some o → ∀ k ov ρ w, k < ops.size → I k ov w → (ancB ops 8 i d = true → ov = none) → Known ops τ a0 ρ w i o.op.operands.toList → Good P o ρ w fun v w' => τ i w' v ∧ I (k + 1) (if i = d then some v else ov) w' ∧ G w w')
    (hd : d < ops.size) (hend : ∀ f w' k, k ≤ ops.size → I k (some (f d)) w' → (∀ i, i < ops.size → τ i w' (f i)) → Copies ops (fun j => decide (j < ops.size)) f → Q .normal (putAll ops.toList f 0 a0) w') : (Code.region id ops true).wp P Q a0 w := by
  refine wp_region_any hm (rg_any hB hS hG hstep hd hend ops.size (Array.replicate ops.size false) a0 _ 0 (by omega) (by simp) ?_ ?_)
  · unfold open_
    exact Nat.le_trans List.countP_le_length (by simp)
  · have e : (fun i => (Array.replicate ops.size false).getD i false) = fun _ => false := by
      funext i
      by_cases h : i < ops.size <;> simp [Array.getD, h]
    rw [e]
    exact ⟨(fun j o hj => (by cases hj)), ⟨fun _ => undef, Is.start a0 _, h0, (fun i hi => (by cases hi)), (fun i o t j hi => (by cases hi))⟩⟩
/-- THE RULE. τ: what each operation yields; I: what holds of the world throughout; G: how the world may change. -/
theorem wp_region_rg {id : Nat} {Q : Exit → Act → World → Prop} {a0 : Act} {w : World} (τ : Nat → World → Value → Prop) (d : Nat) (I : Nat → Option Value → World → Prop) (G : World → World → Prop)
    (hm : P.follows .mixedOrders = true) (hB : rgB ops = true) (hS : (ops.all fun o => match o.dst with | some t => decide (t < a0.tmps.size) | none => true) = true) (h0 : I 0 none w.drew)
    (hG : ∀ i v w w', τ i w v → G w w' → τ i w' v)
    (hstep : ∀ i o, ops[i]? = some o → ∀ k ov ρ w, k < ops.size → I k ov w → (i = d → ov = none) → Known ops τ a0 ρ w i o.op.operands.toList → Good P o ρ w fun v w' => τ i w' v ∧ I (k + 1) (if i = d then some v else ov) w' ∧ G w w')
    (hd : d < ops.size) (hend : ∀ f w' k, k ≤ ops.size → I k (some (f d)) w' → (∀ i, i < ops.size → τ i w' (f i)) → Copies ops (fun j => decide (j < ops.size)) f → Q .normal (putAll ops.toList f 0 a0) w') : (Code.region id ops true).wp P Q a0 w :=
  wp_region_rga τ d I G hm hB hS h0 hG (fun i o ho k ov ρ w hk hI hov hK => hstep i o ho k ov ρ w hk hI (fun e => hov (by subst e; exact ancB_self _ _ _)) hK) hd hend
end
end Go.Proofs.Ytmlcbikljlhhkaa

namespace Go.Proofs.Ytmlcbikljlhhkaa
open Go.RowKit
/-! No reader: for programs without draws. -/
structure Rd (w : World) (R P : Nat) : Prop where
  no : False
theorem Rd.lt {w : World} {R P : Nat} (h : Rd w R P) : R < w.heap.size := h.no.elim
theorem Rd.more {w : World} {R P Q : Nat} (h : Rd w R P) (_ : P ≤ Q) : Rd w R Q := h.no.elim
theorem Rd.below {w w' : World} {R P B : Nat} (h : Rd w R P) (_ : Below B w w') (_ : R < B) : Rd w' R P := h.no.elim
theorem Rd.grown {w w' : World} {R P : Nat} {row : Option Nat} (h : Rd w R P) (_ : w.grownBy w' row) (_ : ∀ k, row = some k → R < k) : Rd w' R P := h.no.elim
theorem Rd.alloc {w : World} {R P : Nat} (h : Rd w R P) (o : Obj) : Rd (w.alloc o) R P := h.no.elim
theorem Rd.drew1 {w : World} {R P : Nat} (h : Rd w R P) : Rd w.drew R P := h.no.elim
end Go.Proofs.Ytmlcbikljlhhkaa

namespace Go.Proofs.Ytmlcbikljlhhkaa
open Go.RowKit
/-! Regions that draw their order, one line an operation, in the text's order: the types of what the operations yield are found on the way. -/
abbrev Ty := World → Value → Prop
def TEq (c : Value) : Ty := fun _ v => v = c
def TInt (lo hi : Int) : Ty := fun _ v => ∃ x, v = .int .i64 x ∧ lo ≤ x ∧ x ≤ hi
def TBool : Ty := fun _ v => ∃ x, v = .bool x
/-- A slice of n cells of which G holds, in a block that nobody writes. -/
def TLit (E : Nat → Prop) (n : Nat) (G : Value → Prop) : Ty := fun w v => ∃ g, v = .slice (some ⟨g, 0, none⟩) n n ∧ ¬ E g ∧ g < w.heap.size ∧ ∀ i, i < n → ∃ x, w.cell? ⟨g, i, none⟩ = some x ∧ G x
def TPtr (E : Nat → Prop) (G : Value → Prop) : Ty := fun w v => ∃ g i x, v = .pointer (some ⟨g, i, none⟩) ∧ ¬ E g ∧ g < w.heap.size ∧ w.cell? ⟨g, i, none⟩ = some x ∧ G x
def TOf (G : Value → Prop) : Ty := fun _ v => G v
def TAny : Ty := fun _ _ => True
def GInt (lo hi : Int) (v : Value) : Prop := ∃ x, v = .int .i64 x ∧ lo ≤ x ∧ x ≤ hi
def Stb (E : Nat → Prop) (T : Ty) : Prop := ∀ v w w', T w v → Only E w w' → T w' v
section
variable (E : Nat → Prop)
theorem stb_eq (c : Value) : Stb E (TEq c) := fun _ _ _ h _ => h
theorem stb_int (lo hi : Int) : Stb E (TInt lo hi) := fun _ _ _ h _ => h
theorem stb_bool : Stb E TBool := fun _ _ _ h _ => h
theorem stb_of (G : Value → Prop) : Stb E (TOf G) := fun _ _ _ h _ => h
theorem stb_any : Stb E TAny := fun _ _ _ _ _ => trivial
variable {E} in
theorem cell_on {w w' : World} {g i : Nat} {u : Value} (hg : Only E w w') (hn : ¬ E g) (hl : g < w.heap.size) (h : w.cell? ⟨g, i, none⟩ = some u) : w'.cell? ⟨g, i, none⟩ = some u :=
  (World.cell?_of_block (a := ⟨g, i, none⟩) (hg.block g hl hn)).trans h
theorem stb_lit (n : Nat) (G : Value → Prop) : Stb E (TLit E n G) := by
  rintro v w w' ⟨g, hv, hn, hl, hc⟩ hg
  refine ⟨g, hv, hn, Nat.lt_of_lt_of_le hl hg.size, fun i hi => ?_⟩
  obtain ⟨x, hx, hb⟩ := hc i hi
  exact ⟨x, cell_on hg hn hl hx, hb⟩
theorem stb_ptr (G : Value → Prop) : Stb E (TPtr E G) := by
  rintro v w w' ⟨g, i, x, hv, hn, hl, hc, hb⟩ hg
  exact ⟨g, i, x, hv, hn, Nat.lt_of_lt_of_le hl hg.size, cell_on hg hn hl hc, hb⟩
end
/-- The type of the i-th operation; the list holds the last one first. -/
def tys (l : List Ty) (i : Nat) : Ty := l.getD (l.length - 1 - i) (TEq undef)
theorem tys_stb {E : Nat → Prop} {l : List Ty} (h : ∀ T ∈ l, Stb E T) (i : Nat) : Stb E (tys l i) := by
  unfold tys
  rw [List.getD_eq_getElem?_getD]
  cases hi : l[l.length - 1 - i]? with
  | none => exact stb_eq E undef
  | some T => exact h T (List.mem_of_getElem? hi)
theorem tys_old (T : Ty) (l : List Ty) {j : Nat} (h : j < l.length) : tys (T :: l) j = tys l j := by
  unfold tys
  rw [List.length_cons, show l.length + 1 - 1 - j = (l.length - 1 - j) + 1 from by omega]
  rfl
theorem tys_new (T : Ty) (l : List Ty) : tys (T :: l) l.length = T := by
  unfold tys
  rw [List.length_cons, show l.length + 1 - 1 - l.length = 0 from by omega]
  rfl
/-- The reader, where there is one: block R, at most P + k draws. -/
def RdO (rd : Option (Nat × Nat)) (k : Nat) (w : World) : Prop := match rd with | none => True | some (R, P) => Rd w R (P + k)
/-- What is fixed for a region: E: the blocks that its steps may write; F: those that all steps but the d-th may write; rd: its reader; J: what the d-th step is about. -/
structure RS where
  P : Program
  ops : Array Oper
  E : Nat → Prop
  F : Nat → Prop
  rd : Option (Nat × Nat)
  w0 : World
  J : Option Value → World → Prop
  d : Nat
  a0 : Act
def RS.I (S : RS) (k : Nat) (ov : Option Value) (w : World) : Prop := RdO S.rd k w ∧ Only S.E S.w0 w ∧ S.J ov w
structure RS.Ok (S : RS) : Prop where
  sub : ∀ g, S.F g → S.E g
  keep : ∀ ov w w', S.J ov w → Only S.F w w' → S.J ov w'
  reader : ∀ R P, S.rd = some (R, P) → S.F R ∧ R < S.w0.heap.size
  low : ∀ g, S.E g → g < S.w0.heap.size
def RSeq (S : RS) (Fin : List Ty → Prop) : List Oper → Nat → List Ty → Prop
  | [], _, τs => Fin τs
  | o :: l, i, τs => (∀ T ∈ τs, Stb S.E T) → ∃ T : Ty, Stb S.E T ∧ (∀ k ov ρ w, k < S.ops.size → S.I k ov w → (ancB S.ops 8 i S.d = true → ov = none) → Known S.ops (tys τs) S.a0 ρ w i o.op.operands.toList → Good S.P o ρ w fun v w' => T w' v ∧ S.I (k + 1) (if i = S.d then some v else ov) w' ∧ Only S.E w w') ∧ RSeq S Fin l (i + 1) (T :: τs)
theorem Good.mono {P : Program} {o : Oper} {ρ : Operand → Value} {w : World} {R R' : Value → World → Prop} (h : Good P o ρ w R) (hR : ∀ v w', R v w' → R' v w') : Good P o ρ w R' := by
  unfold Good at h ⊢
  generalize (execOp ρ o).run P w = r at h ⊢
  match r, h with
  | .ok (.value v) w', h => exact hR v w' h
  | .ok .skip w', h => exact hR _ w' h
  | .ok (.enter f args) w', h =>
    refine Calls.mono h fun e w'' he => ?_
    match e, he with
    | .returned v, he => exact hR v w'' he
theorem known_mono {ops : Array Oper} {τ τ' : Nat → World → Value → Prop} {a0 : Act} {ρ : Operand → Value} {w : World} {i : Nat} (h : ∀ j w v, j < i → τ j w v → τ' j w v) : ∀ xs : List Operand, Known ops τ a0 ρ w i xs → Known ops τ' a0 ρ w i xs
  | [], _ => trivial
  | .tmp t :: xs, ⟨h1, h2⟩ => by
    refine ⟨?_, known_mono h xs h2⟩
    cases hw : writer ops i t with
    | none => rw [hw] at h1; exact h1
    | some j =>
      rw [hw] at h1
      have hj : j < i := by
        have := List.mem_of_find?_eq_some hw
        exact List.mem_range.1 this
      exact h j w _ hj h1
  | .const v :: xs, ⟨h1, h2⟩ => ⟨h1, known_mono h xs h2⟩
  | .global v :: xs, ⟨h1, h2⟩ => ⟨h1, known_mono h xs h2⟩
  | .func v :: xs, ⟨h1, h2⟩ => ⟨h1, known_mono h xs h2⟩
/-- The types, all told. -/
theorem rseq_types {S : RS} {Fin : List Ty → Prop} : ∀ (l : List Oper) (τs : List Ty), S.ops.toList.drop τs.length = l → τs.length + l.length = S.ops.size → (∀ T ∈ τs, Stb S.E T) → RSeq S Fin l τs.length τs →
    ∃ τ : List Ty, (∀ j, j < τs.length → tys τ j = tys τs j) ∧ (∀ T ∈ τ, Stb S.E T) ∧ Fin τ ∧ ∀ i o, τs.length ≤ i → S.ops[i]? = some o → ∀ k ov ρ w, k < S.ops.size → S.I k ov w → (ancB S.ops 8 i S.d = true → ov = none) → Known S.ops (tys τ) S.a0 ρ w i o.op.operands.toList → Good S.P o ρ w fun v w' => tys τ i w' v ∧ S.I (k + 1) (if i = S.d then some v else ov) w' ∧ Only S.E w w'
  | [], τs, _, hlen, hst, h => by
    simp at hlen
    refine ⟨τs, fun _ _ => rfl, hst, h, fun i o hi ho => ?_⟩
    have := (Array.getElem?_eq_some_iff.1 ho).1
    omega
  | o :: l, τs, hl, hlen, hst, h => by
    obtain ⟨T, hT, hg, hr⟩ := h hst
    have hst' : ∀ T' ∈ T :: τs, Stb S.E T' := by
      intro T' hT'
      rcases List.mem_cons.1 hT' with h1 | h1
      · rw [h1]; exact hT
      · exact hst T' h1
    have hdrop : S.ops.toList.drop (T :: τs).length = l := by
      rw [List.length_cons, ← List.drop_drop, hl]; rfl
    obtain ⟨τ, h2, h3, h4, h5⟩ := rseq_types l (T :: τs) hdrop (by simp at hlen ⊢; omega) hst' (by rw [List.length_cons]; exact hr)
    rw [List.length_cons] at h2 h5
    have hget : ∀ j, j < τs.length → tys τ j = tys τs j := fun j hj => (h2 j (by omega)).trans (tys_old T τs hj)
    have hgetT : tys τ τs.length = T := (h2 _ (by omega)).trans (tys_new T τs)
    refine ⟨τ, hget, h3, h4, fun i o' hi ho => ?_⟩
    rcases Nat.lt_or_ge τs.length i with hlt | hge
    · exact h5 i o' hlt ho
    · obtain rfl : i = τs.length := by omega
      have : o' = o := by
        have e : S.ops.toList[τs.length]? = some o := by
          have := congrArg (fun l => l[0]?) hl
          simpa using this
        rw [Array.getElem?_toList] at e
        exact Option.some.inj (ho.symm.trans e)
      subst this
      intro k ov ρ w hk hI hd hK
      rw [hgetT]
      exact hg k ov ρ w hk hI hd (known_mono (fun j w v hj h => by rw [← hget j hj]; exact h) _ hK)
/-- THE RULE. -/
theorem wp_region_rs {id : Nat} {Q : Exit → Act → World → Prop} (S : RS) (hO : S.Ok) (hm : S.P.follows .mixedOrders = true) (hB : rgB S.ops = true) (hS : (S.ops.all fun o => match o.dst with | some t => decide (t < S.a0.tmps.size) | none => true) = true) (hd : S.d < S.ops.size)
    (hr : RdO S.rd 0 S.w0) (hJ : S.J none S.w0)
    (h : RSeq S (fun τ => ∀ f w' k, k ≤ S.ops.size → S.I k (some (f S.d)) w' → (∀ i, i < S.ops.size → tys τ i w' (f i)) → Copies S.ops (fun j => decide (j < S.ops.size)) f → Q .normal (putAll S.ops.toList f 0 S.a0) w') S.ops.toList 0 []) : (Code.region id S.ops true).wp S.P Q S.a0 S.w0 := by
  obtain ⟨τ, _, h3, h4, h5⟩ := rseq_types S.ops.toList [] (by simp) (by simp) (by simp) h
  refine wp_region_rga (tys τ) S.d S.I (Only S.E) hm hB hS ⟨?_, Only.drew _ _, hO.keep _ _ _ hJ (Only.drew _ _)⟩ (fun i v w w' ht hg => tys_stb h3 i v w w' ht hg) (fun i o ho => h5 i o (Nat.zero_le _) ho) hd (fun f w' k hk hI ht hc => h4 f w' k hk hI ht hc)
  cases hrd : S.rd with
  | none => trivial
  | some x =>
    rw [hrd] at hr
    exact Rd.drew1 hr
/-! ### The steps -/
section
variable {S : RS} {Fin : List Ty → Prop} {o : Oper} {l : List Oper} {i : Nat} {τs : List Ty}
/-- A step that is not the d-th. -/
theorem rs_plain (hO : S.Ok) (hid : i ≠ S.d ∨ ∀ ov w, S.J ov w) (T : Ty) (hT : Stb S.E T)
    (h : ∀ k ρ w, k < S.ops.size → RdO S.rd k w → Only S.E S.w0 w → Known S.ops (tys τs) S.a0 ρ w i o.op.operands.toList → Good S.P o ρ w fun v w' => T w' v ∧ RdO S.rd (k + 1) w' ∧ Only S.F w w')
    (rest : RSeq S Fin l (i + 1) (T :: τs)) : RSeq S Fin (o :: l) i τs := by
  intro _
  refine ⟨T, hT, fun k ov ρ w hk hI _ hK => ?_, rest⟩
  refine (h k ρ w hk hI.1 hI.2.1 hK).mono fun v w' ⟨h1, h2, h3⟩ => ?_
  refine ⟨h1, ⟨h2, hI.2.1.trans (h3.mono hO.sub), ?_⟩, h3.mono hO.sub⟩
  rcases hid with hid | hid
  · rw [if_neg hid]
    exact hO.keep _ _ _ hI.2.2 h3
  · exact hid _ _
theorem rdO_more {rd : Option (Nat × Nat)} {k : Nat} {w : World} (h : RdO rd k w) : RdO rd (k + 1) w := by
  cases rd with
  | none => trivial
  | some x => exact Rd.more h (by omega)
theorem rdO_only {rd : Option (Nat × Nat)} {k : Nat} {w w' : World} {F : Nat → Prop} (h : RdO rd k w) (hg : w.grownBy w' none) : RdO rd k w' := by
  cases rd with
  | none => trivial
  | some x => exact Rd.grown h hg (by simp)
/-- A step that leaves the world alone. -/
theorem rs_pure (hO : S.Ok) (hid : i ≠ S.d ∨ ∀ ov w, S.J ov w) (T : Ty) (hT : Stb S.E T)
    (h : ∀ ρ w, Known S.ops (tys τs) S.a0 ρ w i o.op.operands.toList → ∃ v, (execOp ρ o).run S.P w = .ok (.value v) w ∧ T w v)
    (rest : RSeq S Fin l (i + 1) (T :: τs)) : RSeq S Fin (o :: l) i τs := by
  refine rs_plain hO hid T hT (fun k ρ w _ hr _ hK => ?_) rest
  obtain ⟨v, h1, h2⟩ := h ρ w hK
  unfold Good
  rw [h1]
  exact ⟨h2, rdO_more hr, Only.refl _ _⟩
/-- 'move' and 'assign' of a slot of before, of a constant. -/
theorem rs_old (hO : S.Ok) (hid : i ≠ S.d ∨ ∀ ov w, S.J ov w) (x : Operand) (ho : o.op = .move x ∨ o.op = .assign x) (c : Value) (hx : S.a0.eval x = c) (hw : (match x with | .tmp t => writer S.ops i t | _ => none) = none)
    (rest : RSeq S Fin l (i + 1) (TEq c :: τs)) : RSeq S Fin (o :: l) i τs := by
  refine rs_pure hO hid _ (stb_eq _ _) (fun ρ w hK => ⟨ρ x, ?_, ?_⟩) rest
  · rcases ho with ho | ho <;> simp [execOp, ho, go_sem]
  · have he : o.op.operands.toList = [x] := by rcases ho with ho | ho <;> rw [ho] <;> rfl
    rw [he] at hK
    show ρ x = c
    rw [← hx]
    cases x with
    | tmp t =>
      have h1 := hK.1
      rw [show writer S.ops i t = none from hw] at h1
      exact h1
    | const v => exact hK.1
    | global v => exact hK.1
    | func v => exact hK.1
/-- 'move' and 'assign' of what the region yielded. -/
theorem rs_same (hO : S.Ok) (hid : i ≠ S.d ∨ ∀ ov w, S.J ov w) (t j : Nat) (ho : o.op = .move (.tmp t) ∨ o.op = .assign (.tmp t)) (hw : writer S.ops i t = some j) (T : Ty) (hT : tys τs j = T)
    (rest : RSeq S Fin l (i + 1) (T :: τs)) : RSeq S Fin (o :: l) i τs := by
  intro hst
  refine rs_pure hO hid T (hT ▸ tys_stb hst j) (fun ρ w hK => ⟨ρ (.tmp t), ?_, ?_⟩) rest hst
  · rcases ho with ho | ho <;> simp [execOp, ho, go_sem]
  · have he : o.op.operands.toList = [.tmp t] := by rcases ho with ho | ho <;> rw [ho] <;> rfl
    rw [he] at hK
    have h1 := hK.1
    rw [hw] at h1
    rw [← hT]
    exact h1
def FnOk (P' : Program) (f : FuncId) : Prop := ∀ (args : Array Value) (w : World), (callFunc f args).run P' w = .ok (.enter f args) w
/-- A draw: whatever is asked for. -/
theorem rs_pick (hO : S.Ok) (hid : i ≠ S.d ∨ ∀ ov w, S.J ov w) (f : FuncId) (x y : Operand) (at_ : Array TypeId) (R P hi : Nat) (ho : o.op = .call { callee := .value (.func f), args := #[x, y], argTypes := at_ }) (hrd : S.rd = some (R, P)) (hcf : FnOk S.P f)
    (hx : ∀ ρ w, Known S.ops (tys τs) S.a0 ρ w i [.func f, x, y] → ρ (.func f) = .func (.func f) #[] #[] ∧ ρ x = .pointer (some ⟨R, 0, none⟩) ∧ ∃ n : Int, ρ y = .int .i64 n ∧ 1 ≤ n ∧ n ≤ hi + 1)
    (hc : ∀ (n : Int) (k : Nat) (w : World), k < S.ops.size → 1 ≤ n → n ≤ hi + 1 → Rd w R (P + k) → Calls S.P f #[.pointer (some ⟨R, 0, none⟩), .int .i64 n] w fun e w' => ∃ x : Int, 0 ≤ x ∧ x ≤ hi ∧ e = .returned (.int .i64 x) ∧ Rd w' R (P + k + 1) ∧ w.grownBy w' (some R))
    (rest : RSeq S Fin l (i + 1) (TInt 0 hi :: τs)) : RSeq S Fin (o :: l) i τs := by
  refine rs_plain hO hid _ (stb_int _ _ _) (fun k ρ w hk hr hon hK => ?_) rest
  rw [ho] at hK
  obtain ⟨h1, h2, n, h3, h3', h4⟩ := hx ρ w hK
  rw [hrd] at hr
  have hrun : (execOp ρ o).run S.P w = .ok (.enter f #[.pointer (some ⟨R, 0, none⟩), .int .i64 n]) w := by
    simp [execOp, ho, h1, h2, h3, go_sem, Result.andThen]
    exact hcf _ _
  unfold Good
  rw [hrun]
  refine (hc n k w hk h3' h4 hr).mono ?_
  rintro e w' ⟨y, h5, h6, rfl, hr', hg⟩
  refine ⟨⟨y, rfl, h5, h6⟩, by rw [hrd]; exact hr', Only.grown hg fun q hq => ?_⟩
  cases hq
  exact (hO.reader R P hrd).1
/-- A call that makes memory alone. -/
theorem rs_call (hO : S.Ok) (hid : i ≠ S.d ∨ ∀ ov w, S.J ov w) (T : Ty) (hT : Stb S.E T) (f : FuncId) (args : Array Operand) (at_ : Array TypeId) (ho : o.op = .call { callee := .value (.func f), args := args, argTypes := at_ })
    (h : ∀ ρ w, Only S.E S.w0 w → Known S.ops (tys τs) S.a0 ρ w i (.func f :: args.toList) → ∃ vs, (execOp ρ o).run S.P w = .ok (.enter f vs) w ∧ Calls S.P f vs w fun e w' => ∃ v, e = .returned v ∧ T w' v ∧ Below w.heap.size w w')
    (rest : RSeq S Fin l (i + 1) (T :: τs)) : RSeq S Fin (o :: l) i τs := by
  refine rs_plain hO hid T hT (fun k ρ w hk hr hon hK => ?_) rest
  have he : o.op.operands.toList = .func f :: args.toList := by rw [ho]; simp [Op.operands, Call.operands]
  rw [he] at hK
  obtain ⟨vs, h1, h2⟩ := h ρ w hon hK
  unfold Good
  rw [h1]
  refine h2.mono ?_
  rintro e w' ⟨v, rfl, h3, h4⟩
  refine ⟨h3, ?_, Only.of_below _ h4⟩
  have hr' := rdO_more hr
  cases hrd : S.rd with
  | none => trivial
  | some x =>
    rw [hrd] at hr'
    exact Rd.below hr' h4 (Rd.lt hr')
/-- A literal. -/
theorem rs_build (hO : S.Ok) (hid : i ≠ S.d ∨ ∀ ov w, S.J ov w) (n : Nat) (G : Value → Prop) (e : TypeId)
    (h : ∀ ρ w, Known S.ops (tys τs) S.a0 ρ w i o.op.operands.toList → ∃ cs : Array Value, cs.size = n ∧ (execOp ρ o).run S.P w = .ok (.value (.slice (some ⟨w.heap.size, 0, none⟩) n n)) (w.alloc (.cells cs e)) ∧ ∀ c ∈ cs, G c)
    (rest : RSeq S Fin l (i + 1) (TLit S.E n G :: τs)) : RSeq S Fin (o :: l) i τs := by
  refine rs_plain hO hid _ (stb_lit _ _ _) (fun k ρ w hk hr hon hK => ?_) rest
  obtain ⟨cs, h1, h2, h3⟩ := h ρ w hK
  unfold Good
  rw [h2]
  have hb : Below w.heap.size w (w.alloc (.cells cs e)) := (Below.refl _ _).alloc (Nat.le_refl _) _
  refine ⟨⟨w.heap.size, rfl, fun hE => ?_, by simp, fun j hj => ?_⟩, ?_, Only.of_below _ hb⟩
  · have h4 := hO.low _ hE
    have h5 := hon.size
    omega
  · have hj' : j < cs.size := by omega
    exact ⟨cs[j], by rw [World.cell?_alloc_new]; exact Array.getElem?_eq_getElem hj', h3 _ (Array.getElem_mem hj')⟩
  · have hr' := rdO_more hr
    cases hrd : S.rd with
    | none => trivial
    | some x =>
      rw [hrd] at hr'
      exact Rd.alloc hr' _
def IxOk (P' : Program) (t : TypeId) : Prop := ∀ (w : World) (g n j : Nat), j < n → n ≤ 1000 → (Instr.indexAt t (.slice (some ⟨g, 0, none⟩) n n) (.int .i64 (j : Int))).run P' w = .ok (.pointer (some ⟨g, j, none⟩)) w
/-- An index of a literal. -/
theorem rs_index (hO : S.Ok) (hid : i ≠ S.d ∨ ∀ ov w, S.J ov w) (t : TypeId) (x y : Nat) (n : Nat) (G : Value → Prop) (hi : Int) (ho : o.op = .indexAddr t (.tmp x) (.tmp y)) (jx jy : Nat) (hx : writer S.ops i x = some jx) (hy : writer S.ops i y = some jy) (hTx : tys τs jx = TLit S.E n G) (hTy : tys τs jy = TInt 0 hi)
    (hn : n ≤ 1000) (hlt : hi < n) (hix : IxOk S.P t) (rest : RSeq S Fin l (i + 1) (TPtr S.E G :: τs)) : RSeq S Fin (o :: l) i τs := by
  refine rs_pure hO hid _ (stb_ptr _ _) (fun ρ w hK => ?_) rest
  rw [ho] at hK
  have h1 := hK.1
  have h2 := hK.2.1
  rw [hx] at h1
  rw [hy] at h2
  simp only [hTx] at h1
  simp only [hTy] at h2
  obtain ⟨g, hv, hg, hl, hc⟩ := h1
  obtain ⟨j, hj, h0, h1⟩ := h2
  obtain ⟨j', rfl⟩ := Int.eq_ofNat_of_zero_le h0
  obtain ⟨z, hz, hb⟩ := hc j' (by omega)
  refine ⟨.pointer (some ⟨g, j', none⟩), ?_, ⟨g, j', z, rfl, hg, hl, hz, hb⟩⟩
  have : j' < n := by omega
  have hr := hix w g n j' this hn
  simp [execOp, ho, hv, hj, Result.andThen, hr]
/-- What a pointer into a literal reads. -/
theorem rs_load (hO : S.Ok) (hid : i ≠ S.d ∨ ∀ ov w, S.J ov w) (t : TypeId) (x : Nat) (G : Value → Prop) (ho : o.op = .load t (.tmp x)) (jx : Nat) (hx : writer S.ops i x = some jx) (hTx : tys τs jx = TPtr S.E G) (ht : ∀ w, (isAgg t).run S.P w = .ok false w)
    (rest : RSeq S Fin l (i + 1) (TOf G :: τs)) : RSeq S Fin (o :: l) i τs := by
  refine rs_pure hO hid _ (stb_of _ _) (fun ρ w hK => ?_) rest
  rw [ho] at hK
  have h1 := hK.1
  rw [hx] at h1
  simp only [hTx] at h1
  obtain ⟨g, i, z, hv, hn, hl, hc, hG⟩ := h1
  refine ⟨z, ?_, hG⟩
  simp [execOp, ho, hv, go_sem, hc, ht, Result.andThen]
end
end Go.Proofs.Ytmlcbikljlhhkaa

namespace Go.Proofs.Ytmlcbikljlhhkaa
open Go.RowKit
/-! Drawn regions that make memory alone, with slices of booleans. -/
theorem only_below {w w' : World} (h : Only (fun _ => False) w w') : Below w.heap.size w w' := ⟨h.os, h.tape, h.output, h.size, fun k hk => h.block k hk id⟩
def TBools (xs : List Bool) : Ty := fun w v => BoolsAt w v xs
theorem stb_bools (xs : List Bool) : Stb (fun _ => False) (TBools xs) := fun _ _ _ h ho => Row.below h (only_below ho)
def TInts (xs : List Int) : Ty := fun w v => IntsAt w v xs
theorem stb_ints (xs : List Int) : Stb (fun _ => False) (TInts xs) := fun _ _ _ h ho => Row.below h (only_below ho)
def JNo : Option Value → World → Prop := fun _ _ => True
@[reducible] def quietRS (Pg : Program) (ops : Array Oper) (w : World) (a : Act) : RS := { P := Pg, ops := ops, E := fun _ => False, F := fun _ => False, rd := none, w0 := w, J := JNo, d := 0, a0 := a }
theorem quietRS_ok {Pg : Program} {ops : Array Oper} {w : World} {a : Act} : (quietRS Pg ops w a).Ok :=
  ⟨fun _ h => h, fun _ _ _ _ _ => trivial, fun _ _ e => (by cases e), fun _ e => e.elim⟩
theorem quiet_any {Pg : Program} {ops : Array Oper} {w : World} {a : Act} {i : Nat} : i ≠ (quietRS Pg ops w a).d ∨ ∀ ov w', (quietRS Pg ops w a).J ov w' := .inr fun _ _ => trivial
section
variable {S : RS} {Fin : List Ty → Prop} {o : Oper} {l : List Oper} {i : Nat} {τs : List Ty}
/-- A step that leaves the world alone and may read it. -/
theorem rs_look (hO : S.Ok) (hid : i ≠ S.d ∨ ∀ ov w, S.J ov w) (T : Ty) (hT : Stb S.E T)
    (h : ∀ ρ w, Only S.E S.w0 w → Known S.ops (tys τs) S.a0 ρ w i o.op.operands.toList → ∃ v, (execOp ρ o).run S.P w = .ok (.value v) w ∧ T w v)
    (rest : RSeq S Fin l (i + 1) (T :: τs)) : RSeq S Fin (o :: l) i τs := by
  refine rs_plain hO hid T hT (fun k ρ w _ hr ho hK => ?_) rest
  obtain ⟨v, h1, h2⟩ := h ρ w ho hK
  unfold Good
  rw [h1]
  exact ⟨h2, rdO_more hr, Only.refl _ _⟩
/-- A step that lays a block. -/
theorem rs_alloc (hO : S.Ok) (hid : i ≠ S.d ∨ ∀ ov w, S.J ov w) (T : Ty) (hT : Stb S.E T)
    (h : ∀ ρ w, Only S.E S.w0 w → Known S.ops (tys τs) S.a0 ρ w i o.op.operands.toList → ∃ v c, (execOp ρ o).run S.P w = .ok (.value v) (w.alloc c) ∧ T (w.alloc c) v)
    (rest : RSeq S Fin l (i + 1) (T :: τs)) : RSeq S Fin (o :: l) i τs := by
  refine rs_plain hO hid T hT (fun k ρ w _ hr ho hK => ?_) rest
  obtain ⟨v, c, h1, h2⟩ := h ρ w ho hK
  unfold Good
  rw [h1]
  refine ⟨h2, ?_, Only.of_below _ ((Below.refl _ _).alloc (Nat.le_refl _) c)⟩
  have hr' := rdO_more hr
  cases hrd : S.rd with
  | none => trivial
  | some x =>
    rw [hrd] at hr'
    exact Rd.alloc hr' _
/-- A step that must come before the d-th one: it finds J as it was. -/
theorem rs_before (hO : S.Ok) (hid : i ≠ S.d) (hanc : ancB S.ops 8 i S.d = true) (T : Ty) (hT : Stb S.E T)
    (h : ∀ k ρ w, RdO S.rd k w → Only S.E S.w0 w → S.J none w → Known S.ops (tys τs) S.a0 ρ w i o.op.operands.toList → Good S.P o ρ w fun v w' => T w' v ∧ RdO S.rd (k + 1) w' ∧ Only S.F w w')
    (rest : RSeq S Fin l (i + 1) (T :: τs)) : RSeq S Fin (o :: l) i τs := by
  intro _
  refine ⟨T, hT, fun k ov ρ w hk hI hov hK => ?_, rest⟩
  obtain rfl := hov hanc
  refine (h k ρ w hI.1 hI.2.1 hI.2.2 hK).mono fun v w' ⟨h1, h2, h3⟩ => ?_
  refine ⟨h1, ⟨h2, hI.2.1.trans (h3.mono hO.sub), ?_⟩, h3.mono hO.sub⟩
  rw [if_neg hid]
  exact hO.keep _ _ _ hI.2.2 h3
/-- A call that must come before the d-th step and makes memory alone. -/
theorem rs_call_before (hO : S.Ok) (hid : i ≠ S.d) (hanc : ancB S.ops 8 i S.d = true) (T : Ty) (hT : Stb S.E T) (f : FuncId) (args : Array Operand) (at_ : Array TypeId) (ho : o.op = .call { callee := .value (.func f), args := args, argTypes := at_ })
    (h : ∀ ρ w, Only S.E S.w0 w → S.J none w → Known S.ops (tys τs) S.a0 ρ w i (.func f :: args.toList) → ∃ vs, (execOp ρ o).run S.P w = .ok (.enter f vs) w ∧ Calls S.P f vs w fun e w' => ∃ v, e = .returned v ∧ T w' v ∧ Below w.heap.size w w')
    (rest : RSeq S Fin l (i + 1) (T :: τs)) : RSeq S Fin (o :: l) i τs := by
  refine rs_before hO hid hanc T hT (fun k ρ w hr hon hJ hK => ?_) rest
  have he : o.op.operands.toList = .func f :: args.toList := by rw [ho]; simp [Op.operands, Call.operands]
  rw [he] at hK
  obtain ⟨vs, h1, h2⟩ := h ρ w hon hJ hK
  unfold Good
  rw [h1]
  refine h2.mono ?_
  rintro e w' ⟨v, rfl, h3, h4⟩
  refine ⟨h3, ?_, Only.of_below _ h4⟩
  have hr' := rdO_more hr
  cases hrd : S.rd with
  | none => trivial
  | some x =>
    rw [hrd] at hr'
    exact Rd.below hr' h4 (Rd.lt hr')
end
/-! ### An append of known cells to a row of the call's own -/
def JApp (B : Nat) (e : TypeId) (size : Nat) (v : Value) (n : Nat) (cs news : List Value) : Option Value → World → Prop
  | none, w => w.ownsRow B e size v n cs
  | some v', w => w.ownsRow B e size v' (n + 1) (cs ++ news)
@[reducible] def appRS (Pg : Program) (ops : Array Oper) (w : World) (a : Act) (B : Nat) (e : TypeId) (size : Nat) (v : Value) (n : Nat) (cs news : List Value) (d : Nat) : RS :=
  { P := Pg, ops := ops, E := fun g => v.ownBlock = some g, F := fun _ => False, rd := none, w0 := w, J := JApp B e size v n cs news, d := d, a0 := a }
theorem appRS_ok {Pg : Program} {ops : Array Oper} {w : World} {a : Act} {B : Nat} {e : TypeId} {size : Nat} {v : Value} {n : Nat} {cs news : List Value} {d : Nat} (hown : w.ownsRow B e size v n cs) : (appRS Pg ops w a B e size v n cs news d).Ok :=
  ⟨fun _ h => h.elim, fun ov w1 w2 hj ho => by
    cases ov with
    | none => exact own_below hj (only_below ho)
    | some v' => exact own_below hj (only_below ho),
    fun _ _ e => (by cases e), fun g hg => (hown.lt g hg).2⟩
/-- A slice that lies in a block that nobody writes, and its cells. -/
def TNew (E : Nat → Prop) (size m : Nat) (news : List Value) : Ty := fun w v => Row w size v m news ∧ ∃ g c, v = .slice (some ⟨g, 0, none⟩) m c ∧ ¬ E g ∧ g < w.heap.size
theorem stb_new (E : Nat → Prop) (size m : Nat) (news : List Value) : Stb E (TNew E size m news) := by
  rintro v w w' ⟨h, g, c, rfl, hn, hl⟩ ho
  refine ⟨?_, g, c, rfl, hn, Nat.lt_of_lt_of_le hl ho.size⟩
  obtain ⟨h0, A, c', hv, h1, h2, h3⟩ := h
  injection hv with e1 _ e3
  subst e1 e3
  refine ⟨h0, _, c, rfl, h1, h2, fun hp => ?_⟩
  obtain ⟨b, o, hA, hb, hc⟩ := h3 hp
  have hA' := Option.some.inj hA
  injection hA' with e4 e5
  subst e4 e5
  exact ⟨g, 0, rfl, Nat.lt_of_lt_of_le hl ho.size, fun j u hu => (World.cell?_of_block (a := ⟨g, 0 + j, none⟩) (ho.block g hl hn)).trans (hc j u hu)⟩
section
variable {S : RS} {Fin : List Ty → Prop} {o : Oper} {l : List Oper} {i : Nat} {τs : List Ty}
/-- A literal of one element. -/
theorem rs_build1 (hO : S.Ok) (hid : i ≠ S.d ∨ ∀ ov w, S.J ov w) (size : Nat) (news : List Value) (e : TypeId) (hs : news.length = size)
    (h : ∀ ρ w, Only S.E S.w0 w → Known S.ops (tys τs) S.a0 ρ w i o.op.operands.toList → (execOp ρ o).run S.P w = .ok (.value (.slice (some ⟨w.heap.size, 0, none⟩) 1 1)) (w.alloc (.cells news.toArray e)))
    (rest : RSeq S Fin l (i + 1) (TNew S.E size 1 news :: τs)) : RSeq S Fin (o :: l) i τs := by
  refine rs_alloc hO hid _ (stb_new _ _ _ _) (fun ρ w hon hK => ?_) rest
  refine ⟨_, _, h ρ w hon hK, Row.of_own (World.ownsRow_lit (base := w.heap.size) (e := e) (size := size) w news.toArray 1 (Nat.le_refl _) (by unfold maxLen; omega) (by simp [hs])), w.heap.size, 1, rfl, fun hE => ?_, by simp⟩
  have h4 := hO.low _ hE
  have h5 := hon.size
  omega
/-- The append. -/
theorem rs_append1 (hd : i = S.d) (B : Nat) (e t : TypeId) (size : Nat) (v : Value) (n : Nat) (cs news : List Value) (hJ : S.J = JApp B e size v n cs news) (hrd : S.rd = none) (hE : ∀ g, v.ownBlock = some g → S.E g) (hB : B ≤ S.w0.heap.size)
    (x y : Nat) (ho : o.op = .call { callee := .builtin .append, args := #[.tmp x, .tmp y], argTypes := #[t, t] }) (jx jy : Nat) (hx : writer S.ops i x = some jx) (hy : writer S.ops i y = some jy) (hTx : tys τs jx = TEq v) (hTy : tys τs jy = TNew S.E size 1 news)
    (inf : TypeInfo) (z : Value) (bytes : Nat) (ht : S.P.underlying t = some (.slice e)) (hi : S.P.info? e = some inf) (hz : inf.zero = some z) (hsize : inf.size = size) (hby : inf.bytes = bytes) (hzs : z.cells.size = size) (hsz : 0 < size) (h63 : n ≤ 1000000) (hbb : bytes ≤ 1000) (hone : ∀ u ∈ news, u.oneCell' = true)
    (rest : RSeq S Fin l (i + 1) (TAny :: τs)) : RSeq S Fin (o :: l) i τs := by
  intro _
  refine ⟨TAny, stb_any _, fun k ov ρ w hk hI hov hK => ?_, rest⟩
  obtain rfl := hov (by rw [hd]; exact ancB_self _ _ _)
  rw [ho] at hK
  have h1 := hK.1
  have h2 := hK.2.1
  rw [hx] at h1
  rw [hy] at h2
  simp only [hTx] at h1
  simp only [hTy] at h2
  have h1' : ρ (.tmp x) = v := h1
  have h2' : Row w size (ρ (.tmp y)) 1 news := h2.1
  have hown : w.ownsRow B e size v n cs := by have := hI.2.2; rw [hJ] at this; exact this
  obtain ⟨v', w', hrun, hown', hgr, _⟩ := run_append_row_at (P := S.P) w B t o.type e inf z size bytes ht hi hz hsize hby hzs hsz v n cs hown _ 1 news h2' hone (by unfold maxLen; omega) (Nat.le_trans (Nat.mul_le_mul (show n + 1 ≤ 1000001 by omega) hbb) (by decide)) (Nat.le_trans hB hI.2.1.size)
  have hre : (execOp ρ o).run S.P w = .ok (.value v') w' := by
    unfold execOp
    simp only [ho, resolve, invoke, builtin, Sem.run_bind, Sem.run_pure, Result.andThen_ok, List.map_toArray, List.map_cons, List.map_nil, h1', hrun]
  unfold Good
  rw [hre]
  have hon : Only S.E w w' := Only.grown hgr hE
  refine ⟨trivial, ⟨?_, hI.2.1.trans hon, ?_⟩, hon⟩
  · rw [hrd]; trivial
  · rw [if_pos hd, hJ]
    exact hown'
end
end Go.Proofs.Ytmlcbikljlhhkaa

namespace Go.Proofs.Ytmlcbikljlhhkaa
open Go.RowKit
section
variable {S : RS} {Fin : List Ty → Prop} {o : Oper} {l : List Oper} {i : Nat} {τs : List Ty}
/-- A step that leaves the world alone and whose value the simplifier finds. -/
theorem rs_eq (hO : S.Ok) (hid : i ≠ S.d ∨ ∀ ov w, S.J ov w) {c : Value}
    (h : ∀ ρ w, Only S.E S.w0 w → Known S.ops (tys τs) S.a0 ρ w i o.op.operands.toList → (execOp ρ o).run S.P w = .ok (.value c) w)
    (rest : RSeq S Fin l (i + 1) (TEq c :: τs)) : RSeq S Fin (o :: l) i τs :=
  rs_look hO hid (TEq c) (stb_eq _ _) (fun ρ w ho hK => ⟨c, h ρ w ho hK, rfl⟩) rest
end
end Go.Proofs.Ytmlcbikljlhhkaa

namespace Go.Proofs.Ytmlcbikljlhhkaa
open Go.RowKit
/-! Drawn regions with one step that writes. -/
def JStep (R0 R1 : World → Prop) : Option Value → World → Prop
  | none, w => R0 w
  | some _, w => R1 w
@[reducible] def stepRS (Pg : Program) (ops : Array Oper) (w : World) (a : Act) (E : Nat → Prop) (R0 R1 : World → Prop) (d : Nat) : RS :=
  { P := Pg, ops := ops, E := E, F := fun _ => False, rd := none, w0 := w, J := JStep R0 R1, d := d, a0 := a }
theorem stepRS_ok {Pg : Program} {ops : Array Oper} {w : World} {a : Act} {E : Nat → Prop} {R0 R1 : World → Prop} {d : Nat} (hE : ∀ g, E g → g < w.heap.size) (h0 : ∀ w1 w2, R0 w1 → Below w1.heap.size w1 w2 → R0 w2) (h1 : ∀ w1 w2, R1 w1 → Below w1.heap.size w1 w2 → R1 w2) : (stepRS Pg ops w a E R0 R1 d).Ok :=
  ⟨fun _ h => h.elim, fun ov w1 w2 hj ho => by
    cases ov with
    | none => exact h0 _ _ hj (only_below ho)
    | some v => exact h1 _ _ hj (only_below ho),
    fun _ _ e => (by cases e), hE⟩
/-- A row of the call's own. -/
def TOwn (B : Nat) (e : TypeId) (size n : Nat) (cs : List Value) : Ty := fun w v => w.ownsRow B e size v n cs
theorem stb_own {E : Nat → Prop} {B : Nat} (hE : ∀ g, E g → g < B) (e : TypeId) (size n : Nat) (cs : List Value) : Stb E (TOwn B e size n cs) := fun v w w' h ho =>
  own_only h ho fun g hg he => by have h1 := (h.lt g hg).1; have h2 := hE g he; omega
/-- Two of them, in a struct. -/
def TOwn2 (B : Nat) (e : TypeId) (n : Nat) (cs : List Value) (e' : TypeId) (n' : Nat) (cs' : List Value) : Ty := fun w v => ∃ a b, v = .agg #[a, b] ∧ w.ownsRow B e 1 a n cs ∧ w.ownsRow B e' 1 b n' cs'
theorem stb_own2 {E : Nat → Prop} {B : Nat} (hE : ∀ g, E g → g < B) (e : TypeId) (n : Nat) (cs : List Value) (e' : TypeId) (n' : Nat) (cs' : List Value) : Stb E (TOwn2 B e n cs e' n' cs') := by
  rintro v w w' ⟨a, b, rfl, h1, h2⟩ ho
  exact ⟨a, b, rfl, stb_own hE _ _ _ _ _ _ _ h1 ho, stb_own hE _ _ _ _ _ _ _ h2 ho⟩
section
variable {S : RS} {Fin : List Ty → Prop} {o : Oper} {l : List Oper} {i : Nat} {τs : List Ty}
/-- The step that writes. -/
theorem rs_do (hd : i = S.d) {R0 R1 : World → Prop} (hJ : S.J = JStep R0 R1) (hrd : S.rd = none)
    (h : ∀ ρ w, Only S.E S.w0 w → R0 w → Known S.ops (tys τs) S.a0 ρ w i o.op.operands.toList → ∃ w', (execOp ρ o).run S.P w = .ok .skip w' ∧ R1 w' ∧ Only S.E w w')
    (rest : RSeq S Fin l (i + 1) (TAny :: τs)) : RSeq S Fin (o :: l) i τs := by
  intro _
  refine ⟨TAny, stb_any _, fun k ov ρ w hk hI hov hK => ?_, rest⟩
  obtain rfl := hov (by rw [hd]; exact ancB_self _ _ _)
  have h0 : R0 w := by have := hI.2.2; rw [hJ] at this; exact this
  obtain ⟨w', hrun, h1, hon⟩ := h ρ w hI.2.1 h0 hK
  unfold Good
  rw [hrun]
  refine ⟨trivial, ⟨?_, hI.2.1.trans hon, ?_⟩, hon⟩
  · rw [hrd]; trivial
  · rw [if_pos hd, hJ]
    exact h1
end
end Go.Proofs.Ytmlcbikljlhhkaa
