import Derived.WalkKit
import Derived.Orders
import Derived.Laws.AppendOwn
import Derived.Below
import Derived.WalkSpells
import Derived.BigQuiet
import Derived.OpenShut
import Derived.Laws.OwnMore
import Derived.OwnWalk
import Derived.Deep.OwnRows
import Derived.Deep.Draws
import Derived.Deep.QuietTactic
import Derived.Outline
import Derived.Lib.Hide
import Derived.Test.YtkkkjbinfdohpaaProg
import Derived.Maps.AppendAt
import Derived.Tactics
set_option linter.unusedVariables false
set_option linter.unusedSimpArgs false
namespace Go.Proofs.Ytkkkjbinfdohpaa
/-! A region that draws its order, proved by what each of its operations yields, whatever the order: one step for each operation, none for an order. -/

/-- i is j, or is bound to come before j (by at most n edges). -/
def ancB (ops : Array Oper) : Nat → Nat → Nat → Bool
  | 0, i, j => i == j
  | n + 1, i, j => i == j || ((ops[j]?).map fun o => o.after.any fun e => Region.binds .any e && ancB ops n i e.on).getD false
def Shut (ops : Array Oper) (L : Nat → Bool) : Prop := ∀ j o, L j = true → ops[j]? = some o → ∀ e ∈ o.after, Region.binds .any e = true → L e.on = true
theorem ancB_shut {ops : Array Oper} {L : Nat → Bool} (hC : Shut ops L) : ∀ n i j, ancB ops n i j = true → L j = true → L i = true
  | 0, i, j, h, hj => by
    have : i = j := by simpa [ancB] using h
    exact this ▸ hj
  | n + 1, i, j, h, hj => by
    rw [ancB, Bool.or_eq_true] at h
    rcases h with h | h
    · have : i = j := by simpa using h
      exact this ▸ hj
    · cases ho : ops[j]? with
      | none => simp [ho] at h
      | some o =>
        simp only [ho, Option.map_some, Option.getD_some, Array.any_eq_true] at h
        obtain ⟨k, hk, h⟩ := h
        rw [Bool.and_eq_true] at h
        exact ancB_shut hC n i _ h.2 (hC j o hj ho _ (Array.getElem_mem hk) h.1)

def tmpsOf (xs : List Operand) : List Tmp := xs.filterMap fun | .tmp t => some t | _ => none
/-- Two operations whose order matters to the slots. -/
def clash (x y : Oper) : Bool :=
  (match x.dst with | some d => (tmpsOf y.op.operands.toList).contains d | none => false) ||
  (match y.dst with | some d => (tmpsOf x.op.operands.toList).contains d | none => false)
def rgB (ops : Array Oper) : Bool :=
  (List.range ops.size).all fun i => match ops[i]? with
    | none => true
    | some o => o.guard.isNone && o.after.all (fun e => !Region.binds .any e || decide (e.on < i)) &&
        (match o.op with | .select .. => false | _ => true) &&
        (List.range i).all fun j => match ops[j]? with
          | none => true
          | some p => (p.dst.isNone || p.dst != o.dst) && (!clash p o || ancB ops 4 j i)

section
variable {P : Program} {ops : Array Oper}
structure RgOk (ops : Array Oper) (i : Nat) (o : Oper) : Prop where
  guard : o.guard = none
  back : ∀ e ∈ o.after, Region.binds .any e = true → e.on < i
  sel : ∀ cs b, o.op ≠ .select cs b
  one : ∀ j p, j < i → ops[j]? = some p → ∀ d, p.dst = some d → o.dst ≠ some d
  anc : ∀ j p, j < i → ops[j]? = some p → clash p o = true → ancB ops 4 j i = true
theorem rgB_ok (h : rgB ops = true) {i : Nat} {o : Oper} (ho : ops[i]? = some o) : RgOk ops i o := by
  have hlt : i < ops.size := (Array.getElem?_eq_some_iff.1 ho).1
  have h1 := List.all_eq_true.1 h i (List.mem_range.2 hlt)
  simp only [ho, Bool.and_eq_true] at h1
  obtain ⟨⟨⟨h1, h2⟩, h3⟩, h4⟩ := h1
  refine ⟨by simpa using h1, fun e he hb => ?_, fun cs b e => by simp [e] at h3, fun j p hj hp d hd e => ?_, fun j p hj hp hc => ?_⟩
  · have := Array.all_eq_true_iff_forall_mem.1 h2 e he
    simpa [hb] using this
  · have := List.all_eq_true.1 h4 j (List.mem_range.2 hj)
    simp [hp, hd, e] at this
  · have := List.all_eq_true.1 h4 j (List.mem_range.2 hj)
    simp only [hp, Bool.and_eq_true] at this
    simpa [hc] using this.2

/-! ### What the slots hold -/
structure Is (ops : Array Oper) (a0 : Act) (L : Nat → Bool) (f : Nat → Value) (a : Act) : Prop where
  defers : a.defers = a0.defers
  size : a.tmps.size = a0.tmps.size
  mine : ∀ i o t, L i = true → ops[i]? = some o → o.dst = some t → t < a0.tmps.size → a.tmps.getD t undef = f i
  old : ∀ t, (∀ i o, L i = true → ops[i]? = some o → o.dst ≠ some t) → a.tmps.getD t undef = a0.tmps.getD t undef

theorem put_size (a : Act) (d : Option Tmp) (v : Value) : (a.put d v).tmps.size = a.tmps.size := by cases d <;> simp [Act.put]
theorem put_defers (a : Act) (d : Option Tmp) (v : Value) : (a.put d v).defers = a.defers := by cases d <;> rfl
theorem put_get (a : Act) (d : Tmp) (v : Value) (h : d < a.tmps.size) : (a.put (some d) v).tmps.getD d undef = v := by simp [Act.put, h]
theorem put_get_ne (a : Act) (d : Option Tmp) (v : Value) (t : Tmp) (h : d ≠ some t) : (a.put d v).tmps.getD t undef = a.tmps.getD t undef := by
  cases d with
  | none => rfl
  | some d =>
    have : d ≠ t := fun e => h (by rw [e])
    simp [Act.put, Array.getElem?_setIfInBounds_ne this]

theorem Is.start (a0 : Act) (f : Nat → Value) : Is ops a0 (fun _ => false) f a0 := ⟨rfl, rfl, fun _ _ _ h => (by cases h), fun _ _ => rfl⟩
theorem Is.step (hB : rgB ops = true) {a0 a : Act} {L : Nat → Bool} {f : Nat → Value} (h : Is ops a0 L f a) {i : Nat} {o : Oper} (ho : ops[i]? = some o) (hL : L i = false) (v : Value) :
    Is ops a0 (fun j => if j = i then true else L j) (fun j => if j = i then v else f j) (a.put o.dst v) := by
  refine ⟨(put_defers _ _ _).trans h.defers, (put_size _ _ _).trans h.size, fun j p t hj hp ht hlt => ?_, fun t ht => ?_⟩
  · by_cases e : j = i
    · subst e
      obtain rfl := Option.some.inj (ho.symm.trans hp)
      simp only [if_true]
      rw [ht]
      exact put_get _ _ _ (by rw [h.size]; exact hlt)
    · simp only [e, if_false] at hj ⊢
      rw [put_get_ne]
      · exact h.mine j p t hj hp ht hlt
      · intro hd
        rcases Nat.lt_or_gt_of_ne e with hlt' | hgt
        · exact (rgB_ok hB ho).one j p hlt' hp t ht hd
        · exact (rgB_ok hB hp).one i o hgt ho t hd ht
  · rw [put_get_ne]
    · exact h.old t fun j p hj hp => ht j p (by by_cases e : j = i <;> simp [e, hj]) hp
    · exact ht i o (by simp) ho
theorem Is.same {a0 a b : Act} {L : Nat → Bool} {f : Nat → Value} (h : Is ops a0 L f a) (h' : Is ops a0 L f b) : a = b := by
  have hd : a.defers = b.defers := h.defers.trans h'.defers.symm
  have ht : a.tmps = b.tmps := by
    apply Array.ext (h.size.trans h'.size.symm)
    intro t h1 h2
    have key : a.tmps.getD t undef = b.tmps.getD t undef := by
      by_cases hw : ∃ i o, L i = true ∧ ops[i]? = some o ∧ o.dst = some t
      · obtain ⟨i, o, hi, ho, hd⟩ := hw
        rw [h.mine i o t hi ho hd (by rw [← h.size]; exact h1), h'.mine i o t hi ho hd (by rw [← h.size]; exact h1)]
      · have hn : ∀ i o, L i = true → ops[i]? = some o → o.dst ≠ some t := fun i o hi ho hd => hw ⟨i, o, hi, ho, hd⟩
        rw [h.old t hn, h'.old t hn]
    simpa [Array.getD, h1, h2] using key
  cases a; cases b
  simp only at hd ht
  subst hd ht
  rfl

/-- All operations' values, in the text's order. -/
def putAll : List Oper → (Nat → Value) → Nat → Act → Act
  | [], _, _, a => a
  | o :: l, f, k, a => putAll l f (k + 1) (a.put o.dst (f k))
theorem putAll_is (hB : rgB ops = true) {a0 : Act} {f : Nat → Value} : ∀ (l : List Oper) (k : Nat) (a : Act), ops.toList.drop k = l → Is ops a0 (fun j => decide (j < k)) f a → Is ops a0 (fun j => decide (j < ops.size)) f (putAll l f k a)
  | [], k, a, hl, h => by
    have hk : ops.size ≤ k := by simpa using hl
    have e : Is ops a0 (fun j => decide (j < ops.size)) f a := ⟨h.defers, h.size, fun i o t hi ho => h.mine i o t (by simp at hi ⊢; omega) ho, fun t ht => h.old t fun i o hi ho => ht i o (by
      have := (Array.getElem?_eq_some_iff.1 ho).1
      simpa using this) ho⟩
    exact e
  | o :: l, k, a, hl, h => by
    have hk : k < ops.toList.length := by
      rcases Nat.lt_or_ge k ops.toList.length with h' | h'
      · exact h'
      · rw [List.drop_eq_nil_of_le h'] at hl; cases hl
    rw [List.drop_eq_getElem_cons hk] at hl
    injection hl with h1 h2
    have ho : ops[k]? = some o := by
      rw [← h1, ← Array.getElem?_toList, List.getElem?_eq_getElem hk]
    have hs := h.step hB ho (by simp) (f k)
    refine putAll_is hB l (k + 1) _ h2 ?_
    have e1 : (fun j => if j = k then true else decide (j < k)) = fun j => decide (j < k + 1) := by
      funext j
      by_cases e : j = k
      · subst e; simp
      · simp [e]; omega
    have e2 : (fun j => if j = k then f k else f j) = f := by
      funext j
      by_cases e : j = k <;> simp [e]
    rw [e1, e2] at hs
    exact hs

/-! ### The steps -/
/-- What one operation comes to, its operands' values given. -/
def Good (P : Program) (o : Oper) (ρ : Operand → Value) (w : World) (R : Value → World → Prop) : Prop :=
  match (execOp ρ o).run P w with
  | .ok (.value v) w' => R v w'
  | .ok .skip w' => R undef w'
  | .ok (.enter f args) w' => Calls P f args w' fun e w'' => match e with | .returned v => R v w'' | _ => False
  | _ => False
/-- The operation among the first i that writes slot t. -/
def writer (ops : Array Oper) (i t : Nat) : Option Nat := (List.range i).find? fun j => ((ops[j]?).bind (·.dst)) == some t
/-- What is known of the operands' values. -/
def Known (ops : Array Oper) (τ : Nat → World → Value → Prop) (a0 : Act) (ρ : Operand → Value) (w : World) (i : Nat) : List Operand → Prop
  | [] => True
  | .tmp t :: xs => (match writer ops i t with | some j => τ j w (ρ (.tmp t)) | none => ρ (.tmp t) = a0.eval (.tmp t)) ∧ Known ops τ a0 ρ w i xs
  | x :: xs => ρ x = a0.eval x ∧ Known ops τ a0 ρ w i xs

theorem known_of {τ : Nat → World → Value → Prop} {a0 : Act} {ρ : Operand → Value} {w : World} {i : Nat} (hw : ∀ t j, writer ops i t = some j → τ j w (ρ (.tmp t))) : ∀ (xs : List Operand),
    (∀ t, .tmp t ∈ xs → writer ops i t = none → ρ (.tmp t) = a0.eval (.tmp t)) → (∀ x, (∀ t, x ≠ .tmp t) → ρ x = a0.eval x) → Known ops τ a0 ρ w i xs
  | [], _, _ => trivial
  | .tmp t :: xs, h1, h2 => by
    refine ⟨?_, known_of hw xs (fun t ht => h1 t (List.mem_cons_of_mem _ ht)) h2⟩
    cases hj : writer ops i t with
    | none => exact h1 t (by simp) hj
    | some j => exact hw t j hj
  | .const v :: xs, h1, h2 => ⟨h2 _ (by simp), known_of hw xs (fun t ht => h1 t (List.mem_cons_of_mem _ ht)) h2⟩
  | .global v :: xs, h1, h2 => ⟨h2 _ (by simp), known_of hw xs (fun t ht => h1 t (List.mem_cons_of_mem _ ht)) h2⟩
  | .func v :: xs, h1, h2 => ⟨h2 _ (by simp), known_of hw xs (fun t ht => h1 t (List.mem_cons_of_mem _ ht)) h2⟩

theorem countP_lt {α : Type} {p q : α → Bool} : ∀ {l : List α}, (∀ x ∈ l, p x = true → q x = true) → (∃ x ∈ l, q x = true ∧ p x = false) → l.countP p < l.countP q
  | [], _, ⟨x, hx, _⟩ => by cases hx
  | y :: l, h, ⟨x, hx, hq, hp⟩ => by
    have hle : l.countP p ≤ l.countP q := List.countP_mono_left fun z hz => h z (List.mem_cons_of_mem _ hz)
    rw [List.countP_cons, List.countP_cons]
    rcases List.mem_cons.1 hx with e | hx'
    · subst e
      simp [hq, hp]; omega
    · have hlt := countP_lt (fun z hz => h z (List.mem_cons_of_mem _ hz)) ⟨x, hx', hq, hp⟩
      have := h y (by simp)
      by_cases hy : p y = true
      · simp [hy, this hy]; exact hlt
      · simp [hy]; split <;> omega

theorem Good.wp {Q : Exit → Act → World → Prop} {o : Oper} {a : Act} {w : World} {R : Value → World → Prop} {K : Act → World → Prop} (h : Good P o a.eval w R) (hK : ∀ v w', R v w' → K (a.put o.dst v) w') : o.wp P a w K Q := by
  unfold Good at h
  unfold Oper.wp
  generalize (execOp a.eval o).run P w = r at h
  match r, h with
  | .ok (.value v) w', h => exact hK v w' h
  | .ok .skip w', h => exact hK _ w' h
  | .ok (.enter f args) w', h =>
    refine Calls.mono h fun e w'' he => ?_
    match e, he with
    | .returned v, he => exact hK v w'' he

/-- What was assigned out of a slot that the region wrote is what was written there. -/
def Copies (ops : Array Oper) (L : Nat → Bool) (f : Nat → Value) : Prop := ∀ i o t j, L i = true → ops[i]? = some o → o.op = .assign (.tmp t) → writer ops i t = some j → L j = true ∧ f i = f j
theorem Good.assign {o : Oper} {ρ : Operand → Value} {w : World} {R : Value → World → Prop} (h : Good P o ρ w R) : Good P o ρ w fun v w' => R v w' ∧ ∀ x, o.op = .assign x → v = ρ x := by
  by_cases hx : ∃ x, o.op = .assign x
  · obtain ⟨x, hx⟩ := hx
    have hr : (execOp ρ o).run P w = .ok (.value (ρ x)) w := by simp [execOp, hx, go_sem]
    unfold Good at h ⊢
    rw [hr] at h ⊢
    exact ⟨h, fun y hy => by rw [hx] at hy; injection hy with hy; rw [hy]⟩
  · have hno : ∀ (v : Value) x, o.op = .assign x → v = ρ x := fun v x h => absurd ⟨x, h⟩ hx
    unfold Good at h ⊢
    generalize (execOp ρ o).run P w = r at h ⊢
    match r, h with
    | .ok (.value v) w', h => exact ⟨h, hno v⟩
    | .ok .skip w', h => exact ⟨h, hno _⟩
    | .ok (.enter f args) w', h =>
      refine Calls.mono h fun e w'' he => ?_
      match e, he with
      | .returned v, he => exact ⟨he, hno v⟩

structure Inv (ops : Array Oper) (τ : Nat → World → Value → Prop) (d : Nat) (I : Option Value → World → Prop) (a0 : Act) (L : Nat → Bool) (a : Act) (w : World) : Prop where
  shut : Shut ops L
  vals : ∃ f, Is ops a0 L f a ∧ I (if L d then some (f d) else none) w ∧ (∀ i, L i = true → i < ops.size ∧ τ i w (f i)) ∧ Copies ops L f

theorem eval_const (a b : Act) (x : Operand) (h : ∀ t, x ≠ .tmp t) : a.eval x = b.eval x := by
  cases x with
  | tmp t => exact absurd rfl (h t)
  | _ => rfl

theorem Inv.known {τ : Nat → World → Value → Prop} {d : Nat} {I : Option Value → World → Prop} {a0 a : Act} {L : Nat → Bool} {w : World} (hB : rgB ops = true) (hS : (ops.all fun o => match o.dst with | some t => decide (t < a0.tmps.size) | none => true) = true)
    (h : Inv ops τ d I a0 L a w) {i : Nat} {o : Oper} (ho : ops[i]? = some o) (hL : L i = false) (hr : ∀ e ∈ o.after, Region.binds .any e = true → L e.on = true) : Known ops τ a0 a.eval w i o.op.operands.toList := by
  obtain ⟨hC, f, hf, hI, hτ, _⟩ := h
  have anc : ∀ j, ancB ops 4 j i = true → j ≠ i → L j = true := by
    intro j hj hne
    rw [show (4 : Nat) = 3 + 1 from rfl, ancB, Bool.or_eq_true] at hj
    rcases hj with hj | hj
    · exact absurd (by simpa using hj) hne
    · simp only [ho, Option.map_some, Option.getD_some, Array.any_eq_true] at hj
      obtain ⟨k, hk, hj⟩ := hj
      rw [Bool.and_eq_true] at hj
      exact ancB_shut hC 3 j _ hj.2 (hr _ (Array.getElem_mem hk) hj.1)
  have hdst : ∀ (j : Nat) (p : Oper) (t : Tmp), ops[j]? = some p → p.dst = some t → t < a0.tmps.size := by
    intro j p t hp ht
    have := Array.all_eq_true_iff_forall_mem.1 hS p (Array.mem_of_getElem? hp)
    simpa [ht] using this
  have mem : ∀ t, .tmp t ∈ o.op.operands.toList → ∀ p : Oper, p.dst = some t → clash p o = true := by
    intro t ht p hp
    unfold clash
    rw [hp]
    simp only [Bool.or_eq_true]
    left
    rw [List.contains_iff_mem]
    exact List.mem_filterMap.2 ⟨_, ht, rfl⟩
  have mem' : ∀ t, .tmp t ∈ o.op.operands.toList → ∀ p : Oper, p.dst = some t → clash o p = true := by
    intro t ht p hp
    unfold clash
    rw [hp]
    simp only [Bool.or_eq_true]
    right
    rw [List.contains_iff_mem]
    exact List.mem_filterMap.2 ⟨_, ht, rfl⟩
  -- only what the operation looks at is asked
  have go : ∀ xs : List Operand, (∀ x ∈ xs, x ∈ o.op.operands.toList) → Known ops τ a0 a.eval w i xs := by
    intro xs
    induction xs with
    | nil => intro _; trivial
    | cons x xs ih =>
      intro hx
      have hrest := ih fun y hy => hx y (List.mem_cons_of_mem _ hy)
      cases x with
      | tmp t =>
        have ht := hx (.tmp t) (by simp)
        refine ⟨?_, hrest⟩
        cases hj : writer ops i t with
        | none =>
          show a.tmps.getD t undef = a0.tmps.getD t undef
          refine hf.old t fun j p hLj hp hd => ?_
          have hji : ¬ j < i := fun hlt => by
            have := List.find?_eq_none.1 hj j (List.mem_range.2 hlt)
            simp [hp, hd] at this
          have hne : j ≠ i := fun e => by subst e; rw [hL] at hLj; cases hLj
          -- j comes behind i: then i is listed too
          have hlt : i < j := by omega
          have := ancB_shut hC 4 i j ((rgB_ok hB hp).anc i o hlt ho (mem' t ht p hd)) hLj
          rw [hL] at this; cases this
        | some j =>
          have hj' := List.find?_some hj
          have hji : j < i := List.mem_range.1 (List.mem_of_find?_eq_some hj)
          cases hp : ops[j]? with
          | none => simp [hp] at hj'
          | some p =>
            have hd : p.dst = some t := by simpa [hp] using hj'
            have hLj := anc j ((rgB_ok hB ho).anc j p hji hp (mem t ht p hd)) (by omega)
            have := hf.mine j p t hLj hp hd (hdst j p t hp hd)
            show τ j w (a.tmps.getD t undef)
            rw [this]
            exact (hτ j hLj).2
      | const v => exact ⟨rfl, hrest⟩
      | global v => exact ⟨rfl, hrest⟩
      | func v => exact ⟨rfl, hrest⟩
  exact go _ fun _ h => h

theorem Inv.copy {τ : Nat → World → Value → Prop} {d : Nat} {I : Option Value → World → Prop} {a0 a : Act} {L : Nat → Bool} {w : World} (hB : rgB ops = true) (hS : (ops.all fun o => match o.dst with | some t => decide (t < a0.tmps.size) | none => true) = true)
    (h : Inv ops τ d I a0 L a w) {i : Nat} {o : Oper} (ho : ops[i]? = some o) (hL : L i = false) (hr : ∀ e ∈ o.after, Region.binds .any e = true → L e.on = true) {f : Nat → Value} (hf : Is ops a0 L f a) {t : Tmp} {j : Nat}
    (ha : o.op = .assign (.tmp t)) (hj : writer ops i t = some j) : L j = true ∧ a.eval (.tmp t) = f j := by
  have hC := h.shut
  have hj' := List.find?_some hj
  have hji : j < i := List.mem_range.1 (List.mem_of_find?_eq_some hj)
  cases hp : ops[j]? with
  | none => simp [hp] at hj'
  | some p =>
    have hd : p.dst = some t := by simpa [hp] using hj'
    have hcl : clash p o = true := by
      unfold clash
      rw [hd]
      simp only [Bool.or_eq_true]
      left
      rw [List.contains_iff_mem]
      exact List.mem_filterMap.2 ⟨.tmp t, by rw [ha]; simp [Op.operands], rfl⟩
    have hanc := (rgB_ok hB ho).anc j p hji hp hcl
    have hLj : L j = true := by
      rw [show (4 : Nat) = 3 + 1 from rfl, ancB, Bool.or_eq_true] at hanc
      rcases hanc with h1 | h1
      · exact absurd (by simpa using h1) (Nat.ne_of_lt hji)
      · simp only [ho, Option.map_some, Option.getD_some, Array.any_eq_true] at h1
        obtain ⟨k, hk, h1⟩ := h1
        rw [Bool.and_eq_true] at h1
        exact ancB_shut hC 3 j _ h1.2 (hr _ (Array.getElem_mem hk) h1.1)
    have hdst : t < a0.tmps.size := by
      have := Array.all_eq_true_iff_forall_mem.1 hS p (Array.mem_of_getElem? hp)
      simpa [hd] using this
    exact ⟨hLj, hf.mine j p t hLj hp hd hdst⟩

def open_ (ops : Array Oper) (listed : Array Bool) : Nat := (List.range ops.size).countP fun i => !listed.getD i false

theorem rg_any {Q : Exit → Act → World → Prop} {τ : Nat → World → Value → Prop} {d : Nat} {I : Nat → Option Value → World → Prop} {G : World → World → Prop} {a0 : Act} (hB : rgB ops = true) (hS : (ops.all fun o => match o.dst with | some t => decide (t < a0.tmps.size) | none => true) = true)
    (hG : ∀ i v w w', τ i w v → G w w' → τ i w' v)
    (hstep : ∀ i o, ops[i]? = some o → ∀ k ov ρ w, k < ops.size → I k ov w → (ancB ops 8 i d = true → ov = none) → Known ops τ a0 ρ w i o.op.operands.toList → Good P o ρ w fun v w' => τ i w' v ∧ I (k + 1) (if i = d then some v else ov) w' ∧ G w w')
    (hd : d < ops.size) (hend : ∀ f w' k, k ≤ ops.size → I k (some (f d)) w' → (∀ i, i < ops.size → τ i w' (f i)) → Copies ops (fun j => decide (j < ops.size)) f → Q .normal (putAll ops.toList f 0 a0) w') :
    ∀ (fuel : Nat) (listed : Array Bool) (a : Act) (w : World) (k : Nat), k + fuel = ops.size → listed.size = ops.size → open_ ops listed ≤ fuel → Inv ops τ d (I k) a0 (fun i => listed.getD i false) a w → wpAny P .any ops Q fuel listed a w := by
  have last : ∀ (listed : Array Bool) (a : Act) (w : World) (k : Nat), k ≤ ops.size → listed.size = ops.size → Inv ops τ d (I k) a0 (fun i => listed.getD i false) a w → Region.ready .any ops listed = [] → Q .normal a w := by
    intro listed a w k hk hsz h hr
    have hall : ∀ i, i < ops.size → listed.getD i false = true := by
      intro i
      induction i using Nat.strongRecOn with
      | _ i ih =>
        intro hi
        rcases hb : listed.getD i false with _ | _
        · exfalso
          have hm : i ∈ Region.ready .any ops listed := mem_ready.2 ⟨by
            have : i < listed.size := by omega
            simpa [Array.getD, this] using hb, ops[i], Array.getElem?_eq_getElem hi, fun e he hbn => ih e.on ((rgB_ok hB (Array.getElem?_eq_getElem hi)).back e he hbn) (by
              have := (rgB_ok hB (Array.getElem?_eq_getElem hi)).back e he hbn
              omega)⟩
          rw [hr] at hm
          cases hm
        · rfl
    obtain ⟨_, f, hf, hI, hτ, hcp⟩ := h
    have hI : I k (some (f d)) w := by simpa [hall d hd] using hI
    have e1 : Is ops a0 (fun j => decide (j < ops.size)) f a := ⟨hf.defers, hf.size, fun i o t hi ho hd hl => hf.mine i o t (hall i (Array.getElem?_eq_some_iff.1 ho).1) ho hd hl,
      fun t ht => hf.old t fun i o hi ho => ht i o (by simpa using (Array.getElem?_eq_some_iff.1 ho).1) ho⟩
    have e0 : Is ops a0 (fun j => decide (j < 0)) f a0 := ⟨rfl, rfl, fun _ _ _ h => by simp at h, fun _ _ => rfl⟩
    rw [e1.same (putAll_is hB ops.toList 0 a0 rfl e0)]
    refine hend f w k hk hI (fun i hi => (hτ i (hall i hi)).2) fun i o t j hi ho ha hw => ?_
    have hi' : i < ops.size := by simpa using hi
    obtain ⟨h1, h2⟩ := hcp i o t j (hall i hi') ho ha hw
    exact ⟨by simpa using (hτ j h1).1, h2⟩
  intro fuel
  induction fuel with
  | zero =>
    intro listed a w k hk hsz hc h
    have hr : Region.ready .any ops listed = [] := by
      refine List.eq_nil_iff_forall_not_mem.2 fun i hi => ?_
      obtain ⟨h1, o, ho, _⟩ := mem_ready.1 hi
      have hlt := (Array.getElem?_eq_some_iff.1 ho).1
      have hpos : 0 < open_ ops listed := List.countP_pos_iff.2 ⟨i, List.mem_range.2 hlt, by
        have : i < listed.size := by omega
        simpa [Array.getD, this] using h1⟩
      omega
    exact ⟨hr, last listed a w k (by omega) hsz h hr⟩
  | succ fuel ih =>
    intro listed a w k hk0 hsz hc h
    refine ⟨last listed a w k (by omega) hsz h, fun i hi => ?_⟩
    obtain ⟨h1, o, ho, hr⟩ := mem_ready.1 hi
    have hlt := (Array.getElem?_eq_some_iff.1 ho).1
    have hil : i < listed.size := by omega
    have h1' : listed.getD i false = false := by simpa [Array.getD, hil] using h1
    have hk := h.known hB hS ho h1' hr
    have hcopy : ∀ (f : Nat → Value), Is ops a0 (fun i => listed.getD i false) f a → ∀ t j, o.op = .assign (.tmp t) → writer ops i t = some j → listed.getD j false = true ∧ a.eval (.tmp t) = f j := fun f hf t j ha hw => h.copy hB hS ho h1' hr hf ha hw
    obtain ⟨hC, f, hf, hI, hτ, hcp⟩ := h
    have hg := hstep i o ho k _ a.eval w (by omega) hI (fun e => if_neg (fun hdl => by have := ancB_shut hC 8 i d e hdl; rw [h1'] at this; cases this)) hk
    unfold wpOp
    simp only [ho]
    rw [if_pos (by simp [Region.wanted, (rgB_ok hB ho).guard])]
    refine .inl (Good.wp hg.assign fun v w' ⟨⟨hv, hI', hgw⟩, hva⟩ => ?_)
    have eL : (fun j => (listed.setIfInBounds i true).getD j false) = fun j => if j = i then true else listed.getD j false := by
      funext j
      by_cases e : j = i
      · subst e; simp [hil]
      · simp only [e, if_false]
        exact getD_set_ne false (fun h => e h.symm)
    refine ih _ _ _ (k + 1) (by omega) (by simpa using hsz) ?_ ?_
    · have : open_ ops (listed.setIfInBounds i true) < open_ ops listed := by
        refine countP_lt (fun x _ hx => ?_) ⟨i, List.mem_range.2 hlt, by simpa using h1', ?_⟩
        · have : (listed.setIfInBounds i true).getD x false = if x = i then true else listed.getD x false := congrFun eL x
          rw [this] at hx
          by_cases e : x = i
          · simp [e] at hx
          · simpa [e] using hx
        · have : (listed.setIfInBounds i true).getD i false = if i = i then true else listed.getD i false := congrFun eL i
          rw [this]
          simp
      omega
    · rw [eL]
      refine ⟨fun j p hj hp e he hb => ?_, _, hf.step hB ho h1' v, ?_, fun j hj => ?_, fun j p t q hj hp ha hw => ?_⟩
      · by_cases ej : j = i
        · subst ej
          obtain rfl := Option.some.inj (ho.symm.trans hp)
          have := hr e he hb
          by_cases ee : e.on = j <;> simp [ee, this]
        · simp only [ej, if_false] at hj
          have := hC j p hj hp e he hb
          by_cases ee : e.on = i <;> simp [ee, this]
      · by_cases ed : i = d
        · subst ed
          simpa using hI'
        · simpa [ed, show ¬ d = i from fun h => ed h.symm] using hI'
      · by_cases ej : j = i
        · subst ej
          exact ⟨hlt, by simpa using hv⟩
        · simp only [ej, if_false] at hj ⊢
          exact ⟨(hτ j hj).1, hG j _ _ _ (hτ j hj).2 hgw⟩
      · have hqj : q < j := List.mem_range.1 (List.mem_of_find?_eq_some hw)
        by_cases ej : j = i
        · subst ej
          obtain rfl := Option.some.inj (ho.symm.trans hp)
          obtain ⟨h5, h6⟩ := hcopy f hf t q ha hw
          have hne : q ≠ j := by omega
          exact ⟨by simp only [hne, if_false]; exact h5, by simp only [hne, if_false, if_true]; rw [hva _ ha, h6]⟩
        · simp only [ej, if_false] at hj ⊢
          obtain ⟨h5, h6⟩ := hcp j p t q hj hp ha hw
          have h5' : listed.getD q false = true := h5
          have hne : q ≠ i := fun e => by rw [e, h1'] at h5'; cases h5'
          simp only [hne, if_false]
          exact ⟨h5, h6⟩

theorem ancB_self (ops : Array Oper) : ∀ (n i : Nat), ancB ops n i i = true
  | 0, i => by simp [ancB]
  | n + 1, i => by simp [ancB]
/-- THE RULE; what must come before the d-th step finds it undone. τ: what each operation yields; I: what holds of the world throughout; G: how the world may change. -/
theorem wp_region_rga {id : Nat} {Q : Exit → Act → World → Prop} {a0 : Act} {w : World} (τ : Nat → World → Value → Prop) (d : Nat) (I : Nat → Option Value → World → Prop) (G : World → World → Prop)
    (hm : P.follows .mixedOrders = true) (hB : rgB ops = true) (hS : (ops.all fun o => match o.dst with | some t => decide (t < a0.tmps.size) | none => true) = true) (h0 : I 0 none w.drew)
    (hG : ∀ i v w w', τ i w v → G w w' → τ i w' v)
    (hstep : ∀ i o, ops[i]? = some o → ∀ k ov ρ w, k < ops.size → I k ov w → (ancB ops 8 i d = true → ov = none) → Known ops τ a0 ρ w i o.op.operands.toList → Good P o ρ w fun v w' => τ i w' v ∧ I (k + 1) (if i = d then some v else ov) w' ∧ G w w')
    (hd : d < ops.size) (hend : ∀ f w' k, k ≤ ops.size → I k (some (f d)) w' → (∀ i, i < ops.size → τ i w' (f i)) → Copies ops (fun j => decide (j < ops.size)) f → Q .normal (putAll ops.toList f 0 a0) w') : (Code.region id ops true).wp P Q a0 w := by
  refine wp_region_any hm (rg_any hB hS hG hstep hd hend ops.size (Array.replicate ops.size false) a0 _ 0 (by omega) (by simp) ?_ ?_)
  · unfold open_
    exact Nat.le_trans List.countP_le_length (by simp)
  · have e : (fun i => (Array.replicate ops.size false).getD i false) = fun _ => false := by
      funext i
      by_cases h : i < ops.size <;> simp [Array.getD, h]
    rw [e]
    exact ⟨(fun j o hj => (by cases hj)), ⟨fun _ => undef, Is.start a0 _, h0, (fun i hi => (by cases hi)), (fun i o t j hi => (by cases hi))⟩⟩
/-- THE RULE. τ: what each operation yields; I: what holds of the world throughout; G: how the world may change. -/
theorem wp_region_rg {id : Nat} {Q : Exit → Act → World → Prop} {a0 : Act} {w : World} (τ : Nat → World → Value → Prop) (d : Nat) (I : Nat → Option Value → World → Prop) (G : World → World → Prop)
    (hm : P.follows .mixedOrders = true) (hB : rgB ops = true) (hS : (ops.all fun o => match o.dst with | some t => decide (t < a0.tmps.size) | none => true) = true) (h0 : I 0 none w.drew)
    (hG : ∀ i v w w', τ i w v → G w w' → τ i w' v)
    (hstep : ∀ i o, ops[i]? = some o → ∀ k ov ρ w, k < ops.size → I k ov w → (i = d → ov = none) → Known ops τ a0 ρ w i o.op.operands.toList → Good P o ρ w fun v w' => τ i w' v ∧ I (k + 1) (if i = d then some v else ov) w' ∧ G w w')
    (hd : d < ops.size) (hend : ∀ f w' k, k ≤ ops.size → I k (some (f d)) w' → (∀ i, i < ops.size → τ i w' (f i)) → Copies ops (fun j => decide (j < ops.size)) f → Q .normal (putAll ops.toList f 0 a0) w') : (Code.region id ops true).wp P Q a0 w :=
  wp_region_rga τ d I G hm hB hS h0 hG (fun i o ho k ov ρ w hk hI hov hK => hstep i o ho k ov ρ w hk hI (fun e => hov (by subst e; exact ancB_self _ _ _)) hK) hd hend
end
end Go.Proofs.Ytkkkjbinfdohpaa

namespace Go.Proofs.Ytkkkjbinfdohpaa
open Go.RowKit

/-! Memory: a slice value that reads as a row of cells; a row of the call's own. -/

theorem quietS {P : Program} {f : FuncId} {args : Array Value} {w : World} {n : Nat} {v : Value}
    (h : Calls P f args (w.drewN n) fun e w' => e = .returned v ∧ w.drewN n = w') : Calls P f args (w.drewN n) fun e w'' => e = .returned v ∧ ∃ m, w'' = w.drewN m :=
  h.mono fun _ _ ⟨he, hm⟩ => ⟨he, n, hm.symm⟩

/-- w' is w but for the count of what was drawn. -/
def Drew (w w' : World) : Prop := ∃ m, w' = w.drewN m
theorem Drew.refl (w : World) : Drew w w := ⟨0, rfl⟩
theorem Drew.by (w : World) (m : Nat) : Drew w (w.drewN m) := ⟨m, rfl⟩
theorem Drew.more {w a : World} (h : Drew w a) (n : Nat) : Drew w (a.drewN n) := by
  obtain ⟨m, rfl⟩ := h
  exact ⟨m + n, World.drewN_drewN _ _ _⟩
theorem Drew.trans {w a b : World} (h : Drew w a) (h' : Drew a b) : Drew w b := by
  obtain ⟨n, rfl⟩ := h'
  exact h.more n
theorem Drew.cell {w a : World} (h : Drew w a) (p : Addr) : a.cell? p = w.cell? p := by
  obtain ⟨m, rfl⟩ := h
  rfl
theorem Drew.size {w a : World} (h : Drew w a) : a.heap.size = w.heap.size := by
  obtain ⟨m, rfl⟩ := h
  rfl
theorem Drew.below {w a : World} (h : Drew w a) (B : Nat) : Below B w a := by
  obtain ⟨m, rfl⟩ := h
  exact ⟨rfl, rfl, rfl, Nat.le_refl _, fun _ _ => rfl⟩
theorem quietD {P : Program} {f : FuncId} {args : Array Value} {w : World} {n : Nat} {v : Value}
    (h : Calls P f args (w.drewN n) fun e w' => e = .returned v ∧ Drew (w.drewN n) w') : Calls P f args (w.drewN n) fun e w'' => e = .returned v ∧ ∃ m, w'' = w.drewN m :=
  h.mono fun _ _ ⟨he, m, hm⟩ => ⟨he, n + m, by rw [hm, World.drewN_drewN]⟩

/-- The slice value v has n elements of size cells each, and reads as the cells cs. -/
def Row (w : World) (size : Nat) (v : Value) (n : Nat) (cs : List Value) : Prop :=
  cs.length = n * size ∧ ∃ A c, v = .slice A n c ∧ n ≤ c ∧ c ≤ maxLen ∧
    (0 < n → ∃ b o, A = some ⟨b, o, none⟩ ∧ b < w.heap.size ∧ ∀ j u, cs[j]? = some u → w.cell? ⟨b, o + j, none⟩ = some u)

section
variable {w w' : World} {size n : Nat} {v : Value} {cs : List Value}
theorem Row.len (h : Row w size v n cs) : cs.length = n * size := h.1
theorem Row.shape (h : Row w size v n cs) : ∃ A c, v = .slice A n c ∧ n ≤ c ∧ c ≤ maxLen := by
  obtain ⟨_, A, c, hv, h1, h2, _⟩ := h
  exact ⟨A, c, hv, h1, h2⟩
theorem Row.open (h : Row w size v n cs) (hn : 0 < n) : ∃ b o c, v = .slice (some ⟨b, o, none⟩) n c ∧ n ≤ c ∧ c ≤ maxLen ∧ b < w.heap.size ∧ ∀ j u, cs[j]? = some u → w.cell? ⟨b, o + j, none⟩ = some u := by
  obtain ⟨_, A, c, hv, h1, h2, h3⟩ := h
  obtain ⟨b, o, rfl, hb, hc⟩ := h3 hn
  exact ⟨b, o, c, hv, h1, h2, hb, hc⟩
theorem Row.keep (h : Row w size v n cs) (hs : w.heap.size ≤ w'.heap.size) (hk : ∀ p : Addr, p.block < w.heap.size → w'.cell? p = w.cell? p) : Row w' size v n cs := by
  obtain ⟨h0, A, c, hv, h1, h2, h3⟩ := h
  refine ⟨h0, A, c, hv, h1, h2, fun hn => ?_⟩
  obtain ⟨b, o, hA, hb, hc⟩ := h3 hn
  exact ⟨b, o, hA, by omega, fun j u hu => (hk _ hb).trans (hc j u hu)⟩
theorem Row.below (h : Row w size v n cs) (hb : Below w.heap.size w w') : Row w' size v n cs := h.keep hb.size fun _ hp => hb.cell hp
theorem Row.drew (h : Row w size v n cs) (hd : Drew w w') : Row w' size v n cs := h.below (hd.below _)
theorem Row.drewN (h : Row w size v n cs) (m : Nat) : Row (w.drewN m) size v n cs := h
theorem Row.alloc (h : Row w size v n cs) (o : Obj) : Row (w.alloc o) size v n cs := h.below ((Below.refl _ _).alloc (Nat.le_refl _) o)
theorem Row.of_own {base : Nat} {e : TypeId} (h : w.ownsRow base e size v n cs) : Row w size v n cs := by
  refine ⟨h.1, ?_⟩
  rcases h.2 with ⟨rfl, rfl⟩ | ⟨g, cap, cur, rfl, _, hh, h1, h2, _⟩
  · exact ⟨none, 0, rfl, Nat.le_refl _, Nat.zero_le _, fun h => absurd h (by omega)⟩
  · refine ⟨_, cap, rfl, h1, h2, fun _ => ⟨g, 0, rfl, ?_, fun j u hu => ?_⟩⟩
    · rcases Nat.lt_or_ge g w.heap.size with hl | hl
      · exact hl
      · rw [Array.getElem?_eq_none hl] at hh; cases hh
    · have := h.cells (g := g) rfl j u hu
      rw [Nat.zero_add]
      by_cases hj : j = 0
      · subst hj; exact this
      · simpa [Addr.add, hj] using this
theorem Row.nil (w : World) (size : Nat) : Row w size (.slice none 0 0) 0 [] :=
  ⟨by simp, none, 0, rfl, Nat.le_refl _, Nat.zero_le _, fun h => absurd h (by omega)⟩
end

/-- The numbers as cells. -/
def ints (xs : List Int) : List Value := xs.map (Value.int .i64)
def IntsAt (w : World) (v : Value) (xs : List Int) : Prop := Row w 1 v xs.length (ints xs)
theorem ints_length (xs : List Int) : (ints xs).length = xs.length := List.length_map _
theorem ints_at {xs : List Int} {i : Nat} (h : i < xs.length) : ∃ x, xs[i]? = some x ∧ (ints xs)[i]? = some (.int .i64 x) :=
  ⟨xs[i], List.getElem?_eq_getElem h, by simp [ints, h]⟩
theorem ints_get {xs : List Int} {i : Nat} (h : i < xs.length) : (ints xs)[i]? = some (.int .i64 (xs.getD i 0)) := by
  simp [ints, h, List.getD_eq_getElem?_getD]

/-- An argument that is a slice of integers. -/
theorem Row.given {w : World} {k : IntKind} {a : Option Addr} {len cap : Nat} {zs : List Int}
    (h : (a = none ∧ len = 0 ∧ cap = 0 ∧ zs = []) ∨
      ∃ x, a = some x ∧ len ≤ cap ∧ cap ≤ maxLen ∧ zs.length = cap ∧ (∀ i, i < zs.length → w.cell? (x.add i) = some (.int k (zs.getD i 0))) ∧ ∀ n ∈ zs, (Lit.int k n).wf = true) :
    ∃ xs : List Int, xs.length = len ∧ (∀ n ∈ xs, (Lit.int k n).wf = true) ∧ Row w 1 (.slice a len cap) len (xs.map (Value.int k)) := by
  rcases h with ⟨rfl, rfl, rfl, rfl⟩ | ⟨x, rfl, h1, h2, h3, h4, h5⟩
  · exact ⟨[], rfl, by simp, Row.nil w 1⟩
  · refine ⟨zs.take len, by simp; omega, fun n hn => h5 n (List.mem_of_mem_take hn), by simp; omega, some x, cap, rfl, h1, h2, fun hp => ?_⟩
    obtain ⟨b, off, spot⟩ := x
    have h0 := h4 0 (by omega)
    have hspot : spot = none := by simpa [Addr.add] using World.cell?_spot h0
    subst hspot
    refine ⟨b, off, rfl, ?_, fun j u hu => ?_⟩
    · rcases Nat.lt_or_ge b w.heap.size with hl | hl
      · exact hl
      · simp [World.cell?, Addr.add, Array.getElem?_eq_none hl] at h0
    · have hj : j < len := by
        obtain ⟨hj, _⟩ := List.getElem?_eq_some_iff.1 hu
        simp at hj; omega
      rw [← Go.WideShapes.add_plain, h4 j (by omega), ← hu]
      simp [List.getElem?_take, hj, List.getD_eq_getElem?_getD, show j < zs.length from by omega]

/-- A row of the call's own that is not empty. -/
theorem own_open {w : World} {base : Nat} {e : TypeId} {size n : Nat} {v : Value} {cs : List Value} (h : w.ownsRow base e size v n cs) (hn : 0 < n) :
    ∃ g c, v = .slice (some ⟨g, 0, none⟩) n c ∧ base ≤ g ∧ g < w.heap.size ∧ n ≤ c ∧ c ≤ maxLen := by
  rcases h.2 with ⟨rfl, rfl⟩ | ⟨g, cap, cur, rfl, hb, hh, h1, h2, _⟩
  · omega
  · refine ⟨g, cap, rfl, hb, ?_, h1, h2⟩
    rcases Nat.lt_or_ge g w.heap.size with hl | hl
    · exact hl
    · rw [Array.getElem?_eq_none hl] at hh; cases hh

theorem own_slot {w : World} {base : Nat} {e : TypeId} {size n cap g : Nat} {cs : List Value} (h : w.ownsRow base e size (.slice (some ⟨g, 0, none⟩) n cap) n cs) {j : Nat} (hj : j < n * size) :
    ∃ u, cs[j]? = some u ∧ w.cell? ⟨g, j, none⟩ = some u ∧ w.frozen? ⟨g, j, none⟩ = false := by
  have hl := h.1
  refine ⟨cs[j]'(by omega), List.getElem?_eq_getElem _, ?_, h.frozenAt j⟩
  rw [h.cellAt j hj, List.getElem?_eq_getElem]
/-- A cell of a slice literal of numbers between lo and hi. -/
theorem lit_cell (w : World) (L : List Int) (t : TypeId) (lo hi : Int) (hL : ∀ x ∈ L, lo ≤ x ∧ x ≤ hi) (i : Nat) (h : i < L.length) :
    ∃ v : Int, lo ≤ v ∧ v ≤ hi ∧ (w.alloc (.cells (L.map (Value.int .i64)).toArray t)).cell? ⟨w.heap.size, i, none⟩ = some (.int .i64 v) := by
  have hm := hL L[i] (List.getElem_mem h)
  refine ⟨L[i], hm.1, hm.2, ?_⟩
  rw [cell_of_row _ _ i _ t (0, 0) (heap_alloc_new w _)]
  simp [h]
/-- A row of the call's own below what changes. -/
theorem own_below {w w' : World} {base : Nat} {e : TypeId} {size n : Nat} {v : Value} {cs : List Value} (h : w.ownsRow base e size v n cs) (hb : Below w.heap.size w w') : w'.ownsRow base e size v n cs := by
  refine h.kept (row := none) ⟨hb.os, hb.tape, hb.output, hb.size, fun k hk _ => hb.block k hk⟩ ?_
  cases hv : v.ownBlock with
  | none => exact .inl rfl
  | some q => exact .inr (by simp)
theorem take_set_succ {α : Type} {cs L : List α} {k : Nat} {u : α} (hk : k < cs.length) (h : cs.take k = L.take k) (hu : L[k]? = some u) : (cs.set k u).take (k + 1) = L.take (k + 1) := by
  apply List.ext_getElem?
  intro j
  have hj := congrArg (fun l => l[j]?) h
  simp only [List.getElem?_take, List.getElem?_set] at hj ⊢
  by_cases h1 : j < k
  · simpa [h1, Nat.lt_succ_of_lt h1, Nat.ne_of_gt h1] using hj
  · by_cases h2 : j = k
    · subst h2; simp [hk, hu]
    · simp [show ¬ j < k + 1 from by omega]
theorem take_snoc {α : Type} {xs : List α} {k : Nat} {x : α} (h : xs[k]? = some x) : xs.take (k + 1) = xs.take k ++ [x] := by
  rw [List.take_add_one, h]; rfl
theorem take_ne {α : Type} {xs ys : List α} {k : Nat} {x y : α} (h : xs[k]? = some x) (h' : ys[k]? = some y) (hn : x ≠ y) : xs ≠ ys := by
  rintro rfl
  rw [h] at h'
  exact hn (Option.some.inj h')
section
variable {P : Program}
/-- append to a row of the call's own, whatever the source: nil, empty or not. -/
theorem run_append_row (w : World) (base : Nat) (t ty e : TypeId) (i : TypeInfo) (z : Value) (size bytes : Nat) (ht : P.underlying t = some (.slice e)) (hi : P.info? e = some i) (hz : i.zero = some z)
    (hsize : i.size = size) (hby : i.bytes = bytes) (hzs : z.cells.size = size) (hsz : 0 < size)
    (v : Value) (n : Nat) (xs : List Value) (hown : w.ownsRow base e size v n xs) (sv : Value) (m : Nat) (news : List Value) (hr : Row w size sv m news) (h1 : ∀ u ∈ news, u.oneCell' = true)
    (h63 : n + m ≤ maxLen) (hbytes : (n + m) * bytes ≤ 140737488355328) (hbase : base ≤ w.heap.size) :
    ∃ v' w', (Builtin.append_ #[t, t] ty #[v, sv]).run P w = .ok v' w' ∧ w'.ownsRow base e size v' (n + m) (xs ++ news) ∧ w.grownBy w' v.ownBlock := by
  obtain ⟨hl, A, c, rfl, hc1, hc2, hcell⟩ := hr
  cases A with
  | none =>
    have hm : m = 0 := by
      rcases Nat.eq_zero_or_pos m with h0 | h0
      · exact h0
      · obtain ⟨b, o, h, _⟩ := hcell h0
        cases h
    subst hm
    have hn : news = [] := List.eq_nil_of_length_eq_zero (by simpa using hl)
    subst hn
    refine ⟨v, w, ?_, by simpa using hown, World.grownBy.refl w _⟩
    rcases hown.2 with ⟨rfl, rfl⟩ | ⟨g, cap, cur, rfl, _, _, hnc, _⟩
    · simp [Builtin.append_, run_underlying ht, sizeOf, typeInfo, hi, Builtin.lenOf, Builtin.firstCells]
    · simp [Builtin.append_, run_underlying ht, sizeOf, typeInfo, hi, Builtin.lenOf, Builtin.firstCells, hnc, storeCells]
  | some ad =>
    obtain ⟨v', w', hrun, hown', hgr, _⟩ := run_append_own (P := P) w base t ty e i z size bytes ht hi hz hsize hby hzs hsz v n xs hown ad m c news hl (fun j u hj => by
      have hm : 0 < m := by
        obtain ⟨hj', _⟩ := List.getElem?_eq_some_iff.1 hj
        rcases Nat.eq_zero_or_pos m with h0 | h0
        · subst h0; omega
        · exact h0
      obtain ⟨b, o, hA, _, hc⟩ := hcell hm
      obtain rfl := Option.some.inj hA
      rw [Go.WideShapes.add_plain]
      exact hc j u hj) h1 h63 hbytes hbase
    exact ⟨v', w', hrun, hown', hgr⟩
theorem wpList_append_row {w : World} {ops : Array Oper} {rest : List Oper} {o : Oper} {a : Act} {Q : Exit → Act → World → Prop} (hgd : o.guard = none) (s x : Operand) (t : TypeId)
    (ho : o.op = .call { callee := .builtin .append, args := #[s, x], argTypes := #[t, t] })
    (base : Nat) (e : TypeId) (i : TypeInfo) (z : Value) (size bytes : Nat) (ht : P.underlying t = some (.slice e)) (hi : P.info? e = some i) (hz : i.zero = some z)
    (hsize : i.size = size) (hby : i.bytes = bytes) (hzs : z.cells.size = size) (hsz : 0 < size)
    (v : Value) (n : Nat) (xs : List Value) (hs : a.eval s = v) (hown : w.ownsRow base e size v n xs) (sv : Value) (m : Nat) (news : List Value) (hx : a.eval x = sv) (hr : Row w size sv m news) (h1 : ∀ u ∈ news, u.oneCell' = true)
    (h63 : n + m ≤ maxLen) (hbytes : (n + m) * bytes ≤ 140737488355328) (hbase : base ≤ w.heap.size)
    (h : ∀ v' w', w'.ownsRow base e size v' (n + m) (xs ++ news) → w.grownBy w' v.ownBlock → wpList P ops Q rest (a.put o.dst v') w') : wpList P ops Q (o :: rest) a w := by
  obtain ⟨v', w', hrun, h2, h3⟩ := run_append_row (P := P) w base t o.type e i z size bytes ht hi hz hsize hby hzs hsz v n xs hown sv m news hr h1 h63 hbytes hbase
  refine wpList_plain hgd fun K hK => ?_
  unfold Oper.wp execOp
  simp only [ho, resolve, invoke, builtin, Sem.run_bind, Sem.run_pure, Result.andThen_ok, List.map_toArray, List.map_cons, List.map_nil, hs, hx, hrun]
  exact hK _ _ (h v' w' h2 h3)
end
theorem blk_cell {w : World} {g : Nat} {cs : Array Value} {t : TypeId} (h : w.heap[g]? = some (.cells cs t (0, 0))) (i : Nat) : w.cell? ⟨g, i, none⟩ = cs[i]? := cell_of_row w g i cs t (0, 0) h
theorem blk_free {w : World} {g : Nat} {cs : Array Value} {t : TypeId} (h : w.heap[g]? = some (.cells cs t (0, 0))) (i : Nat) : w.frozen? ⟨g, i, none⟩ = false := by simp [World.frozen?, h]
theorem bel_drewN {B : Nat} {a w : World} (h : Below B a w) (n : Nat) : Below B a (w.drewN n) := ⟨h.os, h.tape, h.output, h.size, h.block⟩
theorem below_cell {W w1 : World} (hb : Below W.heap.size W w1) : (∀ b o, b < W.heap.size → w1.cell? ⟨b, o, none⟩ = W.cell? ⟨b, o, none⟩) ∧ (∀ b o, b < W.heap.size → w1.frozen? ⟨b, o, none⟩ = W.frozen? ⟨b, o, none⟩) :=
  ⟨fun b o h => hb.cell (p := ⟨b, o, none⟩) h, fun b o h => hb.frozen (p := ⟨b, o, none⟩) h⟩
end Go.Proofs.Ytkkkjbinfdohpaa

namespace Go.Proofs.Ytkkkjbinfdohpaa
open Go.RowKit
/-! A world that differs from another one in some blocks and in new ones alone. -/
structure Only (E : Nat → Prop) (w w' : World) : Prop where
  os : w'.os = w.os
  tape : w'.tape = w.tape
  output : w'.output = w.output
  size : w.heap.size ≤ w'.heap.size
  block : ∀ k, k < w.heap.size → ¬ E k → w'.heap[k]? = w.heap[k]?
section
variable {E : Nat → Prop} {a b c : World}
theorem Only.refl (E : Nat → Prop) (w : World) : Only E w w := ⟨rfl, rfl, rfl, Nat.le_refl _, fun _ _ _ => rfl⟩
theorem Only.trans (h : Only E a b) (h' : Only E b c) : Only E a c :=
  ⟨h'.os.trans h.os, h'.tape.trans h.tape, h'.output.trans h.output, Nat.le_trans h.size h'.size, fun k hk he => (h'.block k (Nat.lt_of_lt_of_le hk h.size) he).trans (h.block k hk he)⟩
theorem Only.grown {r : Option Nat} (h : a.grownBy b r) (hr : ∀ k, r = some k → E k) : Only E a b :=
  ⟨h.os, h.tape, h.output, h.size, fun k hk he => h.block k hk fun e => he (hr k e.symm)⟩
theorem Only.drew (E : Nat → Prop) (w : World) : Only E w w.drew := ⟨rfl, rfl, rfl, Nat.le_refl _, fun _ _ _ => rfl⟩
theorem Only.mono {F : Nat → Prop} (h : Only E a b) (hE : ∀ k, E k → F k) : Only F a b := ⟨h.os, h.tape, h.output, h.size, fun k hk he => h.block k hk fun e => he (hE k e)⟩
theorem Only.of_below (E : Nat → Prop) (h : Below a.heap.size a b) : Only E a b := ⟨h.os, h.tape, h.output, h.size, fun k hk _ => h.block k hk⟩
theorem Only.below {B : Nat} {w : World} (h : Below B w a) (h' : Only E a b) (hB : B ≤ a.heap.size) (hE : ∀ k, E k → B ≤ k) : Below B w b :=
  ⟨h'.os.trans h.os, h'.tape.trans h.tape, h'.output.trans h.output, Nat.le_trans h.size h'.size, fun k hk => (h'.block k (Nat.lt_of_lt_of_le hk hB) fun e => by have := hE k e; omega).trans (h.block k hk)⟩
theorem Only.grownBy {R : Nat} (h : Only (· = R) a b) : a.grownBy b (some R) := ⟨h.os, h.tape, h.output, h.size, fun k hk hn => h.block k hk fun e => hn (by rw [e])⟩
end
end Go.Proofs.Ytkkkjbinfdohpaa

namespace Go.Proofs.Ytkkkjbinfdohpaa
/-! Bit operations on Go's int where both operands are not negative. -/
theorem ofInt64 (a : Nat) (ha : a < 18446744073709551616) : (BitVec.ofInt 64 (a : Int)).toNat = a := by
  rw [BitVec.ofInt_natCast, BitVec.toNat_ofNat]; exact Nat.mod_eq_of_lt (by omega)
theorem i64_and_nat (a b : Nat) (ha : a < 9223372036854775808) (hb : b < 9223372036854775808) : bits .and .i64 (a : Int) (b : Int) = ((a &&& b : Nat) : Int) := by
  have hx : a &&& b < 2 ^ 63 := Nat.and_lt_two_pow _ (by omega)
  show IntKind.i64.wrap ((BitVec.ofInt 64 (a : Int) &&& BitVec.ofInt 64 (b : Int)).toNat : Int) = _
  rw [BitVec.toNat_and, ofInt64 a (by omega), ofInt64 b (by omega), IntWalk.i64_in _ (by omega)]
theorem i64_or_nat (a b : Nat) (ha : a < 9223372036854775808) (hb : b < 9223372036854775808) : bits .or .i64 (a : Int) (b : Int) = ((a ||| b : Nat) : Int) := by
  have hx : a ||| b < 2 ^ 63 := Nat.or_lt_two_pow (by omega) (by omega)
  show IntKind.i64.wrap ((BitVec.ofInt 64 (a : Int) ||| BitVec.ofInt 64 (b : Int)).toNat : Int) = _
  rw [BitVec.toNat_or, ofInt64 a (by omega), ofInt64 b (by omega), IntWalk.i64_in _ (by omega)]
theorem i64_xor_nat (a b : Nat) (ha : a < 9223372036854775808) (hb : b < 9223372036854775808) : bits .xor .i64 (a : Int) (b : Int) = ((a ^^^ b : Nat) : Int) := by
  have hx : a ^^^ b < 2 ^ 63 := Nat.xor_lt_two_pow (by omega) (by omega)
  show IntKind.i64.wrap ((BitVec.ofInt 64 (a : Int) ^^^ BitVec.ofInt 64 (b : Int)).toNat : Int) = _
  rw [BitVec.toNat_xor, ofInt64 a (by omega), ofInt64 b (by omega), IntWalk.i64_in _ (by omega)]
theorem i64_and (a b : Int) (h1 : 0 ≤ a) (h2 : a < 9223372036854775808) (h3 : 0 ≤ b) (h4 : b < 9223372036854775808) : bits .and .i64 a b = ((a.toNat &&& b.toNat : Nat) : Int) := by
  obtain ⟨A, rfl⟩ := Int.eq_ofNat_of_zero_le h1
  obtain ⟨B, rfl⟩ := Int.eq_ofNat_of_zero_le h3
  simpa using i64_and_nat A B (by omega) (by omega)
theorem i64_or (a b : Int) (h1 : 0 ≤ a) (h2 : a < 9223372036854775808) (h3 : 0 ≤ b) (h4 : b < 9223372036854775808) : bits .or .i64 a b = ((a.toNat ||| b.toNat : Nat) : Int) := by
  obtain ⟨A, rfl⟩ := Int.eq_ofNat_of_zero_le h1
  obtain ⟨B, rfl⟩ := Int.eq_ofNat_of_zero_le h3
  simpa using i64_or_nat A B (by omega) (by omega)
theorem i64_xor (a b : Int) (h1 : 0 ≤ a) (h2 : a < 9223372036854775808) (h3 : 0 ≤ b) (h4 : b < 9223372036854775808) : bits .xor .i64 a b = ((a.toNat ^^^ b.toNat : Nat) : Int) := by
  obtain ⟨A, rfl⟩ := Int.eq_ofNat_of_zero_le h1
  obtain ⟨B, rfl⟩ := Int.eq_ofNat_of_zero_le h3
  simpa using i64_xor_nat A B (by omega) (by omega)
theorem i64_and_one (a : Int) (h1 : 0 ≤ a) (h2 : a < 9223372036854775808) : bits .and .i64 a 1 = a % 2 := by
  obtain ⟨A, rfl⟩ := Int.eq_ofNat_of_zero_le h1
  have h := i64_and_nat A 1 (by omega) (by omega)
  rw [Nat.and_one_is_mod] at h
  exact h
theorem two_pow (k : Nat) : (2 : Int) ^ k = ((2 ^ k : Nat) : Int) := (Int.natCast_pow 2 k).symm
theorem i64_and_mask (a : Nat) (k : Nat) (h2 : a < 9223372036854775808) (hk : 2 ^ k ≤ 9223372036854775808) : bits .and .i64 (a : Int) (2 ^ k - 1) = ((a % 2 ^ k : Nat) : Int) := by
  have h1 : 1 ≤ 2 ^ k := Nat.one_le_two_pow
  have h := i64_and_nat a (2 ^ k - 1) (by omega) (by omega)
  rw [Nat.and_two_pow_sub_one_eq_mod, Int.ofNat_sub h1] at h
  simpa using h
theorem ret_int {k : IntKind} {a b : Int} (h : a = b) : Ending.returned (.int k a) = .returned (.int k b) := by rw [h]
theorem ret_bool {a b : Bool} (h : a = b) : Ending.returned (.bool a) = .returned (.bool b) := by rw [h]
end Go.Proofs.Ytkkkjbinfdohpaa

namespace Go.Proofs.Ytkkkjbinfdohpaa
open Go.RowKit

/-- Block R is a reader: a slice of bytes below it, and a position that is at most P. -/
def Rd (w : World) (R P : Nat) : Prop :=
  ∃ (A : Option Addr) (c p : Nat) (bs : List Int), w.heap[R]? = some (.cells #[.slice A bs.length c, .int .i64 p] 115 (0, 0)) ∧ p ≤ P ∧ bs.length ≤ 2000 ∧ bs.length ≤ c ∧ c ≤ maxLen ∧
    (0 < bs.length → ∃ b o, A = some ⟨b, o, none⟩ ∧ b < R ∧ ∀ (i : Nat) (x : Int), bs[i]? = some x → w.cell? ⟨b, o + i, none⟩ = some (.int .u8 x) ∧ 0 ≤ x ∧ x ≤ 255)
theorem Rd.lt {w : World} {R P : Nat} (h : Rd w R P) : R < w.heap.size := by
  obtain ⟨A, c, p, bs, hh, _⟩ := h
  rcases Nat.lt_or_ge R w.heap.size with hl | hl
  · exact hl
  · rw [Array.getElem?_eq_none hl] at hh; cases hh
theorem Rd.more {w : World} {R P Q : Nat} (h : Rd w R P) (hq : P ≤ Q) : Rd w R Q := by
  obtain ⟨A, c, p, bs, hh, hp, hr⟩ := h
  exact ⟨A, c, p, bs, hh, by omega, hr⟩
theorem Rd.keep {w w' : World} {R P : Nat} (h : Rd w R P) (hb : ∀ k, k ≤ R → w'.heap[k]? = w.heap[k]?) : Rd w' R P := by
  obtain ⟨A, c, p, bs, hh, hp, h1, h2, h3, h4⟩ := h
  refine ⟨A, c, p, bs, (hb R (Nat.le_refl _)).trans hh, hp, h1, h2, h3, fun hn => ?_⟩
  obtain ⟨b, o, hA, hbR, hc⟩ := h4 hn
  exact ⟨b, o, hA, hbR, fun i x hx => ⟨(World.cell?_of_block (hb b (by omega))).trans (hc i x hx).1, (hc i x hx).2⟩⟩
theorem Rd.below {w w' : World} {R P B : Nat} (h : Rd w R P) (hb : Below B w w') (hR : R < B) : Rd w' R P := h.keep fun k hk => hb.block k (by omega)
theorem Rd.grown {w w' : World} {R P : Nat} {row : Option Nat} (h : Rd w R P) (hb : w.grownBy w' row) (hR : ∀ k, row = some k → R < k) : Rd w' R P :=
  h.keep fun k hk => hb.block k (by have := h.lt; omega) (fun e => by have := hR k e.symm; omega)
theorem Rd.alloc {w : World} {R P : Nat} (h : Rd w R P) (o : Obj) : Rd (w.alloc o) R P := h.grown (World.grownBy_alloc w o none) (by simp)
theorem Rd.drewN {w : World} {R P : Nat} (h : Rd w R P) (n : Nat) : Rd (w.drewN n) R P := h
theorem Rd.drew1 {w : World} {R P : Nat} (h : Rd w R P) : Rd w.drew R P := h

theorem grownBy_trans {a b c : World} {r : Option Nat} (h : a.grownBy b r) (h' : b.grownBy c r) : a.grownBy c r :=
  ⟨h'.os.trans h.os, h'.tape.trans h.tape, h'.output.trans h.output, Nat.le_trans h.size h'.size,
    fun k hk hr => (h'.block k (Nat.lt_of_lt_of_le hk h.size) hr).trans (h.block k hk hr)⟩
theorem grownBy_undrew {a b : World} {r : Option Nat} (h : a.drew.grownBy b r) : a.grownBy b r := ⟨h.os, h.tape, h.output, h.size, h.block⟩
theorem grownBy_drew {a b : World} {r : Option Nat} (h : a.grownBy b r) : a.grownBy b.drew r := ⟨h.os, h.tape, h.output, h.size, h.block⟩
theorem grownBy_drewN {a b : World} {r : Option Nat} (h : a.grownBy b r) (n : Nat) : a.grownBy (b.drewN n) r :=
  ⟨h.os, h.tape, h.output, h.size, h.block⟩

theorem Rd.stored {w : World} {R P c p : Nat} {A : Option Addr} {bs : List Int} (hh : w.heap[R]? = some (.cells #[.slice A bs.length c, .int .i64 p] 115 (0, 0))) (hp : p ≤ P) (h1 : bs.length ≤ 2000) (h2 : bs.length ≤ c) (h3 : c ≤ maxLen)
    (h4 : 0 < bs.length → ∃ b o, A = some ⟨b, o, none⟩ ∧ b < R ∧ ∀ (i : Nat) (x : Int), bs[i]? = some x → w.cell? ⟨b, o + i, none⟩ = some (.int .u8 x) ∧ 0 ≤ x ∧ x ≤ 255) :
    Rd (w.setCell ⟨R, 1, none⟩ (.int .i64 ((p : Int) + 1))) R (P + 1) ∧ w.grownBy (w.setCell ⟨R, 1, none⟩ (.int .i64 ((p : Int) + 1))) (some R) := by
  refine ⟨⟨A, c, p + 1, bs, ?_, by omega, h1, h2, h3, fun hn => ?_⟩, ⟨rfl, rfl, rfl, by simp [World.setCell], fun k _ hk => heap_setCell_other w ⟨R, 1, none⟩ k _ (fun e => hk (by simp [e]))⟩⟩
  · rw [heap_setCell_same w R 1 _ _ _ hh]
    simp
  · obtain ⟨b, o, hA, hb, hc⟩ := h4 hn
    exact ⟨b, o, hA, hb, fun i x hx => ⟨(World.cell?_setCell_other w ⟨R, 1, none⟩ ⟨b, o + i, none⟩ _ (fun e => by have := congrArg Addr.block e; simp at this; omega)).trans (hc i x hx).1, (hc i x hx).2⟩⟩

theorem pick_res (S n : Int) (h0 : 0 ≤ S) (h1 : S < 1000000000) (hn : 1 ≤ n) : 0 ≤ (bits BinOp.xor IntKind.i64 S (S / 64)).tmod n ∧ (bits BinOp.xor IntKind.i64 S (S / 64)).tmod n < n := by
  have h2 : 0 ≤ S / 64 ∧ S / 64 ≤ S := by omega
  rw [i64_xor S (S / 64) h0 (by omega) h2.1 (by omega), Int.tmod_eq_emod_of_nonneg (by omega)]
  exact ⟨Int.emod_nonneg _ (by omega), Int.emod_lt_of_pos _ (by omega)⟩

/-- What pick draws, and what becomes of its reader. -/
def Picked (n : Int) (R P : Nat) (w : World) (e : Ending) (w' : World) : Prop :=
  ∃ x : Int, 0 ≤ x ∧ x < n ∧ e = .returned (.int .i64 x) ∧ Rd w' R (P + 1) ∧ w.grownBy w' (some R)

set_option maxHeartbeats 1000000 in
theorem pick_any (n : Int) (R P : Nat) (w : World) (h : Rd w R P) (hP : P ≤ 1000000) (h1 : 1 ≤ n) (h2 : n ≤ 1000000) :
    Calls Try.prog 36 #[.pointer (some ⟨R, 0, none⟩), .int .i64 n] w (Picked n R P w) := by
  obtain ⟨A, c, p, bs, hh, hp, hl, hc, hcm, hrow⟩ := h
  have c0 : w.cell? ⟨R, 0, none⟩ = some (.slice A bs.length c) := by simp [World.cell?, hh]
  have c1 : w.cell? ⟨R, 1, none⟩ = some (.int .i64 p) := by simp [World.cell?, hh]
  have f1 : w.frozen? ⟨R, 1, none⟩ = false := by simp [World.frozen?, hh]
  have H := Lib.hid (Rd.stored hh hp hl hc hcm hrow)
  clear hh
  rcases Nat.eq_zero_or_pos bs.length with hz | hz
  · have d0 : ((bs.length : Int) == 0) = true := by rw [beq_iff_eq]; omega
    clear hrow
    have Hz := Lib.hid hz
    clear hz
    go_enter Try.func36, Try.ntmps36
    go_wp2
    go_ret
    exact ⟨0, by omega, by omega, rfl, H.out⟩
  · have d0 : ((bs.length : Int) == 0) = false := by rw [beq_eq_false_iff_ne]; omega
    obtain ⟨b, o, rfl, hb, hcell⟩ := hrow hz
    by_cases hk : p < bs.length
    · obtain ⟨x, hx⟩ : ∃ x, bs[p]? = some x := ⟨_, List.getElem?_eq_getElem hk⟩
      obtain ⟨hcx, hx0, hx1⟩ := hcell p x hx
      clear hcell hx hrow
      go_enter Try.func36, Try.ntmps36
      go_wp2
      go_ret
      exact ⟨x % n, Int.emod_nonneg _ (by omega), Int.emod_lt_of_pos _ (by omega), rfl, H.out⟩
    · have hm1 : p % bs.length < bs.length := Nat.mod_lt _ hz
      have hm2 : (p * 7 + 3) % bs.length < bs.length := Nat.mod_lt _ hz
      have e1 : (p : Int).tmod (bs.length : Int) = ((p % bs.length : Nat) : Int) := by rw [Int.tmod_eq_emod_of_nonneg (by omega)]; rfl
      have e2 : ((p : Int) * 7 + 3).tmod (bs.length : Int) = (((p * 7 + 3) % bs.length : Nat) : Int) := by rw [Int.tmod_eq_emod_of_nonneg (by omega)]; rfl
      have e3 : (p : Int).tdiv (bs.length : Int) = ((p / bs.length : Nat) : Int) := by rw [Int.tdiv_eq_ediv_of_nonneg (by omega)]; rfl
      have hm3 : p / bs.length ≤ p := Nat.div_le_self _ _
      obtain ⟨x, hx⟩ : ∃ x, bs[p % bs.length]? = some x := ⟨_, List.getElem?_eq_getElem hm1⟩
      obtain ⟨hcx, hx0, hx1⟩ := hcell _ x hx
      obtain ⟨y, hy⟩ : ∃ y, bs[(p * 7 + 3) % bs.length]? = some y := ⟨_, List.getElem?_eq_getElem hm2⟩
      obtain ⟨hcy, hy0, hy1⟩ := hcell _ y hy
      clear hcell hx hy hrow
      generalize p % bs.length = i at *
      generalize (p * 7 + 3) % bs.length = j at *
      generalize p / bs.length = d at *
      have E1 := Lib.hid e1
      have E2 := Lib.hid e2
      have E3 := Lib.hid e3
      clear e1 e2 e3
      have b0 : b ≠ R := by omega
      go_enter Try.func36, Try.ntmps36
      go_wp2
      have g0 : (w.setCell ⟨R, 1, none⟩ (.int .i64 ((p : Int) + 1))).cell? ⟨R, 0, none⟩ = some (.slice (some ⟨b, o, none⟩) bs.length c) := (World.cell?_setCell_other w ⟨R, 1, none⟩ ⟨R, 0, none⟩ _ (by simp)).trans c0
      have gx : (w.setCell ⟨R, 1, none⟩ (.int .i64 ((p : Int) + 1))).cell? ⟨b, o + i, none⟩ = some (.int .u8 x) := (World.cell?_setCell_other w ⟨R, 1, none⟩ ⟨b, o + i, none⟩ _ (by simp [b0])).trans hcx
      have gy : (w.setCell ⟨R, 1, none⟩ (.int .i64 ((p : Int) + 1))).cell? ⟨b, o + j, none⟩ = some (.int .u8 y) := (World.cell?_setCell_other w ⟨R, 1, none⟩ ⟨b, o + j, none⟩ _ (by simp [b0])).trans hcy
      have H := Lib.hid H.out
      generalize w.setCell ⟨R, 1, none⟩ (.int .i64 ((p : Int) + 1)) = w2 at *
      clear c0 c1 f1 hcx hcy
      have x1 : IntKind.i64.wrap ((p : Int) * 7) = p * 7 := IntWalk.i64_in _ (by omega)
      have x2 : IntKind.i64.wrap ((p : Int) * 7 + 3) = p * 7 + 3 := IntWalk.i64_in _ (by omega)
      have x3 : IntKind.i64.wrap (i : Int) = i := IntWalk.i64_in _ (by omega)
      have x4 : IntKind.i64.wrap (j : Int) = j := IntWalk.i64_in _ (by omega)
      have x5 : IntKind.i64.wrap (d : Int) = d := IntWalk.i64_in _ (by omega)
      have x6 : ¬ ((bs.length : Int) = 0) := by omega
      have e1 := E1.out
      have e2 := E2.out
      have e3 := E3.out
      go_quiet (fail)
      clear e1 e2 e3 x1 x2 x3 x4 x5
      go_wp2
      go_ret
      obtain ⟨r1, r2⟩ := pick_res (x * 131 + y * 1117 + ↑p * 29 + ↑d * 53) n (by omega) (by omega) h1
      exact ⟨_, r1, r2, rfl, H.out.1.drewN nq, grownBy_drewN H.out.2 nq⟩

theorem odd_zero (R P : Nat) (w : World) (hw : Rd w R P) :
    Calls Try.prog 80 #[.pointer (some ⟨R, 0, none⟩), .int .i64 0] w
      fun e w' => e = .returned (.bool false) ∧ w = w' := by
  go_enter Try.func80, Try.ntmps80
  go_wp2
  go_ret
  exact ⟨rfl, rfl⟩

/-- What odd draws. -/
def Odd (R P : Nat) (w : World) (e : Ending) (w' : World) : Prop :=
  ∃ x : Bool, e = .returned (.bool x) ∧ Rd w' R (P + 1) ∧ w.grownBy w' (some R)
theorem odd_any (n : Int) (R P : Nat) (w : World) (h : Rd w R P) (hP : P ≤ 1000000) (h1 : 1 ≤ n) (h2 : n ≤ 1000000) :
    Calls Try.prog 80 #[.pointer (some ⟨R, 0, none⟩), .int .i64 n] w (Odd R P w) := by
  have H := Lib.hid h
  clear h
  go_enter Try.func80, Try.ntmps80
  go_wp2_with fail
  refine (pick_any n R P w H.out hP h1 h2).mono ?_
  rintro e w' ⟨x, hx0, hx1, rfl, hr, hg⟩
  go_wp2_with fail
  go_ret
  exact ⟨_, rfl, hr, hg⟩

theorem Rd.made {w : World} {A : Option Addr} {c : Nat} {bs : List Int} (h : Row w 1 (.slice A bs.length c) bs.length (bs.map (Value.int .u8))) (hb : ∀ x ∈ bs, (Lit.int .u8 x).wf = true) (m : Nat) (hm : m ≤ bs.length) (hm2 : m ≤ 2000) :
    Rd (w.alloc (.cells #[.slice A m c, .int .i64 0] 115)) w.heap.size 0 := by
  obtain ⟨_, A', c', hv, h1, h2, h3⟩ := h
  injection hv with hA _ hc
  subst hA hc
  refine ⟨A, c, 0, bs.take m, ?_, Nat.le_refl _, by simp; omega, by simp; omega, h2, fun hn => ?_⟩
  · rw [List.length_take, Nat.min_eq_left hm]
    exact heap_alloc_new w _
  · obtain ⟨b, o, hA, hbl, hcell⟩ := h3 (by simp at hn; omega)
    refine ⟨b, o, hA, hbl, fun i x hx => ?_⟩
    obtain ⟨hi, hx'⟩ := List.getElem?_eq_some_iff.1 hx
    simp at hi hx'
    have hi2 : i < bs.length := by omega
    have hw := hb x (hx' ▸ List.getElem_mem hi2)
    refine ⟨((World.cell?_alloc_lt w _ ⟨b, o + i, none⟩ hbl).trans (hcell i _ (by simp [hi2, hx']))), ?_⟩
    have := Go.bounds_u8 hw
    omega

theorem open_any (v : Value) (bs : List Int) (w : World) (h : Row w 1 v bs.length (bs.map (Value.int .u8))) (hb : ∀ x ∈ bs, (Lit.int .u8 x).wf = true) (hl : bs.length ≤ 1048576) :
    Calls Try.prog 34 #[v] w
      fun e w' => e = .returned (.pointer (some ⟨w.heap.size, 0, none⟩)) ∧ Rd w' w.heap.size 0 ∧ Below w.heap.size w w' := by
  obtain ⟨A, c, hv, hc, hcm⟩ := h.shape
  subst hv
  go_enter Try.func34, Try.ntmps34
  go_wp2_with fail
  · go_ret
    exact ⟨rfl, Rd.made h hb 2000 (by omega) (by omega), (Below.refl _ _).alloc (Nat.le_refl _) _⟩
  · go_ret
    exact ⟨rfl, Rd.made h hb bs.length (by omega) (by omega), (Below.refl _ _).alloc (Nat.le_refl _) _⟩

/-- A cell of a literal of three numbers, behind a draw. -/
theorem lit_cell3 (w w' : World) (a b c : Int) (t : TypeId) {R : Nat} (hg : (w.alloc (.cells #[.int .i64 a, .int .i64 b, .int .i64 c] t)).drew.grownBy w' (some R)) (hR : R < w.heap.size) (y : Int) (h0 : 0 ≤ y) (h1 : y < 3) :
    ∃ v : Int, (v = a ∨ v = b ∨ v = c) ∧ w.heap.size < w'.heap.size ∧ w'.cell? ⟨w.heap.size, y.toNat, none⟩ = some (.int .i64 v) := by
  have hc := fun i => cell_of_row (w.alloc (.cells #[.int .i64 a, .int .i64 b, .int .i64 c] t)) w.heap.size i _ t (0, 0) (heap_alloc_new w _)
  have key : ∀ v, (w.alloc (.cells #[.int .i64 a, .int .i64 b, .int .i64 c] t)).cell? ⟨w.heap.size, y.toNat, none⟩ = some v → w'.cell? ⟨w.heap.size, y.toNat, none⟩ = some v :=
    fun v hv => World.grownBy.cell hg (a := ⟨w.heap.size, y.toNat, none⟩) hv (by simp; omega)
  have hs : w.heap.size < w'.heap.size := by
    have h5 : (w.alloc (.cells #[.int .i64 a, .int .i64 b, .int .i64 c] t)).heap.size ≤ w'.heap.size := hg.size
    simp at h5
    omega
  obtain h | h | h : y.toNat = 0 ∨ y.toNat = 1 ∨ y.toNat = 2 := by omega
  · exact ⟨a, .inl rfl, hs, key _ (by rw [h, hc]; rfl)⟩
  · exact ⟨b, .inr (.inl rfl), hs, key _ (by rw [h, hc]; rfl)⟩
  · exact ⟨c, .inr (.inr rfl), hs, key _ (by rw [h, hc]; rfl)⟩
/-- A cell of an elder block, behind a new block and a draw. -/
theorem keep_new {w w' : World} {o : Obj} {R g i : Nat} {v : Value} (hg : (w.alloc o).grownBy w' (some R)) (h : w.cell? ⟨g, i, none⟩ = some v) (hl : g < w.heap.size) (hn : g ≠ R) : w'.cell? ⟨g, i, none⟩ = some v ∧ g < w'.heap.size := by
  refine ⟨World.grownBy.cell hg ((World.cell?_alloc_lt w o ⟨g, i, none⟩ hl).trans h) (by simp [hn]), ?_⟩
  have h5 : (w.alloc o).heap.size ≤ w'.heap.size := hg.size
  simp at h5
  omega
theorem keep_old {w w' : World} {R g i : Nat} {v : Value} (hg : w.grownBy w' (some R)) (h : w.cell? ⟨g, i, none⟩ = some v) (hl : g < w.heap.size) (hn : g ≠ R) : w'.cell? ⟨g, i, none⟩ = some v ∧ g < w'.heap.size :=
  ⟨World.grownBy.cell hg h (by simp [hn]), Nat.lt_of_lt_of_le hl hg.size⟩
/-- A cell of a literal of two numbers. -/
theorem lit_new2 (w : World) (a b : Int) (t : TypeId) (y : Int) (h0 : 0 ≤ y) (h1 : y < 2) :
    ∃ v : Int, (v = a ∨ v = b) ∧ 0 ≤ y ∧ (w.alloc (.cells #[.int .i64 a, .int .i64 b] t)).cell? ⟨w.heap.size, y.toNat, none⟩ = some (.int .i64 v) := by
  have hc := fun i => cell_of_row (w.alloc (.cells #[.int .i64 a, .int .i64 b] t)) w.heap.size i _ t (0, 0) (heap_alloc_new w _)
  obtain h | h : y.toNat = 0 ∨ y.toNat = 1 := by omega
  · exact ⟨a, .inl rfl, h0, by rw [h, hc]; rfl⟩
  · exact ⟨b, .inr rfl, h0, by rw [h, hc]; rfl⟩
theorem lit_cell2 (w w' : World) (a b : Int) (t : TypeId) {R : Nat} (hg : (w.alloc (.cells #[.int .i64 a, .int .i64 b] t)).grownBy w' (some R)) (hR : R < w.heap.size) (y : Int) (h0 : 0 ≤ y) (h1 : y < 2) :
    ∃ v : Int, (v = a ∨ v = b) ∧ 0 ≤ y ∧ w'.cell? ⟨w.heap.size, y.toNat, none⟩ = some (.int .i64 v) := by
  have hc := fun i => cell_of_row (w.alloc (.cells #[.int .i64 a, .int .i64 b] t)) w.heap.size i _ t (0, 0) (heap_alloc_new w _)
  have key : ∀ v, (w.alloc (.cells #[.int .i64 a, .int .i64 b] t)).cell? ⟨w.heap.size, y.toNat, none⟩ = some v → w'.cell? ⟨w.heap.size, y.toNat, none⟩ = some v :=
    fun v hv => World.grownBy.cell hg (a := ⟨w.heap.size, y.toNat, none⟩) hv (by simp; omega)
  obtain h | h : y.toNat = 0 ∨ y.toNat = 1 := by omega
  · exact ⟨a, .inl rfl, h0, key _ (by rw [h, hc]; rfl)⟩
  · exact ⟨b, .inr rfl, h0, key _ (by rw [h, hc]; rfl)⟩
end Go.Proofs.Ytkkkjbinfdohpaa

namespace Go.Proofs.Ytkkkjbinfdohpaa
open Go.RowKit
/-! append to a row of the call's own: where the new row lies. -/
section
variable {P : Program}
theorem run_append_row_at (w : World) (base : Nat) (t ty e : TypeId) (i : TypeInfo) (z : Value) (size bytes : Nat) (ht : P.underlying t = some (.slice e)) (hi : P.info? e = some i) (hz : i.zero = some z)
    (hsize : i.size = size) (hby : i.bytes = bytes) (hzs : z.cells.size = size) (hsz : 0 < size)
    (v : Value) (n : Nat) (xs : List Value) (hown : w.ownsRow base e size v n xs) (sv : Value) (m : Nat) (news : List Value) (hr : Row w size sv m news) (h1 : ∀ u ∈ news, u.oneCell' = true)
    (h63 : n + m ≤ maxLen) (hbytes : (n + m) * bytes ≤ 140737488355328) (hbase : base ≤ w.heap.size) :
    ∃ v' w', (Builtin.append_ #[t, t] ty #[v, sv]).run P w = .ok v' w' ∧ w'.ownsRow base e size v' (n + m) (xs ++ news) ∧ w.grownBy w' v.ownBlock ∧ (v'.ownBlock = v.ownBlock ∨ v'.ownBlock = some w.heap.size) := by
  obtain ⟨hl, A, c, rfl, hc1, hc2, hcell⟩ := hr
  cases A with
  | none =>
    have hm : m = 0 := by
      rcases Nat.eq_zero_or_pos m with h0 | h0
      · exact h0
      · obtain ⟨b, o, h, _⟩ := hcell h0
        cases h
    subst hm
    have hn : news = [] := List.eq_nil_of_length_eq_zero (by simpa using hl)
    subst hn
    refine ⟨v, w, ?_, by simpa using hown, World.grownBy.refl w _, .inl rfl⟩
    rcases hown.2 with ⟨rfl, rfl⟩ | ⟨g, cap, cur, rfl, _, _, hnc, _⟩
    · simp [Builtin.append_, run_underlying ht, sizeOf, typeInfo, hi, Builtin.lenOf, Builtin.firstCells]
    · simp [Builtin.append_, run_underlying ht, sizeOf, typeInfo, hi, Builtin.lenOf, Builtin.firstCells, hnc, storeCells]
  | some ad =>
    obtain ⟨v', w', hrun, hown', hgr, _, hat⟩ := run_append_own_at (P := P) w base t ty e i z size bytes ht hi hz hsize hby hzs hsz v n xs hown ad m c news hl (fun j u hj => by
      have hm : 0 < m := by
        obtain ⟨hj', _⟩ := List.getElem?_eq_some_iff.1 hj
        rcases Nat.eq_zero_or_pos m with h0 | h0
        · subst h0; omega
        · exact h0
      obtain ⟨b, o, hA, _, hc⟩ := hcell hm
      obtain rfl := Option.some.inj hA
      rw [Go.WideShapes.add_plain]
      exact hc j u hj) h1 h63 hbytes hbase
    exact ⟨v', w', hrun, hown', hgr, hat⟩
theorem wpList_append_at {w : World} {ops : Array Oper} {rest : List Oper} {o : Oper} {a : Act} {Q : Exit → Act → World → Prop} (hgd : o.guard = none) (s x : Operand) (t : TypeId)
    (ho : o.op = .call { callee := .builtin .append, args := #[s, x], argTypes := #[t, t] })
    (base : Nat) (e : TypeId) (i : TypeInfo) (z : Value) (size bytes : Nat) (ht : P.underlying t = some (.slice e)) (hi : P.info? e = some i) (hz : i.zero = some z)
    (hsize : i.size = size) (hby : i.bytes = bytes) (hzs : z.cells.size = size) (hsz : 0 < size)
    (v : Value) (n : Nat) (xs : List Value) (hs : a.eval s = v) (hown : w.ownsRow base e size v n xs) (sv : Value) (m : Nat) (news : List Value) (hx : a.eval x = sv) (hr : Row w size sv m news) (h1 : ∀ u ∈ news, u.oneCell' = true)
    (h63 : n + m ≤ maxLen) (hbytes : (n + m) * bytes ≤ 140737488355328) (hbase : base ≤ w.heap.size)
    (h : ∀ v' w', w'.ownsRow base e size v' (n + m) (xs ++ news) → w.grownBy w' v.ownBlock → (v'.ownBlock = v.ownBlock ∨ v'.ownBlock = some w.heap.size) → wpList P ops Q rest (a.put o.dst v') w') : wpList P ops Q (o :: rest) a w := by
  obtain ⟨v', w', hrun, h2, h3, h4⟩ := run_append_row_at (P := P) w base t o.type e i z size bytes ht hi hz hsize hby hzs hsz v n xs hown sv m news hr h1 h63 hbytes hbase
  refine wpList_plain hgd fun K hK => ?_
  unfold Oper.wp execOp
  simp only [ho, resolve, invoke, builtin, Sem.run_bind, Sem.run_pure, Result.andThen_ok, List.map_toArray, List.map_cons, List.map_nil, hs, hx, hrun]
  exact hK _ _ (h v' w' h2 h3 h4)
end
theorem own_mono {w : World} {base base' n size : Nat} {e : TypeId} {v : Value} {xs : List Value} (h : w.ownsRow base e size v n xs) (hb : base' ≤ base) : w.ownsRow base' e size v n xs :=
  ⟨h.1, h.2.imp id fun ⟨g, cap, cur, h1, h2, h3⟩ => ⟨g, cap, cur, h1, Nat.le_trans hb h2, h3⟩⟩
theorem own_kept {w w' : World} {base n size : Nat} {e : TypeId} {v : Value} {xs : List Value} {row : Option Nat} (h : w.ownsRow base e size v n xs) (hg : w.grownBy w' row) (hne : ∀ g, v.ownBlock = some g → row ≠ some g) : w'.ownsRow base e size v n xs :=
  h.kept hg (by
    cases hv : v.ownBlock with
    | none => exact .inl rfl
    | some g => exact .inr fun e => hne g hv e.symm)
end Go.Proofs.Ytkkkjbinfdohpaa

namespace Go.Proofs.Ytkkkjbinfdohpaa
open Go.RowKit
/-! Regions that draw their order, one line an operation, in the text's order: the types of what the operations yield are found on the way. -/
abbrev Ty := World → Value → Prop
def TEq (c : Value) : Ty := fun _ v => v = c
def TInt (lo hi : Int) : Ty := fun _ v => ∃ x, v = .int .i64 x ∧ lo ≤ x ∧ x ≤ hi
def TBool : Ty := fun _ v => ∃ x, v = .bool x
/-- A slice of n cells of which G holds, in a block that nobody writes. -/
def TLit (E : Nat → Prop) (n : Nat) (G : Value → Prop) : Ty := fun w v => ∃ g, v = .slice (some ⟨g, 0, none⟩) n n ∧ ¬ E g ∧ g < w.heap.size ∧ ∀ i, i < n → ∃ x, w.cell? ⟨g, i, none⟩ = some x ∧ G x
def TPtr (E : Nat → Prop) (G : Value → Prop) : Ty := fun w v => ∃ g i x, v = .pointer (some ⟨g, i, none⟩) ∧ ¬ E g ∧ g < w.heap.size ∧ w.cell? ⟨g, i, none⟩ = some x ∧ G x
def TOf (G : Value → Prop) : Ty := fun _ v => G v
def TAny : Ty := fun _ _ => True
def GInt (lo hi : Int) (v : Value) : Prop := ∃ x, v = .int .i64 x ∧ lo ≤ x ∧ x ≤ hi
def Stb (E : Nat → Prop) (T : Ty) : Prop := ∀ v w w', T w v → Only E w w' → T w' v
section
variable (E : Nat → Prop)
theorem stb_eq (c : Value) : Stb E (TEq c) := fun _ _ _ h _ => h
theorem stb_int (lo hi : Int) : Stb E (TInt lo hi) := fun _ _ _ h _ => h
theorem stb_bool : Stb E TBool := fun _ _ _ h _ => h
theorem stb_of (G : Value → Prop) : Stb E (TOf G) := fun _ _ _ h _ => h
theorem stb_any : Stb E TAny := fun _ _ _ _ _ => trivial
variable {E} in
theorem cell_on {w w' : World} {g i : Nat} {u : Value} (hg : Only E w w') (hn : ¬ E g) (hl : g < w.heap.size) (h : w.cell? ⟨g, i, none⟩ = some u) : w'.cell? ⟨g, i, none⟩ = some u :=
  (World.cell?_of_block (a := ⟨g, i, none⟩) (hg.block g hl hn)).trans h
theorem stb_lit (n : Nat) (G : Value → Prop) : Stb E (TLit E n G) := by
  rintro v w w' ⟨g, hv, hn, hl, hc⟩ hg
  refine ⟨g, hv, hn, Nat.lt_of_lt_of_le hl hg.size, fun i hi => ?_⟩
  obtain ⟨x, hx, hb⟩ := hc i hi
  exact ⟨x, cell_on hg hn hl hx, hb⟩
theorem stb_ptr (G : Value → Prop) : Stb E (TPtr E G) := by
  rintro v w w' ⟨g, i, x, hv, hn, hl, hc, hb⟩ hg
  exact ⟨g, i, x, hv, hn, Nat.lt_of_lt_of_le hl hg.size, cell_on hg hn hl hc, hb⟩
end
/-- The type of the i-th operation; the list holds the last one first. -/
def tys (l : List Ty) (i : Nat) : Ty := l.getD (l.length - 1 - i) (TEq undef)
theorem tys_stb {E : Nat → Prop} {l : List Ty} (h : ∀ T ∈ l, Stb E T) (i : Nat) : Stb E (tys l i) := by
  unfold tys
  rw [List.getD_eq_getElem?_getD]
  cases hi : l[l.length - 1 - i]? with
  | none => exact stb_eq E undef
  | some T => exact h T (List.mem_of_getElem? hi)
theorem tys_old (T : Ty) (l : List Ty) {j : Nat} (h : j < l.length) : tys (T :: l) j = tys l j := by
  unfold tys
  rw [List.length_cons, show l.length + 1 - 1 - j = (l.length - 1 - j) + 1 from by omega]
  rfl
theorem tys_new (T : Ty) (l : List Ty) : tys (T :: l) l.length = T := by
  unfold tys
  rw [List.length_cons, show l.length + 1 - 1 - l.length = 0 from by omega]
  rfl
/-- The reader, where there is one: block R, at most P + k draws. -/
def RdO (rd : Option (Nat × Nat)) (k : Nat) (w : World) : Prop := match rd with | none => True | some (R, P) => Rd w R (P + 40 * k)
/-- What is fixed for a region: E: the blocks that its steps may write; F: those that all steps but the d-th may write; rd: its reader; J: what the d-th step is about. -/
structure RS where
  P : Program
  ops : Array Oper
  E : Nat → Prop
  F : Nat → Prop
  rd : Option (Nat × Nat)
  w0 : World
  J : Option Value → World → Prop
  d : Nat
  a0 : Act
def RS.I (S : RS) (k : Nat) (ov : Option Value) (w : World) : Prop := RdO S.rd k w ∧ Only S.E S.w0 w ∧ S.J ov w
structure RS.Ok (S : RS) : Prop where
  sub : ∀ g, S.F g → S.E g
  keep : ∀ ov w w', S.J ov w → Only S.F w w' → S.J ov w'
  reader : ∀ R P, S.rd = some (R, P) → S.F R ∧ R < S.w0.heap.size
  low : ∀ g, S.E g → g < S.w0.heap.size
def RSeq (S : RS) (Fin : List Ty → Prop) : List Oper → Nat → List Ty → Prop
  | [], _, τs => Fin τs
  | o :: l, i, τs => (∀ T ∈ τs, Stb S.E T) → ∃ T : Ty, Stb S.E T ∧ (∀ k ov ρ w, k < S.ops.size → S.I k ov w → (ancB S.ops 8 i S.d = true → ov = none) → Known S.ops (tys τs) S.a0 ρ w i o.op.operands.toList → Good S.P o ρ w fun v w' => T w' v ∧ S.I (k + 1) (if i = S.d then some v else ov) w' ∧ Only S.E w w') ∧ RSeq S Fin l (i + 1) (T :: τs)
theorem Good.mono {P : Program} {o : Oper} {ρ : Operand → Value} {w : World} {R R' : Value → World → Prop} (h : Good P o ρ w R) (hR : ∀ v w', R v w' → R' v w') : Good P o ρ w R' := by
  unfold Good at h ⊢
  generalize (execOp ρ o).run P w = r at h ⊢
  match r, h with
  | .ok (.value v) w', h => exact hR v w' h
  | .ok .skip w', h => exact hR _ w' h
  | .ok (.enter f args) w', h =>
    refine Calls.mono h fun e w'' he => ?_
    match e, he with
    | .returned v, he => exact hR v w'' he
theorem known_mono {ops : Array Oper} {τ τ' : Nat → World → Value → Prop} {a0 : Act} {ρ : Operand → Value} {w : World} {i : Nat} (h : ∀ j w v, j < i → τ j w v → τ' j w v) : ∀ xs : List Operand, Known ops τ a0 ρ w i xs → Known ops τ' a0 ρ w i xs
  | [], _ => trivial
  | .tmp t :: xs, ⟨h1, h2⟩ => by
    refine ⟨?_, known_mono h xs h2⟩
    cases hw : writer ops i t with
    | none => rw [hw] at h1; exact h1
    | some j =>
      rw [hw] at h1
      have hj : j < i := by
        have := List.mem_of_find?_eq_some hw
        exact List.mem_range.1 this
      exact h j w _ hj h1
  | .const v :: xs, ⟨h1, h2⟩ => ⟨h1, known_mono h xs h2⟩
  | .global v :: xs, ⟨h1, h2⟩ => ⟨h1, known_mono h xs h2⟩
  | .func v :: xs, ⟨h1, h2⟩ => ⟨h1, known_mono h xs h2⟩
/-- The types, all told. -/
theorem rseq_types {S : RS} {Fin : List Ty → Prop} : ∀ (l : List Oper) (τs : List Ty), S.ops.toList.drop τs.length = l → τs.length + l.length = S.ops.size → (∀ T ∈ τs, Stb S.E T) → RSeq S Fin l τs.length τs →
    ∃ τ : List Ty, (∀ j, j < τs.length → tys τ j = tys τs j) ∧ (∀ T ∈ τ, Stb S.E T) ∧ Fin τ ∧ ∀ i o, τs.length ≤ i → S.ops[i]? = some o → ∀ k ov ρ w, k < S.ops.size → S.I k ov w → (ancB S.ops 8 i S.d = true → ov = none) → Known S.ops (tys τ) S.a0 ρ w i o.op.operands.toList → Good S.P o ρ w fun v w' => tys τ i w' v ∧ S.I (k + 1) (if i = S.d then some v else ov) w' ∧ Only S.E w w'
  | [], τs, _, hlen, hst, h => by
    simp at hlen
    refine ⟨τs, fun _ _ => rfl, hst, h, fun i o hi ho => ?_⟩
    have := (Array.getElem?_eq_some_iff.1 ho).1
    omega
  | o :: l, τs, hl, hlen, hst, h => by
    obtain ⟨T, hT, hg, hr⟩ := h hst
    have hst' : ∀ T' ∈ T :: τs, Stb S.E T' := by
      intro T' hT'
      rcases List.mem_cons.1 hT' with h1 | h1
      · rw [h1]; exact hT
      · exact hst T' h1
    have hdrop : S.ops.toList.drop (T :: τs).length = l := by
      rw [List.length_cons, ← List.drop_drop, hl]; rfl
    obtain ⟨τ, h2, h3, h4, h5⟩ := rseq_types l (T :: τs) hdrop (by simp at hlen ⊢; omega) hst' (by rw [List.length_cons]; exact hr)
    rw [List.length_cons] at h2 h5
    have hget : ∀ j, j < τs.length → tys τ j = tys τs j := fun j hj => (h2 j (by omega)).trans (tys_old T τs hj)
    have hgetT : tys τ τs.length = T := (h2 _ (by omega)).trans (tys_new T τs)
    refine ⟨τ, hget, h3, h4, fun i o' hi ho => ?_⟩
    rcases Nat.lt_or_ge τs.length i with hlt | hge
    · exact h5 i o' hlt ho
    · obtain rfl : i = τs.length := by omega
      have : o' = o := by
        have e : S.ops.toList[τs.length]? = some o := by
          have := congrArg (fun l => l[0]?) hl
          simpa using this
        rw [Array.getElem?_toList] at e
        exact Option.some.inj (ho.symm.trans e)
      subst this
      intro k ov ρ w hk hI hd hK
      rw [hgetT]
      exact hg k ov ρ w hk hI hd (known_mono (fun j w v hj h => by rw [← hget j hj]; exact h) _ hK)
/-- THE RULE. -/
theorem wp_region_rs {id : Nat} {Q : Exit → Act → World → Prop} (S : RS) (hO : S.Ok) (hm : S.P.follows .mixedOrders = true) (hB : rgB S.ops = true) (hS : (S.ops.all fun o => match o.dst with | some t => decide (t < S.a0.tmps.size) | none => true) = true) (hd : S.d < S.ops.size)
    (hr : RdO S.rd 0 S.w0) (hJ : S.J none S.w0)
    (h : RSeq S (fun τ => ∀ f w' k, k ≤ S.ops.size → S.I k (some (f S.d)) w' → (∀ i, i < S.ops.size → tys τ i w' (f i)) → Copies S.ops (fun j => decide (j < S.ops.size)) f → Q .normal (putAll S.ops.toList f 0 S.a0) w') S.ops.toList 0 []) : (Code.region id S.ops true).wp S.P Q S.a0 S.w0 := by
  obtain ⟨τ, _, h3, h4, h5⟩ := rseq_types S.ops.toList [] (by simp) (by simp) (by simp) h
  refine wp_region_rga (tys τ) S.d S.I (Only S.E) hm hB hS ⟨?_, Only.drew _ _, hO.keep _ _ _ hJ (Only.drew _ _)⟩ (fun i v w w' ht hg => tys_stb h3 i v w w' ht hg) (fun i o ho => h5 i o (Nat.zero_le _) ho) hd (fun f w' k hk hI ht hc => h4 f w' k hk hI ht hc)
  cases hrd : S.rd with
  | none => trivial
  | some x =>
    rw [hrd] at hr
    exact Rd.drew1 hr
/-! ### The steps -/
section
variable {S : RS} {Fin : List Ty → Prop} {o : Oper} {l : List Oper} {i : Nat} {τs : List Ty}
/-- A step that is not the d-th. -/
theorem rs_plain (hO : S.Ok) (hid : i ≠ S.d ∨ ∀ ov w, S.J ov w) (T : Ty) (hT : Stb S.E T)
    (h : ∀ k ρ w, k < S.ops.size → RdO S.rd k w → Only S.E S.w0 w → Known S.ops (tys τs) S.a0 ρ w i o.op.operands.toList → Good S.P o ρ w fun v w' => T w' v ∧ RdO S.rd (k + 1) w' ∧ Only S.F w w')
    (rest : RSeq S Fin l (i + 1) (T :: τs)) : RSeq S Fin (o :: l) i τs := by
  intro _
  refine ⟨T, hT, fun k ov ρ w hk hI _ hK => ?_, rest⟩
  refine (h k ρ w hk hI.1 hI.2.1 hK).mono fun v w' ⟨h1, h2, h3⟩ => ?_
  refine ⟨h1, ⟨h2, hI.2.1.trans (h3.mono hO.sub), ?_⟩, h3.mono hO.sub⟩
  rcases hid with hid | hid
  · rw [if_neg hid]
    exact hO.keep _ _ _ hI.2.2 h3
  · exact hid _ _
theorem rdO_more {rd : Option (Nat × Nat)} {k : Nat} {w : World} (h : RdO rd k w) : RdO rd (k + 1) w := by
  cases rd with
  | none => trivial
  | some x => exact Rd.more h (by omega)
theorem rdO_only {rd : Option (Nat × Nat)} {k : Nat} {w w' : World} {F : Nat → Prop} (h : RdO rd k w) (hg : w.grownBy w' none) : RdO rd k w' := by
  cases rd with
  | none => trivial
  | some x => exact Rd.grown h hg (by simp)
/-- A step that leaves the world alone. -/
theorem rs_pure (hO : S.Ok) (hid : i ≠ S.d ∨ ∀ ov w, S.J ov w) (T : Ty) (hT : Stb S.E T)
    (h : ∀ ρ w, Known S.ops (tys τs) S.a0 ρ w i o.op.operands.toList → ∃ v, (execOp ρ o).run S.P w = .ok (.value v) w ∧ T w v)
    (rest : RSeq S Fin l (i + 1) (T :: τs)) : RSeq S Fin (o :: l) i τs := by
  refine rs_plain hO hid T hT (fun k ρ w _ hr _ hK => ?_) rest
  obtain ⟨v, h1, h2⟩ := h ρ w hK
  unfold Good
  rw [h1]
  exact ⟨h2, rdO_more hr, Only.refl _ _⟩
/-- 'move' and 'assign' of a slot of before, of a constant. -/
theorem rs_old (hO : S.Ok) (hid : i ≠ S.d ∨ ∀ ov w, S.J ov w) (x : Operand) (ho : o.op = .move x ∨ o.op = .assign x) (c : Value) (hx : S.a0.eval x = c) (hw : (match x with | .tmp t => writer S.ops i t | _ => none) = none)
    (rest : RSeq S Fin l (i + 1) (TEq c :: τs)) : RSeq S Fin (o :: l) i τs := by
  refine rs_pure hO hid _ (stb_eq _ _) (fun ρ w hK => ⟨ρ x, ?_, ?_⟩) rest
  · rcases ho with ho | ho <;> simp [execOp, ho, go_sem]
  · have he : o.op.operands.toList = [x] := by rcases ho with ho | ho <;> rw [ho] <;> rfl
    rw [he] at hK
    show ρ x = c
    rw [← hx]
    cases x with
    | tmp t =>
      have h1 := hK.1
      rw [show writer S.ops i t = none from hw] at h1
      exact h1
    | const v => exact hK.1
    | global v => exact hK.1
    | func v => exact hK.1
/-- 'move' and 'assign' of what the region yielded. -/
theorem rs_same (hO : S.Ok) (hid : i ≠ S.d ∨ ∀ ov w, S.J ov w) (t j : Nat) (ho : o.op = .move (.tmp t) ∨ o.op = .assign (.tmp t)) (hw : writer S.ops i t = some j) (T : Ty) (hT : tys τs j = T)
    (rest : RSeq S Fin l (i + 1) (T :: τs)) : RSeq S Fin (o :: l) i τs := by
  intro hst
  refine rs_pure hO hid T (hT ▸ tys_stb hst j) (fun ρ w hK => ⟨ρ (.tmp t), ?_, ?_⟩) rest hst
  · rcases ho with ho | ho <;> simp [execOp, ho, go_sem]
  · have he : o.op.operands.toList = [.tmp t] := by rcases ho with ho | ho <;> rw [ho] <;> rfl
    rw [he] at hK
    have h1 := hK.1
    rw [hw] at h1
    rw [← hT]
    exact h1
def FnOk (P' : Program) (f : FuncId) : Prop := ∀ (args : Array Value) (w : World), (callFunc f args).run P' w = .ok (.enter f args) w
/-- A draw: whatever is asked for. -/
theorem rs_pick (hO : S.Ok) (hid : i ≠ S.d ∨ ∀ ov w, S.J ov w) (f : FuncId) (x y : Operand) (at_ : Array TypeId) (R P hi : Nat) (ho : o.op = .call { callee := .value (.func f), args := #[x, y], argTypes := at_ }) (hrd : S.rd = some (R, P)) (hcf : FnOk S.P f)
    (hx : ∀ ρ w, Known S.ops (tys τs) S.a0 ρ w i [.func f, x, y] → ρ (.func f) = .func (.func f) #[] #[] ∧ ρ x = .pointer (some ⟨R, 0, none⟩) ∧ ∃ n : Int, ρ y = .int .i64 n ∧ 1 ≤ n ∧ n ≤ hi + 1)
    (hc : ∀ (n : Int) (k : Nat) (w : World), k < S.ops.size → 1 ≤ n → n ≤ hi + 1 → Rd w R (P + 40 * k) → Calls S.P f #[.pointer (some ⟨R, 0, none⟩), .int .i64 n] w fun e w' => ∃ x : Int, 0 ≤ x ∧ x ≤ hi ∧ e = .returned (.int .i64 x) ∧ Rd w' R (P + 40 * k + 1) ∧ w.grownBy w' (some R))
    (rest : RSeq S Fin l (i + 1) (TInt 0 hi :: τs)) : RSeq S Fin (o :: l) i τs := by
  refine rs_plain hO hid _ (stb_int _ _ _) (fun k ρ w hk hr hon hK => ?_) rest
  rw [ho] at hK
  obtain ⟨h1, h2, n, h3, h3', h4⟩ := hx ρ w hK
  rw [hrd] at hr
  have hrun : (execOp ρ o).run S.P w = .ok (.enter f #[.pointer (some ⟨R, 0, none⟩), .int .i64 n]) w := by
    simp [execOp, ho, h1, h2, h3, go_sem, Result.andThen]
    exact hcf _ _
  unfold Good
  rw [hrun]
  refine (hc n k w hk h3' h4 hr).mono ?_
  rintro e w' ⟨y, h5, h6, rfl, hr', hg⟩
  refine ⟨⟨y, rfl, h5, h6⟩, by rw [hrd]; exact hr'.more (by omega), Only.grown hg fun q hq => ?_⟩
  cases hq
  exact (hO.reader R P hrd).1
/-- A call that makes memory alone. -/
theorem rs_call (hO : S.Ok) (hid : i ≠ S.d ∨ ∀ ov w, S.J ov w) (T : Ty) (hT : Stb S.E T) (f : FuncId) (args : Array Operand) (at_ : Array TypeId) (ho : o.op = .call { callee := .value (.func f), args := args, argTypes := at_ })
    (h : ∀ ρ w, Only S.E S.w0 w → Known S.ops (tys τs) S.a0 ρ w i (.func f :: args.toList) → ∃ vs, (execOp ρ o).run S.P w = .ok (.enter f vs) w ∧ Calls S.P f vs w fun e w' => ∃ v, e = .returned v ∧ T w' v ∧ Below w.heap.size w w')
    (rest : RSeq S Fin l (i + 1) (T :: τs)) : RSeq S Fin (o :: l) i τs := by
  refine rs_plain hO hid T hT (fun k ρ w hk hr hon hK => ?_) rest
  have he : o.op.operands.toList = .func f :: args.toList := by rw [ho]; simp [Op.operands, Call.operands]
  rw [he] at hK
  obtain ⟨vs, h1, h2⟩ := h ρ w hon hK
  unfold Good
  rw [h1]
  refine h2.mono ?_
  rintro e w' ⟨v, rfl, h3, h4⟩
  refine ⟨h3, ?_, Only.of_below _ h4⟩
  have hr' := rdO_more hr
  cases hrd : S.rd with
  | none => trivial
  | some x =>
    rw [hrd] at hr'
    exact Rd.below hr' h4 (Rd.lt hr')
/-- A literal. -/
theorem rs_build (hO : S.Ok) (hid : i ≠ S.d ∨ ∀ ov w, S.J ov w) (n : Nat) (G : Value → Prop) (e : TypeId)
    (h : ∀ ρ w, Known S.ops (tys τs) S.a0 ρ w i o.op.operands.toList → ∃ cs : Array Value, cs.size = n ∧ (execOp ρ o).run S.P w = .ok (.value (.slice (some ⟨w.heap.size, 0, none⟩) n n)) (w.alloc (.cells cs e)) ∧ ∀ c ∈ cs, G c)
    (rest : RSeq S Fin l (i + 1) (TLit S.E n G :: τs)) : RSeq S Fin (o :: l) i τs := by
  refine rs_plain hO hid _ (stb_lit _ _ _) (fun k ρ w hk hr hon hK => ?_) rest
  obtain ⟨cs, h1, h2, h3⟩ := h ρ w hK
  unfold Good
  rw [h2]
  have hb : Below w.heap.size w (w.alloc (.cells cs e)) := (Below.refl _ _).alloc (Nat.le_refl _) _
  refine ⟨⟨w.heap.size, rfl, fun hE => ?_, by simp, fun j hj => ?_⟩, ?_, Only.of_below _ hb⟩
  · have h4 := hO.low _ hE
    have h5 := hon.size
    omega
  · have hj' : j < cs.size := by omega
    exact ⟨cs[j], by rw [World.cell?_alloc_new]; exact Array.getElem?_eq_getElem hj', h3 _ (Array.getElem_mem hj')⟩
  · have hr' := rdO_more hr
    cases hrd : S.rd with
    | none => trivial
    | some x =>
      rw [hrd] at hr'
      exact Rd.alloc hr' _
def IxOk (P' : Program) (t : TypeId) : Prop := ∀ (w : World) (g n j : Nat), j < n → n ≤ 1000 → (Instr.indexAt t (.slice (some ⟨g, 0, none⟩) n n) (.int .i64 (j : Int))).run P' w = .ok (.pointer (some ⟨g, j, none⟩)) w
/-- An index of a literal. -/
theorem rs_index (hO : S.Ok) (hid : i ≠ S.d ∨ ∀ ov w, S.J ov w) (t : TypeId) (x y : Nat) (n : Nat) (G : Value → Prop) (hi : Int) (ho : o.op = .indexAddr t (.tmp x) (.tmp y)) (jx jy : Nat) (hx : writer S.ops i x = some jx) (hy : writer S.ops i y = some jy) (hTx : tys τs jx = TLit S.E n G) (hTy : tys τs jy = TInt 0 hi)
    (hn : n ≤ 1000) (hlt : hi < n) (hix : IxOk S.P t) (rest : RSeq S Fin l (i + 1) (TPtr S.E G :: τs)) : RSeq S Fin (o :: l) i τs := by
  refine rs_pure hO hid _ (stb_ptr _ _) (fun ρ w hK => ?_) rest
  rw [ho] at hK
  have h1 := hK.1
  have h2 := hK.2.1
  rw [hx] at h1
  rw [hy] at h2
  simp only [hTx] at h1
  simp only [hTy] at h2
  obtain ⟨g, hv, hg, hl, hc⟩ := h1
  obtain ⟨j, hj, h0, h1⟩ := h2
  obtain ⟨j', rfl⟩ := Int.eq_ofNat_of_zero_le h0
  obtain ⟨z, hz, hb⟩ := hc j' (by omega)
  refine ⟨.pointer (some ⟨g, j', none⟩), ?_, ⟨g, j', z, rfl, hg, hl, hz, hb⟩⟩
  have : j' < n := by omega
  have hr := hix w g n j' this hn
  simp [execOp, ho, hv, hj, Result.andThen, hr]
/-- What a pointer into a literal reads. -/
theorem rs_load (hO : S.Ok) (hid : i ≠ S.d ∨ ∀ ov w, S.J ov w) (t : TypeId) (x : Nat) (G : Value → Prop) (ho : o.op = .load t (.tmp x)) (jx : Nat) (hx : writer S.ops i x = some jx) (hTx : tys τs jx = TPtr S.E G) (ht : ∀ w, (isAgg t).run S.P w = .ok false w)
    (rest : RSeq S Fin l (i + 1) (TOf G :: τs)) : RSeq S Fin (o :: l) i τs := by
  refine rs_pure hO hid _ (stb_of _ _) (fun ρ w hK => ?_) rest
  rw [ho] at hK
  have h1 := hK.1
  rw [hx] at h1
  simp only [hTx] at h1
  obtain ⟨g, i, z, hv, hn, hl, hc, hG⟩ := h1
  refine ⟨z, ?_, hG⟩
  simp [execOp, ho, hv, go_sem, hc, ht, Result.andThen]
end
end Go.Proofs.Ytkkkjbinfdohpaa

namespace Go.Proofs.Ytkkkjbinfdohpaa
open Go.RowKit
/-! Slices whose elements are pairs of ints. -/
/-- The cubes as cells. -/
def cubes (ks : List (Int × Int)) : List Value := ks.flatMap fun k => [.int .i64 k.1, .int .i64 k.2]
theorem cubes_length (ks : List (Int × Int)) : (cubes ks).length = ks.length * 2 := by
  induction ks with
  | nil => rfl
  | cons k ks ih => simp [cubes] at ih ⊢; omega
theorem cubes_append (a b : List (Int × Int)) : cubes (a ++ b) = cubes a ++ cubes b := by simp [cubes]
theorem cubes_get {ks : List (Int × Int)} {i : Nat} {k : Int × Int} (h : ks[i]? = some k) : (cubes ks)[i * 2]? = some (.int .i64 k.1) ∧ (cubes ks)[i * 2 + 1]? = some (.int .i64 k.2) := by
  induction ks generalizing i with
  | nil => simp at h
  | cons a ks ih =>
    cases i with
    | zero =>
      have : a = k := by simpa using h
      subst this
      simp [cubes]
    | succ i =>
      have := ih (i := i) (by simpa using h)
      have e : (i + 1) * 2 = i * 2 + 1 + 1 := by omega
      rw [e]
      simpa [cubes] using this
def CubesAt (w : World) (v : Value) (ks : List (Int × Int)) : Prop := Row w 2 v ks.length (cubes ks)
theorem at_some {α : Type} {xs : List α} {i : Nat} (h : i < xs.length) : ∃ x, xs[i]? = some x := ⟨xs[i], List.getElem?_eq_getElem h⟩
/-- A cube of a slice, where it lies. -/
theorem cubes_open {w wr : World} {A : Option Addr} {n c : Nat} {ks : List (Int × Int)} (h : Row w 2 (.slice A n c) n (cubes ks)) (hb : Below w.heap.size w wr) {i : Nat} (hn : n = ks.length) (hi : i < ks.length) :
    ∃ b o k, A = some ⟨b, o, none⟩ ∧ b < w.heap.size ∧ Hid (ks[i]? = some k) ∧ wr.cell? ⟨b, o + i * 2, none⟩ = some (.int .i64 k.1) ∧ wr.cell? ⟨b, o + i * 2 + 1, none⟩ = some (.int .i64 k.2) := by
  subst hn
  obtain ⟨b, o, c', hv, _, _, hbl, hcell⟩ := h.open (by omega)
  obtain ⟨rfl, _⟩ : A = some ⟨b, o, none⟩ ∧ True := by injection hv with e1; exact ⟨e1, trivial⟩
  obtain ⟨k, hk⟩ := at_some hi
  obtain ⟨h1, h2⟩ := cubes_get hk
  refine ⟨b, o, k, rfl, hbl, Lib.hid hk, (hb.cell (p := ⟨b, _, none⟩) hbl).trans (hcell _ _ h1), ?_⟩
  rw [Nat.add_assoc]
  exact (hb.cell (p := ⟨b, _, none⟩) hbl).trans (hcell _ _ h2)

theorem run_make_any {P : Program} (t e : TypeId) (z : Value) (size bytes : Nat) (ht : P.underlying t = some (.slice e)) (hinfo : (P.info? e).map (fun i => (i.zero, i.size, i.bytes)) = some (some z, size, bytes))
    (kl kc : IntKind) (n : Nat) (hbytes : bytes * n ≤ 281474976710656) (h63 : n ≤ 9223372036854775807) (w : World) :
    (Instr.makeSlice t (.int kl (n : Int)) (.int kc (n : Int))).run P w = .ok (.slice (some ⟨w.heap.size, 0, none⟩) n n) (w.alloc (.cells (madeCells z.cells (n * size)) e)) := by
  obtain ⟨i, hi, hzz⟩ := Option.map_eq_some_iff.1 hinfo
  simp only [Prod.mk.injEq] at hzz
  obtain ⟨hz, hs, hb⟩ := hzz
  have hb' : (i.bytes : Int) * (n : Int) ≤ 281474976710656 := by
    have h : ((i.bytes * n : Nat) : Int) ≤ 281474976710656 := by rw [hb]; omega
    rwa [Int.natCast_mul] at h
  have hr := run_make (P := P) w t e i z ht hi hz kl kc n n (by omega) (Int.le_refl _) hb' (by omega)
  simp only [Int.toNat_natCast, hs] at hr
  exact hr
theorem take_set2 {α : Type} {cs L : List α} {k : Nat} {u v : α} (hk : k * 2 + 1 < cs.length) (h : cs.take (k * 2) = L.take (k * 2)) (hu : L[k * 2]? = some u) (hv : L[k * 2 + 1]? = some v) : ((cs.set (k * 2) u).set (k * 2 + 1) v).take ((k + 1) * 2) = L.take ((k + 1) * 2) := by
  have h1 := take_set_succ (by omega) h hu
  have h2 := take_set_succ (cs := cs.set (k * 2) u) (by simp; omega) h1 hv
  rw [show (k + 1) * 2 = k * 2 + 1 + 1 from by omega]
  exact h2

def bools (xs : List Bool) : List Value := xs.map Value.bool
def BoolsAt (w : World) (v : Value) (xs : List Bool) : Prop := Row w 1 v xs.length (bools xs)
theorem bools_length (xs : List Bool) : (bools xs).length = xs.length := List.length_map _
theorem bools_at {xs : List Bool} {i : Nat} (h : i < xs.length) : ∃ x, xs[i]? = some x ∧ (bools xs)[i]? = some (.bool x) :=
  ⟨xs[i], List.getElem?_eq_getElem h, by simp [bools, h]⟩
end Go.Proofs.Ytkkkjbinfdohpaa

namespace Go.Proofs.Ytkkkjbinfdohpaa
open Go.RowKit
/-! Drawn regions that make memory alone, with slices of booleans. -/
theorem only_below {w w' : World} (h : Only (fun _ => False) w w') : Below w.heap.size w w' := ⟨h.os, h.tape, h.output, h.size, fun k hk => h.block k hk id⟩
def TBools (xs : List Bool) : Ty := fun w v => BoolsAt w v xs
theorem stb_bools (xs : List Bool) : Stb (fun _ => False) (TBools xs) := fun _ _ _ h ho => Row.below h (only_below ho)
def TInts (xs : List Int) : Ty := fun w v => IntsAt w v xs
theorem stb_ints (xs : List Int) : Stb (fun _ => False) (TInts xs) := fun _ _ _ h ho => Row.below h (only_below ho)
def JNo : Option Value → World → Prop := fun _ _ => True
@[reducible] def quietRS (Pg : Program) (ops : Array Oper) (w : World) (a : Act) : RS := { P := Pg, ops := ops, E := fun _ => False, F := fun _ => False, rd := none, w0 := w, J := JNo, d := 0, a0 := a }
theorem quietRS_ok {Pg : Program} {ops : Array Oper} {w : World} {a : Act} : (quietRS Pg ops w a).Ok :=
  ⟨fun _ h => h, fun _ _ _ _ _ => trivial, fun _ _ e => (by cases e), fun _ e => e.elim⟩
theorem quiet_any {Pg : Program} {ops : Array Oper} {w : World} {a : Act} {i : Nat} : i ≠ (quietRS Pg ops w a).d ∨ ∀ ov w', (quietRS Pg ops w a).J ov w' := .inr fun _ _ => trivial
section
variable {S : RS} {Fin : List Ty → Prop} {o : Oper} {l : List Oper} {i : Nat} {τs : List Ty}
/-- A step that leaves the world alone and may read it. -/
theorem rs_look (hO : S.Ok) (hid : i ≠ S.d ∨ ∀ ov w, S.J ov w) (T : Ty) (hT : Stb S.E T)
    (h : ∀ ρ w, Only S.E S.w0 w → Known S.ops (tys τs) S.a0 ρ w i o.op.operands.toList → ∃ v, (execOp ρ o).run S.P w = .ok (.value v) w ∧ T w v)
    (rest : RSeq S Fin l (i + 1) (T :: τs)) : RSeq S Fin (o :: l) i τs := by
  refine rs_plain hO hid T hT (fun k ρ w _ hr ho hK => ?_) rest
  obtain ⟨v, h1, h2⟩ := h ρ w ho hK
  unfold Good
  rw [h1]
  exact ⟨h2, rdO_more hr, Only.refl _ _⟩
/-- A step that lays a block. -/
theorem rs_alloc (hO : S.Ok) (hid : i ≠ S.d ∨ ∀ ov w, S.J ov w) (T : Ty) (hT : Stb S.E T)
    (h : ∀ ρ w, Only S.E S.w0 w → Known S.ops (tys τs) S.a0 ρ w i o.op.operands.toList → ∃ v c, (execOp ρ o).run S.P w = .ok (.value v) (w.alloc c) ∧ T (w.alloc c) v)
    (rest : RSeq S Fin l (i + 1) (T :: τs)) : RSeq S Fin (o :: l) i τs := by
  refine rs_plain hO hid T hT (fun k ρ w _ hr ho hK => ?_) rest
  obtain ⟨v, c, h1, h2⟩ := h ρ w ho hK
  unfold Good
  rw [h1]
  refine ⟨h2, ?_, Only.of_below _ ((Below.refl _ _).alloc (Nat.le_refl _) c)⟩
  have hr' := rdO_more hr
  cases hrd : S.rd with
  | none => trivial
  | some x =>
    rw [hrd] at hr'
    exact Rd.alloc hr' _
/-- A step that must come before the d-th one: it finds J as it was. -/
theorem rs_before (hO : S.Ok) (hid : i ≠ S.d) (hanc : ancB S.ops 8 i S.d = true) (T : Ty) (hT : Stb S.E T)
    (h : ∀ k ρ w, RdO S.rd k w → Only S.E S.w0 w → S.J none w → Known S.ops (tys τs) S.a0 ρ w i o.op.operands.toList → Good S.P o ρ w fun v w' => T w' v ∧ RdO S.rd (k + 1) w' ∧ Only S.F w w')
    (rest : RSeq S Fin l (i + 1) (T :: τs)) : RSeq S Fin (o :: l) i τs := by
  intro _
  refine ⟨T, hT, fun k ov ρ w hk hI hov hK => ?_, rest⟩
  obtain rfl := hov hanc
  refine (h k ρ w hI.1 hI.2.1 hI.2.2 hK).mono fun v w' ⟨h1, h2, h3⟩ => ?_
  refine ⟨h1, ⟨h2, hI.2.1.trans (h3.mono hO.sub), ?_⟩, h3.mono hO.sub⟩
  rw [if_neg hid]
  exact hO.keep _ _ _ hI.2.2 h3
/-- A call that must come before the d-th step and makes memory alone. -/
theorem rs_call_before (hO : S.Ok) (hid : i ≠ S.d) (hanc : ancB S.ops 8 i S.d = true) (T : Ty) (hT : Stb S.E T) (f : FuncId) (args : Array Operand) (at_ : Array TypeId) (ho : o.op = .call { callee := .value (.func f), args := args, argTypes := at_ })
    (h : ∀ ρ w, Only S.E S.w0 w → S.J none w → Known S.ops (tys τs) S.a0 ρ w i (.func f :: args.toList) → ∃ vs, (execOp ρ o).run S.P w = .ok (.enter f vs) w ∧ Calls S.P f vs w fun e w' => ∃ v, e = .returned v ∧ T w' v ∧ Below w.heap.size w w')
    (rest : RSeq S Fin l (i + 1) (T :: τs)) : RSeq S Fin (o :: l) i τs := by
  refine rs_before hO hid hanc T hT (fun k ρ w hr hon hJ hK => ?_) rest
  have he : o.op.operands.toList = .func f :: args.toList := by rw [ho]; simp [Op.operands, Call.operands]
  rw [he] at hK
  obtain ⟨vs, h1, h2⟩ := h ρ w hon hJ hK
  unfold Good
  rw [h1]
  refine h2.mono ?_
  rintro e w' ⟨v, rfl, h3, h4⟩
  refine ⟨h3, ?_, Only.of_below _ h4⟩
  have hr' := rdO_more hr
  cases hrd : S.rd with
  | none => trivial
  | some x =>
    rw [hrd] at hr'
    exact Rd.below hr' h4 (Rd.lt hr')
end
/-! ### An append of known cells to a row of the call's own -/
def JApp (B : Nat) (e : TypeId) (size : Nat) (v : Value) (n : Nat) (cs news : List Value) : Option Value → World → Prop
  | none, w => w.ownsRow B e size v n cs
  | some v', w => w.ownsRow B e size v' (n + 1) (cs ++ news)
@[reducible] def appRS (Pg : Program) (ops : Array Oper) (w : World) (a : Act) (B : Nat) (e : TypeId) (size : Nat) (v : Value) (n : Nat) (cs news : List Value) (d : Nat) : RS :=
  { P := Pg, ops := ops, E := fun g => v.ownBlock = some g, F := fun _ => False, rd := none, w0 := w, J := JApp B e size v n cs news, d := d, a0 := a }
theorem appRS_ok {Pg : Program} {ops : Array Oper} {w : World} {a : Act} {B : Nat} {e : TypeId} {size : Nat} {v : Value} {n : Nat} {cs news : List Value} {d : Nat} (hown : w.ownsRow B e size v n cs) : (appRS Pg ops w a B e size v n cs news d).Ok :=
  ⟨fun _ h => h.elim, fun ov w1 w2 hj ho => by
    cases ov with
    | none => exact own_below hj (only_below ho)
    | some v' => exact own_below hj (only_below ho),
    fun _ _ e => (by cases e), fun g hg => (hown.lt g hg).2⟩
/-- A slice that lies in a block that nobody writes, and its cells. -/
def TNew (E : Nat → Prop) (size m : Nat) (news : List Value) : Ty := fun w v => Row w size v m news ∧ ∃ g c, v = .slice (some ⟨g, 0, none⟩) m c ∧ ¬ E g ∧ g < w.heap.size
theorem stb_new (E : Nat → Prop) (size m : Nat) (news : List Value) : Stb E (TNew E size m news) := by
  rintro v w w' ⟨h, g, c, rfl, hn, hl⟩ ho
  refine ⟨?_, g, c, rfl, hn, Nat.lt_of_lt_of_le hl ho.size⟩
  obtain ⟨h0, A, c', hv, h1, h2, h3⟩ := h
  injection hv with e1 _ e3
  subst e1 e3
  refine ⟨h0, _, c, rfl, h1, h2, fun hp => ?_⟩
  obtain ⟨b, o, hA, hb, hc⟩ := h3 hp
  have hA' := Option.some.inj hA
  injection hA' with e4 e5
  subst e4 e5
  exact ⟨g, 0, rfl, Nat.lt_of_lt_of_le hl ho.size, fun j u hu => (World.cell?_of_block (a := ⟨g, 0 + j, none⟩) (ho.block g hl hn)).trans (hc j u hu)⟩
section
variable {S : RS} {Fin : List Ty → Prop} {o : Oper} {l : List Oper} {i : Nat} {τs : List Ty}
/-- A literal of one element. -/
theorem rs_build1 (hO : S.Ok) (hid : i ≠ S.d ∨ ∀ ov w, S.J ov w) (size : Nat) (news : List Value) (e : TypeId) (hs : news.length = size)
    (h : ∀ ρ w, Only S.E S.w0 w → Known S.ops (tys τs) S.a0 ρ w i o.op.operands.toList → (execOp ρ o).run S.P w = .ok (.value (.slice (some ⟨w.heap.size, 0, none⟩) 1 1)) (w.alloc (.cells news.toArray e)))
    (rest : RSeq S Fin l (i + 1) (TNew S.E size 1 news :: τs)) : RSeq S Fin (o :: l) i τs := by
  refine rs_alloc hO hid _ (stb_new _ _ _ _) (fun ρ w hon hK => ?_) rest
  refine ⟨_, _, h ρ w hon hK, Row.of_own (World.ownsRow_lit (base := w.heap.size) (e := e) (size := size) w news.toArray 1 (Nat.le_refl _) (by unfold maxLen; omega) (by simp [hs])), w.heap.size, 1, rfl, fun hE => ?_, by simp⟩
  have h4 := hO.low _ hE
  have h5 := hon.size
  omega
/-- The append. -/
theorem rs_append1 (hd : i = S.d) (B : Nat) (e t : TypeId) (size : Nat) (v : Value) (n : Nat) (cs news : List Value) (hJ : S.J = JApp B e size v n cs news) (hrd : S.rd = none) (hE : ∀ g, v.ownBlock = some g → S.E g) (hB : B ≤ S.w0.heap.size)
    (x y : Nat) (ho : o.op = .call { callee := .builtin .append, args := #[.tmp x, .tmp y], argTypes := #[t, t] }) (jx jy : Nat) (hx : writer S.ops i x = some jx) (hy : writer S.ops i y = some jy) (hTx : tys τs jx = TEq v) (hTy : tys τs jy = TNew S.E size 1 news)
    (inf : TypeInfo) (z : Value) (bytes : Nat) (ht : S.P.underlying t = some (.slice e)) (hi : S.P.info? e = some inf) (hz : inf.zero = some z) (hsize : inf.size = size) (hby : inf.bytes = bytes) (hzs : z.cells.size = size) (hsz : 0 < size) (h63 : n ≤ 1000000) (hbb : bytes ≤ 1000) (hone : ∀ u ∈ news, u.oneCell' = true)
    (rest : RSeq S Fin l (i + 1) (TAny :: τs)) : RSeq S Fin (o :: l) i τs := by
  intro _
  refine ⟨TAny, stb_any _, fun k ov ρ w hk hI hov hK => ?_, rest⟩
  obtain rfl := hov (by rw [hd]; exact ancB_self _ _ _)
  rw [ho] at hK
  have h1 := hK.1
  have h2 := hK.2.1
  rw [hx] at h1
  rw [hy] at h2
  simp only [hTx] at h1
  simp only [hTy] at h2
  have h1' : ρ (.tmp x) = v := h1
  have h2' : Row w size (ρ (.tmp y)) 1 news := h2.1
  have hown : w.ownsRow B e size v n cs := by have := hI.2.2; rw [hJ] at this; exact this
  obtain ⟨v', w', hrun, hown', hgr, _⟩ := run_append_row_at (P := S.P) w B t o.type e inf z size bytes ht hi hz hsize hby hzs hsz v n cs hown _ 1 news h2' hone (by unfold maxLen; omega) (Nat.le_trans (Nat.mul_le_mul (show n + 1 ≤ 1000001 by omega) hbb) (by decide)) (Nat.le_trans hB hI.2.1.size)
  have hre : (execOp ρ o).run S.P w = .ok (.value v') w' := by
    unfold execOp
    simp only [ho, resolve, invoke, builtin, Sem.run_bind, Sem.run_pure, Result.andThen_ok, List.map_toArray, List.map_cons, List.map_nil, h1', hrun]
  unfold Good
  rw [hre]
  have hon : Only S.E w w' := Only.grown hgr hE
  refine ⟨trivial, ⟨?_, hI.2.1.trans hon, ?_⟩, hon⟩
  · rw [hrd]; trivial
  · rw [if_pos hd, hJ]
    exact hown'
end
end Go.Proofs.Ytkkkjbinfdohpaa

namespace Go.Proofs.Ytkkkjbinfdohpaa
open Go.RowKit
section
variable {S : RS} {Fin : List Ty → Prop} {o : Oper} {l : List Oper} {i : Nat} {τs : List Ty}
/-- A step that leaves the world alone and whose value the simplifier finds. -/
theorem rs_eq (hO : S.Ok) (hid : i ≠ S.d ∨ ∀ ov w, S.J ov w) {c : Value}
    (h : ∀ ρ w, Only S.E S.w0 w → Known S.ops (tys τs) S.a0 ρ w i o.op.operands.toList → (execOp ρ o).run S.P w = .ok (.value c) w)
    (rest : RSeq S Fin l (i + 1) (TEq c :: τs)) : RSeq S Fin (o :: l) i τs :=
  rs_look hO hid (TEq c) (stb_eq _ _) (fun ρ w ho hK => ⟨c, h ρ w ho hK, rfl⟩) rest
end
end Go.Proofs.Ytkkkjbinfdohpaa

namespace Go.Proofs.Ytkkkjbinfdohpaa
open Go.RowKit
/-! Drawn regions whose last operation comes behind all the others. -/
section
variable {P : Program} {ops : Array Oper}
/-- The values of the first operations. -/
theorem putSome_is (hB : rgB ops = true) {a0 : Act} {f : Nat → Value} : ∀ (l : List Oper) (k : Nat) (a : Act), (ops.toList.drop k).take l.length = l → Is ops a0 (fun j => decide (j < k)) f a → Is ops a0 (fun j => decide (j < k + l.length)) f (putAll l f k a)
  | [], k, a, _, h => h
  | o :: l, k, a, hl, h => by
    have hk : k < ops.toList.length := by
      rcases Nat.lt_or_ge k ops.toList.length with h' | h'
      · exact h'
      · rw [List.drop_eq_nil_of_le h'] at hl; simp at hl
    rw [List.drop_eq_getElem_cons hk, List.length_cons, List.take_succ_cons] at hl
    injection hl with h1 h2
    have ho : ops[k]? = some o := by
      rw [← h1, ← Array.getElem?_toList, List.getElem?_eq_getElem hk]
    have hs := h.step hB ho (by simp) (f k)
    have e1 : (fun j => if j = k then true else decide (j < k)) = fun j => decide (j < k + 1) := by
      funext j
      by_cases e : j = k
      · subst e; simp
      · simp [e]; omega
    have e2 : (fun j => if j = k then f k else f j) = f := by
      funext j
      by_cases e : j = k <;> simp [e]
    rw [e1, e2] at hs
    have := putSome_is hB l (k + 1) _ h2 hs
    rw [List.length_cons, show k + (l.length + 1) = k + 1 + l.length from by omega]
    exact this
theorem ready_nil {listed : Array Bool} (hsz : listed.size = ops.size) (hall : ∀ i, i < ops.size → listed.getD i false = true) : Region.ready .any ops listed = [] := by
  refine List.eq_nil_iff_forall_not_mem.2 fun i hi => ?_
  obtain ⟨h1, o, ho, _⟩ := mem_ready.1 hi
  have hlt := (Array.getElem?_eq_some_iff.1 ho).1
  have h2 := hall i hlt
  have hil : i < listed.size := by omega
  have h3 : listed.getD i false = false := by simpa [Array.getD, hil] using h1
  rw [h2] at h3
  cases h3
theorem wpAny_done {Q : Exit → Act → World → Prop} {listed : Array Bool} {a : Act} {w : World} (h : Region.ready .any ops listed = []) (hq : Q .normal a w) : ∀ fuel, wpAny P .any ops Q fuel listed a w
  | 0 => ⟨h, hq⟩
  | fuel + 1 => ⟨fun _ => hq, fun i hi => by rw [h] at hi; cases hi⟩
theorem rg_last {Q : Exit → Act → World → Prop} {τ : Nat → World → Value → Prop} {d m : Nat} {I : Nat → Option Value → World → Prop} {G : World → World → Prop} {a0 : Act} {om : Oper} (hB : rgB ops = true) (hS : (ops.all fun o => match o.dst with | some t => decide (t < a0.tmps.size) | none => true) = true)
    (hm : ops.size = m + 1) (hom : ops[m]? = some om) (hlast : ∀ j, j < m → ancB ops 16 j m = true)
    (hG : ∀ i v w w', τ i w v → G w w' → τ i w' v)
    (hstep : ∀ i o, i < m → ops[i]? = some o → ∀ k ov ρ w, k < ops.size → I k ov w → (ancB ops 8 i d = true → ov = none) → Known ops τ a0 ρ w i o.op.operands.toList → Good P o ρ w fun v w' => τ i w' v ∧ I (k + 1) (if i = d then some v else ov) w' ∧ G w w')
    (hd : d < m) (hend : ∀ f w' k, k ≤ ops.size → I k (some (f d)) w' → (∀ i, i < m → τ i w' (f i)) → Copies ops (fun j => decide (j < m)) f → om.wp P (putAll (ops.toList.take m) f 0 a0) w' (fun a w => Q .normal a w) Q ∨ (om.asks P (putAll (ops.toList.take m) f 0 a0) w' ∧ LetsOut Q)) :
    ∀ (fuel : Nat) (listed : Array Bool) (a : Act) (w : World) (k : Nat), k + fuel = ops.size → listed.size = ops.size → open_ ops listed ≤ fuel → listed.getD m false = false → Inv ops τ d (I k) a0 (fun i => listed.getD i false) a w → wpAny P .any ops Q fuel listed a w := by
  have ready_m : ∀ (listed : Array Bool) (L : Shut ops (fun i => listed.getD i false)), listed.size = ops.size → (∀ i, i < m → listed.getD i false = true) → listed.getD m false = false → m ∈ Region.ready .any ops listed := by
    intro listed L hsz hall hmf
    have hil : m < listed.size := by omega
    refine mem_ready.2 ⟨by simpa [Array.getD, hil] using hmf, om, hom, fun e he hbn => hall e.on ((rgB_ok hB hom).back e he hbn)⟩
  intro fuel
  induction fuel with
  | zero =>
    intro listed a w k hk hsz hc hmf h
    exfalso
    have hpos : 0 < open_ ops listed := List.countP_pos_iff.2 ⟨m, List.mem_range.2 (by omega), by simp [hmf]⟩
    omega
  | succ fuel ih =>
    intro listed a w k hk0 hsz hc hmf h
    have hnil : Region.ready .any ops listed = [] → False := by
      intro hr
      have hall : ∀ i, i < m → listed.getD i false = true := by
        intro i
        induction i using Nat.strongRecOn with
        | _ i ihi =>
          intro hi
          rcases hb : listed.getD i false with _ | _
          · exfalso
            have hi' : i < ops.size := by omega
            have hmm : i ∈ Region.ready .any ops listed := mem_ready.2 ⟨by
              have : i < listed.size := by omega
              simpa [Array.getD, this] using hb, ops[i], Array.getElem?_eq_getElem hi', fun e he hbn => ihi e.on ((rgB_ok hB (Array.getElem?_eq_getElem hi')).back e he hbn) (by
                have := (rgB_ok hB (Array.getElem?_eq_getElem hi')).back e he hbn
                omega)⟩
            rw [hr] at hmm
            cases hmm
          · rfl
      have := ready_m listed h.shut hsz hall hmf
      rw [hr] at this
      cases this
    refine ⟨fun hr => (hnil hr).elim, fun i hi => ?_⟩
    obtain ⟨h1, o, ho, hr⟩ := mem_ready.1 hi
    have hlt := (Array.getElem?_eq_some_iff.1 ho).1
    have hil : i < listed.size := by omega
    have h1' : listed.getD i false = false := by simpa [Array.getD, hil] using h1
    have eL : (fun j => (listed.setIfInBounds i true).getD j false) = fun j => if j = i then true else listed.getD j false := by
      funext j
      by_cases e : j = i
      · subst e; simp [hil]
      · simp only [e, if_false]
        exact getD_set_ne false (fun h => e h.symm)
    unfold wpOp
    simp only [ho]
    rw [if_pos (by simp [Region.wanted, (rgB_ok hB ho).guard])]
    by_cases him : i = m
    · subst him
      obtain rfl := Option.some.inj (ho.symm.trans hom)
      obtain ⟨hC, f, hf, hI, hτ, hcp⟩ := h
      have hall : ∀ j, j < i → listed.getD j false = true := by
        intro j hj
        have hj2 := hlast j hj
        rw [show (16 : Nat) = 15 + 1 from rfl, ancB, Bool.or_eq_true] at hj2
        rcases hj2 with hj2 | hj2
        · exact absurd (by simpa using hj2) (Nat.ne_of_lt hj)
        · simp only [ho, Option.map_some, Option.getD_some, Array.any_eq_true] at hj2
          obtain ⟨q, hq, hj2⟩ := hj2
          rw [Bool.and_eq_true] at hj2
          exact ancB_shut hC 15 j _ hj2.2 (hr _ (Array.getElem_mem hq) hj2.1)
      have hI : I k (some (f d)) w := by simpa [hall d hd] using hI
      have eLt : ∀ j, j < ops.size → (listed.getD j false = true ↔ j < i) := by
        intro j hj
        constructor
        · intro hl
          rcases Nat.lt_or_ge j i with h5 | h5
          · exact h5
          · have : j = i := by omega
            subst this
            rw [h1'] at hl; cases hl
        · exact hall j
      have e1 : Is ops a0 (fun j => decide (j < i)) f a := ⟨hf.defers, hf.size, fun j p t hj hp hd2 hl => hf.mine j p t (hall j (by simpa using hj)) hp hd2 hl,
        fun t ht => hf.old t fun j p hj hp => ht j p (by
          have hjs := (Array.getElem?_eq_some_iff.1 hp).1
          simpa using (eLt j hjs).1 hj) hp⟩
      have e0 : Is ops a0 (fun j => decide (j < 0)) f a0 := ⟨rfl, rfl, fun _ _ _ h => by simp at h, fun _ _ => rfl⟩
      have hlen : (ops.toList.take i).length = i := by simp; omega
      have e2 := putSome_is hB (ops.toList.take i) 0 a0 (by rw [hlen]; rfl) e0
      rw [hlen, Nat.zero_add] at e2
      rw [e1.same e2]
      refine (hend f w k (by omega) hI (fun j hj => (hτ j (hall j hj)).2) fun j p t q hj hp ha hw => ?_).imp (Oper.wp_mono fun a' w' hq => ?_) id
      rotate_left
      · refine wpAny_done (ready_nil (by simpa using hsz) fun j hj => ?_) hq fuel
        have : (listed.setIfInBounds i true).getD j false = if j = i then true else listed.getD j false := congrFun eL j
        rw [this]
        by_cases e : j = i
        · simp [e]
        · simp only [e, if_false]
          exact hall j (by omega)
      · have hj' : j < i := by simpa using hj
        obtain ⟨h5, h6⟩ := hcp j p t q (hall j hj') hp ha hw
        exact ⟨by simpa using (eLt q (hτ q h5).1).1 h5, h6⟩
    have hltm : i < m := by omega
    have hk := h.known hB hS ho h1' hr
    have hcopy : ∀ (f : Nat → Value), Is ops a0 (fun i => listed.getD i false) f a → ∀ t j, o.op = .assign (.tmp t) → writer ops i t = some j → listed.getD j false = true ∧ a.eval (.tmp t) = f j := fun f hf t j ha hw => h.copy hB hS ho h1' hr hf ha hw
    obtain ⟨hC, f, hf, hI, hτ, hcp⟩ := h
    have hg := hstep i o hltm ho k _ a.eval w (by omega) hI (fun e => if_neg (fun hdl => by have := ancB_shut hC 8 i d e hdl; rw [h1'] at this; cases this)) hk
    refine .inl (Good.wp hg.assign fun v w' ⟨⟨hv, hI', hgw⟩, hva⟩ => ?_)
    refine ih _ _ _ (k + 1) (by omega) (by simpa using hsz) ?_ ?_ ?_
    · have : open_ ops (listed.setIfInBounds i true) < open_ ops listed := by
        refine countP_lt (fun x _ hx => ?_) ⟨i, List.mem_range.2 hlt, by simpa using h1', ?_⟩
        · have : (listed.setIfInBounds i true).getD x false = if x = i then true else listed.getD x false := congrFun eL x
          rw [this] at hx
          by_cases e : x = i
          · simp [e] at hx
          · simpa [e] using hx
        · have : (listed.setIfInBounds i true).getD i false = if i = i then true else listed.getD i false := congrFun eL i
          rw [this]
          simp
      omega
    · have : (listed.setIfInBounds i true).getD m false = if m = i then true else listed.getD m false := congrFun eL m
      rw [this, if_neg (fun e => him e.symm)]
      exact hmf
    · rw [eL]
      refine ⟨fun j p hj hp e he hb => ?_, _, hf.step hB ho h1' v, ?_, fun j hj => ?_, fun j p t q hj hp ha hw => ?_⟩
      · by_cases ej : j = i
        · subst ej
          obtain rfl := Option.some.inj (ho.symm.trans hp)
          have := hr e he hb
          by_cases ee : e.on = j <;> simp [ee, this]
        · simp only [ej, if_false] at hj
          have := hC j p hj hp e he hb
          by_cases ee : e.on = i <;> simp [ee, this]
      · by_cases ed : i = d
        · subst ed
          simpa using hI'
        · simpa [ed, show ¬ d = i from fun h => ed h.symm] using hI'
      · by_cases ej : j = i
        · subst ej
          exact ⟨hlt, by simpa using hv⟩
        · simp only [ej, if_false] at hj ⊢
          exact ⟨(hτ j hj).1, hG j _ _ _ (hτ j hj).2 hgw⟩
      · have hqj : q < j := List.mem_range.1 (List.mem_of_find?_eq_some hw)
        by_cases ej : j = i
        · subst ej
          obtain rfl := Option.some.inj (ho.symm.trans hp)
          obtain ⟨h5, h6⟩ := hcopy f hf t q ha hw
          have hne : q ≠ j := by omega
          exact ⟨by simp only [hne, if_false]; exact h5, by simp only [hne, if_false, if_true]; rw [hva _ ha, h6]⟩
        · simp only [ej, if_false] at hj ⊢
          obtain ⟨h5, h6⟩ := hcp j p t q hj hp ha hw
          have h5' : listed.getD q false = true := h5
          have hne : q ≠ i := fun e => by rw [e, h1'] at h5'; cases h5'
          simp only [hne, if_false]
          exact ⟨h5, h6⟩
end
theorem rseq_types_l {S : RS} {Fin : List Ty → Prop} : ∀ (l : List Oper) (τs : List Ty), (S.ops.toList.drop τs.length).take l.length = l → (∀ T ∈ τs, Stb S.E T) → RSeq S Fin l τs.length τs →
    ∃ τ : List Ty, (∀ j, j < τs.length → tys τ j = tys τs j) ∧ (∀ T ∈ τ, Stb S.E T) ∧ Fin τ ∧ ∀ i o, τs.length ≤ i → i < τs.length + l.length → S.ops[i]? = some o → ∀ k ov ρ w, k < S.ops.size → S.I k ov w → (ancB S.ops 8 i S.d = true → ov = none) → Known S.ops (tys τ) S.a0 ρ w i o.op.operands.toList → Good S.P o ρ w fun v w' => tys τ i w' v ∧ S.I (k + 1) (if i = S.d then some v else ov) w' ∧ Only S.E w w'
  | [], τs, _, hst, h => ⟨τs, fun _ _ => rfl, hst, h, fun i o hi hi2 ho => by simp at hi2; omega⟩
  | o :: l, τs, hl, hst, h => by
    obtain ⟨T, hT, hg, hr⟩ := h hst
    have hst' : ∀ T' ∈ T :: τs, Stb S.E T' := by
      intro T' hT'
      rcases List.mem_cons.1 hT' with h1 | h1
      · rw [h1]; exact hT
      · exact hst T' h1
    have hk : τs.length < S.ops.toList.length := by
      rcases Nat.lt_or_ge τs.length S.ops.toList.length with h' | h'
      · exact h'
      · rw [List.drop_eq_nil_of_le h'] at hl; simp at hl
    rw [List.drop_eq_getElem_cons hk, List.length_cons, List.take_succ_cons] at hl
    injection hl with hl1 hl2
    obtain ⟨τ, h2, h3, h4, h5⟩ := rseq_types_l l (T :: τs) (by rw [List.length_cons]; exact hl2) hst' (by rw [List.length_cons]; exact hr)
    rw [List.length_cons] at h2 h5
    have hget : ∀ j, j < τs.length → tys τ j = tys τs j := fun j hj => (h2 j (by omega)).trans (tys_old T τs hj)
    have hgetT : tys τ τs.length = T := (h2 _ (by omega)).trans (tys_new T τs)
    refine ⟨τ, hget, h3, h4, fun i o' hi hi2 ho => ?_⟩
    rw [List.length_cons] at hi2
    rcases Nat.lt_or_ge τs.length i with hlt | hge
    · exact h5 i o' hlt (by omega) ho
    · obtain rfl : i = τs.length := by omega
      have : o' = o := by
        have e : S.ops[τs.length]? = some o := by
          rw [← hl1, ← Array.getElem?_toList, List.getElem?_eq_getElem hk]
        exact Option.some.inj (ho.symm.trans e)
      subst this
      intro k ov ρ w hk hI hd hK
      rw [hgetT]
      exact hg k ov ρ w hk hI hd (known_mono (fun j w v hj h => by rw [← hget j hj]; exact h) _ hK)
/-- THE RULE: the last operation is taken by itself, behind all the others. -/
theorem wp_region_rsl {id : Nat} {Q : Exit → Act → World → Prop} (S : RS) (hO : S.Ok) (hm : S.P.follows .mixedOrders = true) (hB : rgB S.ops = true) (hS : (S.ops.all fun o => match o.dst with | some t => decide (t < S.a0.tmps.size) | none => true) = true)
    (m : Nat) (om : Oper) (hsz : S.ops.size = m + 1) (hom : S.ops[m]? = some om) (hlast : (List.range m).all (fun j => ancB S.ops 16 j m) = true) (hd : S.d < m)
    (hr : RdO S.rd 0 S.w0) (hJ : S.J none S.w0)
    (h : RSeq S (fun τ => ∀ f w' k, k ≤ S.ops.size → S.I k (some (f S.d)) w' → (∀ i, i < m → tys τ i w' (f i)) → Copies S.ops (fun j => decide (j < m)) f → wpList S.P S.ops Q [om] (putAll (S.ops.toList.take m) f 0 S.a0) w') (S.ops.toList.take m) 0 []) : (Code.region id S.ops true).wp S.P Q S.a0 S.w0 := by
  have hlen : (S.ops.toList.take m).length = m := by simp; omega
  obtain ⟨τ, _, h3, h4, h5⟩ := rseq_types_l (S.ops.toList.take m) [] (by rw [hlen]; rfl) (by simp) h
  have hg : om.guard = none := (rgB_ok hB hom).guard
  refine wp_region_any hm (rg_last (τ := tys τ) (d := S.d) (m := m) (I := S.I) (G := Only S.E) (a0 := S.a0) (om := om) hB hS hsz hom (fun j hj => List.all_eq_true.1 hlast j (List.mem_range.2 hj)) (fun i v w w' ht hg => tys_stb h3 i v w w' ht hg) (fun i o hi ho => h5 i o (Nat.zero_le _) (by rw [hlen]; simpa using hi) ho) hd (fun f w' k hk hI ht hc => ?_) S.ops.size (Array.replicate S.ops.size false) S.a0 _ 0 (by omega) (by simp) ?_ ?_ ?_)
  · have := h4 f w' k hk hI ht hc
    unfold wpList at this
    rw [if_pos (by simp [Region.wanted, hg])] at this
    exact this
  · unfold open_
    exact Nat.le_trans List.countP_le_length (by simp)
  · by_cases h : m < S.ops.size <;> simp [Array.getD, h]
  · have e : (fun i => (Array.replicate S.ops.size false).getD i false) = fun _ => false := by
      funext i
      by_cases h : i < S.ops.size <;> simp [Array.getD, h]
    rw [e]
    refine ⟨(fun j o hj => (by cases hj)), ⟨fun _ => undef, Is.start S.a0 _, ⟨?_, Only.drew _ _, hO.keep _ _ _ hJ (Only.drew _ _)⟩, (fun i hi => (by cases hi)), (fun i o t j hi => (by cases hi))⟩⟩
    cases hrd : S.rd with
    | none => trivial
    | some x =>
      rw [hrd] at hr
      exact Rd.drew1 hr
end Go.Proofs.Ytkkkjbinfdohpaa

namespace Go.Proofs.Ytkkkjbinfdohpaa
open Go.RowKit
/-- The numbers from k on, as cells. -/
def runI (k m : Nat) : List Value := (List.range m).map fun i => Value.int .i64 ((k + i : Nat) : Int)
theorem runI_length (k m : Nat) : (runI k m).length = m := by simp [runI]
theorem runI_get {k m i : Nat} (h : i < m) : (runI k m)[i]? = some (.int .i64 ((k + i : Nat) : Int)) := by simp [runI, h]
theorem runI_take {k m j : Nat} (h : j ≤ m) : (runI k m).take j = runI k j := by
  unfold runI
  rw [← List.map_take, List.take_range, Nat.min_eq_left h]
theorem set_run {cs : List Value} {k m j : Nat} (hl : cs.length = m) (hj : j < m) (h : cs.take j = runI k j) : (cs.set j (.int .i64 ((k + j : Nat) : Int))).take (j + 1) = runI k (j + 1) := by
  rw [← runI_take (m := m) (show j + 1 ≤ m by omega)]
  exact take_set_succ (by omega) (by rw [h, runI_take (by omega)]) (runI_get hj)
theorem set_run_at {cs : List Value} {k m j : Nat} {x : Int} (hx : x = ((k + j : Nat) : Int)) (hl : cs.length = m) (hj : j < m) (h : cs.take j = runI k j) : (cs.set j (.int .i64 x)).take (j + 1) = runI k (j + 1) := by
  subst hx
  exact set_run hl hj h
theorem grownBy_comp {a b c : World} {r : Option Nat} (h : a.grownBy b r) (h' : b.grownBy c r) : a.grownBy c r :=
  ⟨h'.os.trans h.os, h'.tape.trans h.tape, h'.output.trans h.output, Nat.le_trans h.size h'.size,
    fun k hk hr => (h'.block k (Nat.lt_of_lt_of_le hk h.size) hr).trans (h.block k hk hr)⟩
theorem own_of_take {w : World} {B n size : Nat} {e : TypeId} {v : Value} {cs : List Value} {k : Nat} (h : w.ownsRow B e size v n cs) (ht : cs.take (n * size) = runI k (n * size)) : w.ownsRow B e size v n (runI k (n * size)) := by
  rw [← ht, List.take_of_length_le (by rw [h.1]; exact Nat.le_refl _)]
  exact h
end Go.Proofs.Ytkkkjbinfdohpaa

namespace Go.Proofs.Ytkkkjbinfdohpaa
open Go.RowKit
/-! Drawn regions with draws and one append of a drawn value. -/
def JV (T B : Nat) (e : TypeId) (v : Value) (n : Nat) (cs : List Value) (G : Value → Prop) : Option Value → World → Prop
  | none, w => w.ownsRow B e 1 v n cs
  | some v', w => (∃ u, G u ∧ w.ownsRow B e 1 v' (n + 1) (cs ++ [u])) ∧ ∀ g, v'.ownBlock = some g → v.ownBlock = some g ∨ T ≤ g
@[reducible] def rdRS (Pg : Program) (ops : Array Oper) (R P : Nat) (w : World) (a : Act) (B : Nat) (e : TypeId) (v : Value) (n : Nat) (cs : List Value) (G : Value → Prop) (d : Nat) : RS :=
  { P := Pg, ops := ops, E := fun g => g = R ∨ v.ownBlock = some g, F := (· = R), rd := some (R, P), w0 := w, J := JV w.heap.size B e v n cs G, d := d, a0 := a }
theorem rdRS_ok {Pg : Program} {ops : Array Oper} {R P : Nat} {w : World} {a : Act} {B : Nat} {e : TypeId} {v : Value} {n : Nat} {cs : List Value} {G : Value → Prop} {d : Nat} (h : R < w.heap.size) (hB : R < B) (hown : w.ownsRow B e 1 v n cs) : (rdRS Pg ops R P w a B e v n cs G d).Ok :=
  ⟨fun _ h => .inl h, fun ov w1 w2 hj ho => by
    have hg : w1.grownBy w2 (some R) := ho.grownBy
    cases ov with
    | none =>
      have hj' : w1.ownsRow B e 1 v n cs := hj
      exact own_kept hj' hg fun g hv e => by have h1 := (hj'.lt g hv).1; have h2 := Option.some.inj e; omega
    | some v' =>
      obtain ⟨⟨x, hx, hj'⟩, hp⟩ := hj
      exact ⟨⟨x, hx, own_kept hj' hg fun g hv e => by have h1 := (hj'.lt g hv).1; have h2 := Option.some.inj e; omega⟩, hp⟩,
    fun _ _ e => by cases e; exact ⟨rfl, h⟩, fun g hg => by
      rcases hg with rfl | hg
      · exact h
      · exact (hown.lt g hg).2⟩
section
variable {S : RS} {Fin : List Ty → Prop} {o : Oper} {l : List Oper} {i : Nat} {τs : List Ty}
/-- The append. -/
theorem rs_appendV (hd : i = S.d) (B : Nat) (e t : TypeId) (v : Value) (n : Nat) (cs : List Value) (G : Value → Prop) (hJ : S.J = JV S.w0.heap.size B e v n cs G) (R P : Nat) (hrd : S.rd = some (R, P)) (hE : ∀ g, v.ownBlock = some g → S.E g) (hRB : R < B) (hB : B ≤ S.w0.heap.size)
    (x y : Nat) (ho : o.op = .call { callee := .builtin .append, args := #[.tmp x, .tmp y], argTypes := #[t, t] }) (jx jy : Nat) (hx : writer S.ops i x = some jx) (hy : writer S.ops i y = some jy) (hTx : tys τs jx = TEq v) (hTy : tys τs jy = TLit S.E 1 G)
    (inf : TypeInfo) (z : Value) (bytes : Nat) (ht : S.P.underlying t = some (.slice e)) (hi : S.P.info? e = some inf) (hz : inf.zero = some z) (hsize : inf.size = 1) (hby : inf.bytes = bytes) (hzs : z.cells.size = 1) (h63 : n ≤ 1000000) (hbb : bytes ≤ 1000) (hone : ∀ u, G u → u.oneCell' = true)
    (rest : RSeq S Fin l (i + 1) (TAny :: τs)) : RSeq S Fin (o :: l) i τs := by
  intro _
  refine ⟨TAny, stb_any _, fun k ov ρ w hk hI hov hK => ?_, rest⟩
  obtain rfl := hov (by rw [hd]; exact ancB_self _ _ _)
  rw [ho] at hK
  have h1 := hK.1
  have h2 := hK.2.1
  rw [hx] at h1
  rw [hy] at h2
  simp only [hTx] at h1
  simp only [hTy] at h2
  have h1' : ρ (.tmp x) = v := h1
  obtain ⟨g, hv, hg, hl, hc⟩ := h2
  obtain ⟨q, hq0, hG⟩ := hc 0 (by omega)
  have hown : w.ownsRow B e 1 v n cs := by have := hI.2.2; rw [hJ] at this; exact this
  have hr : Row w 1 (.slice (some ⟨g, 0, none⟩) 1 1) 1 [q] := ⟨rfl, _, 1, rfl, Nat.le_refl _, by unfold maxLen; omega, fun _ => ⟨g, 0, rfl, hl, fun j u hu => by
    match j, hu with
    | 0, hu => have := Option.some.inj hu; subst this; exact hq0
    | j + 1, hu => simp at hu⟩⟩
  obtain ⟨v', w', hrun, hown', hgr, hat⟩ := run_append_row_at (P := S.P) w B t o.type e inf z 1 bytes ht hi hz hsize hby hzs (by decide) v n cs hown _ 1 [q] hr (by intro u hu; rw [List.mem_singleton.1 hu]; exact hone q hG) (by unfold maxLen; omega) (Nat.le_trans (Nat.mul_le_mul (show n + 1 ≤ 1000001 by omega) hbb) (by decide)) (Nat.le_trans hB hI.2.1.size)
  have hre : (execOp ρ o).run S.P w = .ok (.value v') w' := by
    unfold execOp
    simp only [ho, resolve, invoke, builtin, Sem.run_bind, Sem.run_pure, Result.andThen_ok, List.map_toArray, List.map_cons, List.map_nil, h1', hv, hrun]
  unfold Good
  rw [hre]
  have hon : Only S.E w w' := Only.grown hgr hE
  refine ⟨trivial, ⟨?_, hI.2.1.trans hon, ?_⟩, hon⟩
  · have hr' := hI.1
    rw [hrd] at hr' ⊢
    have hr'' : Rd w R (P + 40 * k) := hr'
    exact (hr''.grown hgr fun q hq => by have := (hown.lt q hq).1; omega).more (by omega)
  · rw [if_pos hd, hJ]
    refine ⟨⟨q, hG, hown'⟩, fun g hg => ?_⟩
    rcases hat with h | h
    · exact .inl (h.symm.trans hg)
    · have := Option.some.inj (h.symm.trans hg)
      have h5 := hI.2.1.size
      exact .inr (by omega)
end
end Go.Proofs.Ytkkkjbinfdohpaa

namespace Go.Proofs.Ytkkkjbinfdohpaa
/-! Circuits, plainly. -/
/-- A circuit whose numbers are natural. -/
structure Ci where
  ins : Nat
  next : List Nat
  gates : List (Nat × Nat)
  outs : List Nat
/-- A circuit as it lies in memory. -/
structure Cz where
  ins : Int
  next : List Int
  gates : List (Int × Int)
  outs : List Int
namespace Cir
def isLit (l v : Int) : Bool := decide (0 ≤ l ∧ l < 2 * v)
/-- Every gate from place k on refers to variables before its own. -/
def gatesOk (first : Int) : Nat → List (Int × Int) → Bool
  | _, [] => true
  | k, g :: gs => isLit g.1 (first + k) && isLit g.2 (first + k) && gatesOk first (k + 1) gs
def first (c : Cz) : Int := 1 + c.ins + c.next.length
def vars (c : Cz) : Int := first c + c.gates.length
def sizes (c : Cz) : Bool := decide (0 ≤ c.ins ∧ c.ins ≤ 4 ∧ c.next.length ≤ 3 ∧ c.gates.length ≤ 14 ∧ c.outs.length ≤ 3)
def valid (c : Cz) : Bool := sizes c && gatesOk (first c) 0 c.gates && (c.next ++ c.outs).all (isLit · (vars c))
def toCz (c : Ci) : Cz := { ins := c.ins, next := c.next.map Int.ofNat, gates := c.gates.map fun g => ((g.1 : Int), (g.2 : Int)), outs := c.outs.map Int.ofNat }
def nfirst (c : Ci) : Nat := 1 + c.ins + c.next.length
def nvars (c : Ci) : Nat := nfirst c + c.gates.length
/-- The circuits that are valid. -/
structure Ok (c : Ci) : Prop where
  ins : c.ins ≤ 4
  nexts : c.next.length ≤ 3
  gatess : c.gates.length ≤ 14
  outss : c.outs.length ≤ 3
  gate : ∀ (k : Nat) (g : Nat × Nat), c.gates[k]? = some g → g.1 < 2 * (nfirst c + k) ∧ g.2 < 2 * (nfirst c + k)
  next : ∀ l ∈ c.next, l < 2 * nvars c
  out : ∀ l ∈ c.outs, l < 2 * nvars c
theorem gatesOk_get {f : Int} : ∀ {gs : List (Int × Int)} {k : Nat}, gatesOk f k gs = true → ∀ (i : Nat) (g : Int × Int), gs[i]? = some g → isLit g.1 (f + (k + i : Nat)) = true ∧ isLit g.2 (f + (k + i : Nat)) = true
  | [], _, _, i, g, hg => by simp at hg
  | a :: gs, k, h, i, g, hg => by
    rw [gatesOk, Bool.and_eq_true, Bool.and_eq_true] at h
    cases i with
    | zero =>
      have : a = g := by simpa using hg
      subst this
      exact h.1
    | succ i =>
      have := gatesOk_get h.2 i g (by simpa using hg)
      rw [show k + (i + 1) = k + 1 + i from by omega]
      exact this
theorem gatesOk_drop {f : Int} {gs : List (Int × Int)} {k : Nat} {g : Int × Int} (h : gs[k]? = some g) : gatesOk f k (gs.drop k) = (isLit g.1 (f + k) && isLit g.2 (f + k) && gatesOk f (k + 1) (gs.drop (k + 1))) := by
  obtain ⟨hk, rfl⟩ := List.getElem?_eq_some_iff.1 h
  rw [List.drop_eq_getElem_cons hk, gatesOk]
theorem nat_list : ∀ {l : List Int}, (∀ x ∈ l, 0 ≤ x) → ∃ m : List Nat, l = m.map Int.ofNat
  | [], _ => ⟨[], rfl⟩
  | x :: l, h => by
    obtain ⟨m, rfl⟩ := nat_list fun y hy => h y (List.mem_cons_of_mem _ hy)
    obtain ⟨n, rfl⟩ := Int.eq_ofNat_of_zero_le (h x (by simp))
    exact ⟨n :: m, rfl⟩
theorem nat_pairs : ∀ {l : List (Int × Int)}, (∀ x ∈ l, 0 ≤ x.1 ∧ 0 ≤ x.2) → ∃ m : List (Nat × Nat), l = m.map fun g => ((g.1 : Int), (g.2 : Int))
  | [], _ => ⟨[], rfl⟩
  | (a, b) :: l, h => by
    obtain ⟨m, rfl⟩ := nat_pairs fun y hy => h y (List.mem_cons_of_mem _ hy)
    have := h (a, b) (by simp)
    obtain ⟨n, rfl⟩ := Int.eq_ofNat_of_zero_le this.1
    obtain ⟨n', rfl⟩ := Int.eq_ofNat_of_zero_le this.2
    exact ⟨(n, n') :: m, rfl⟩
/-- A valid circuit is one of natural numbers. -/
theorem valid_nat {c : Cz} (h : valid c = true) : ∃ d : Ci, c = toCz d ∧ Ok d := by
  unfold valid at h
  rw [Bool.and_eq_true, Bool.and_eq_true] at h
  obtain ⟨⟨h1, h2⟩, h3⟩ := h
  unfold sizes at h1
  rw [decide_eq_true_eq] at h1
  obtain ⟨h4, h5, h6, h7, h8⟩ := h1
  have hall : ∀ l ∈ c.next ++ c.outs, 0 ≤ l ∧ l < 2 * vars c := fun l hl => by
    have := List.all_eq_true.1 h3 l hl
    unfold isLit at this
    simpa using this
  obtain ⟨i, hi⟩ := Int.eq_ofNat_of_zero_le h4
  obtain ⟨n, hn⟩ := nat_list (l := c.next) fun x hx => (hall x (by simp [hx])).1
  obtain ⟨o, ho⟩ := nat_list (l := c.outs) fun x hx => (hall x (by simp [hx])).1
  have hg : ∀ (k : Nat) (g : Int × Int), c.gates[k]? = some g → (0 ≤ g.1 ∧ g.1 < 2 * (first c + k)) ∧ 0 ≤ g.2 ∧ g.2 < 2 * (first c + k) := fun k g hk => by
    have := gatesOk_get h2 k g hk
    unfold isLit at this
    simpa using this
  obtain ⟨gs, hgs⟩ := nat_pairs (l := c.gates) fun x hx => by
    obtain ⟨k, hk, rfl⟩ := List.mem_iff_getElem.1 hx
    have := hg k _ (List.getElem?_eq_getElem hk)
    exact ⟨this.1.1, this.2.1⟩
  refine ⟨⟨i, n, gs, o⟩, ?_, ?_⟩
  · cases c
    simp only [toCz] at *
    subst hi hn ho hgs
    rfl
  · have e1 : first c = (nfirst ⟨i, n, gs, o⟩ : Nat) := by simp [first, nfirst, hi, hn]
    have e2 : vars c = (nvars ⟨i, n, gs, o⟩ : Nat) := by
      rw [vars, e1, nvars, hgs]; simp
    refine ⟨by simp only; omega, by have := congrArg List.length hn; simp at this; simp only; omega, by have := congrArg List.length hgs; simp at this; simp only; omega, by have := congrArg List.length ho; simp at this; simp only; omega, fun k g hk => ?_, fun l hl => ?_, fun l hl => ?_⟩
    · have := hg k ((g.1 : Int), (g.2 : Int)) (by rw [hgs, List.getElem?_map]; simp only at hk; rw [hk]; rfl)
      rw [e1] at this
      simp only at this
      omega
    · have := hall (l : Int) (by rw [hn]; exact List.mem_append_left _ (List.mem_map.2 ⟨l, hl, rfl⟩))
      rw [e2] at this
      omega
    · have := hall (l : Int) (by rw [ho]; exact List.mem_append_right _ (List.mem_map.2 ⟨l, hl, rfl⟩))
      rw [e2] at this
      omega
/-! ### Values -/
def lit (v : List Bool) (l : Nat) : Bool := v.getD (l / 2) false != (l % 2 == 1)
def gval (v : List Bool) (g : Nat × Nat) : Bool := lit v g.1 && lit v g.2
def evalG (gs : List (Nat × Nat)) (v : List Bool) : List Bool := gs.foldl (fun v g => v ++ [gval v g]) v
/-- The values of all variables. -/
def vals (c : Ci) (st inp : List Bool) : List Bool := evalG c.gates (false :: (inp ++ st))
def lits (v : List Bool) (ls : List Nat) : List Bool := ls.map (lit v)
theorem evalG_length : ∀ (gs : List (Nat × Nat)) (v : List Bool), (evalG gs v).length = v.length + gs.length
  | [], v => rfl
  | g :: gs, v => by
    rw [evalG, List.foldl_cons]
    have := evalG_length gs (v ++ [gval v g])
    rw [evalG] at this
    rw [this]
    simp
    omega
theorem evalG_take_snoc {gs : List (Nat × Nat)} {k : Nat} {g : Nat × Nat} (h : gs[k]? = some g) (v : List Bool) : evalG (gs.take (k + 1)) v = evalG (gs.take k) v ++ [gval (evalG (gs.take k) v) g] := by
  unfold evalG
  rw [List.take_add_one, h, List.foldl_append]
  rfl
theorem vals_length (c : Ci) {st inp : List Bool} (h1 : inp.length = c.ins) (h2 : st.length = c.next.length) : (vals c st inp).length = nvars c := by
  rw [vals, evalG_length]
  simp [nvars, nfirst, h1, h2]
  omega
/-- The lowest n bits. -/
def bits (x n : Nat) : List Bool := (List.range n).map fun i => x.testBit i
/-- The number of some bits, the lowest first. -/
def num : List Bool → Nat
  | [] => 0
  | b :: l => (if b then 1 else 0) + 2 * num l
theorem num_lt : ∀ l : List Bool, num l < 2 ^ l.length
  | [] => by simp [num]
  | b :: l => by
    have := num_lt l
    rw [num, List.length_cons, Nat.pow_succ]
    split <;> omega
def nextOf (c : Ci) (s x : Nat) : Nat := num (lits (vals c (bits s c.next.length) (bits x c.ins)) c.next)
def outsOf (c : Ci) (s x : Nat) : List Bool := lits (vals c (bits s c.next.length) (bits x c.ins)) c.outs
theorem nextOf_lt (c : Ci) (s x : Nat) : nextOf c s x < 2 ^ c.next.length := by
  have := num_lt (lits (vals c (bits s c.next.length) (bits x c.ins)) c.next)
  unfold nextOf
  simpa [lits] using this
end Cir
end Go.Proofs.Ytkkkjbinfdohpaa
