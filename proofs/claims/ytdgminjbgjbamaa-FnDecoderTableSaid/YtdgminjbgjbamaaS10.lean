import Derived.Test.YtdgminjbgjbamaaS01
import Derived.Test.YtdgminjbgjbamaaProg
import Derived.Test.YtdgminjbgjbamaaS02
import Derived.StillTailTactics
import Derived.Deep.RegionWith
import Derived.Deep.DeepCutAuto
set_option linter.unusedVariables false
set_option linter.unusedSimpArgs false
namespace Go.Proofs.Ytdgminjbgjbamaa
/-! Drawn regions with guards whose values are known (gl): a guarded operation is run, or it is skipped. -/
def look1 (gl : List (Nat × Bool)) (j : Nat) : Option Bool := gl.lookup j
/-- The operation as it runs: without its guard, or as a move of nothing. -/
def norm1 (gl : List (Nat × Bool)) (o : Oper) : Oper := match o with
  | ⟨d, op, ty, pos, aft, none⟩ => ⟨d, op, ty, pos, aft, none⟩
  | ⟨d, op, ty, pos, aft, some (j, b)⟩ => if look1 gl j = some b then ⟨d, op, ty, pos, aft, none⟩ else ⟨d, .move (.const undef), ty, pos, aft, none⟩
theorem norm1_dst (gl : List (Nat × Bool)) (o : Oper) : (norm1 gl o).dst = o.dst := by
  obtain ⟨d, op, ty, pos, aft, g⟩ := o
  cases g with
  | none => rfl
  | some p => obtain ⟨j, b⟩ := p; unfold norm1; simp only; split <;> rfl
def rgG (gl : List (Nat × Bool)) (ops : Array Oper) : Bool :=
  (List.range ops.size).all fun i => match ops[i]? with
    | none => true
    | some o => (match o.guard with | none => true | some (j, _) => decide (j < i) && ancB ops 4 j i && (look1 gl j).isSome && ((ops[j]?).bind (·.dst)).isSome) && o.after.all (fun e => !Region.binds .any e || decide (e.on < i)) &&
        (match o.op with | .select .. => false | .assign _ => o.guard.isNone | _ => true) &&
        (List.range i).all fun j => match ops[j]? with
          | none => true
          | some p => (p.dst.isNone || p.dst != o.dst) && (!clash p o || ancB ops 4 j i)
section
variable {P : Program} {ops : Array Oper} {gl : List (Nat × Bool)}
structure RgGOk (gl : List (Nat × Bool)) (ops : Array Oper) (i : Nat) (o : Oper) : Prop where
  guard : ∀ j b, o.guard = some (j, b) → j < i ∧ ancB ops 4 j i = true ∧ ∃ x p t, look1 gl j = some x ∧ ops[j]? = some p ∧ p.dst = some t
  back : ∀ e ∈ o.after, Region.binds .any e = true → e.on < i
  sel : ∀ cs b, o.op ≠ .select cs b
  asg : ∀ x, o.op = .assign x → o.guard = none
  one : ∀ j p, j < i → ops[j]? = some p → ∀ d, p.dst = some d → o.dst ≠ some d
  anc : ∀ j p, j < i → ops[j]? = some p → clash p o = true → ancB ops 4 j i = true
theorem rgG_ok (h : rgG gl ops = true) {i : Nat} {o : Oper} (ho : ops[i]? = some o) : RgGOk gl ops i o := by
  have hlt : i < ops.size := (Array.getElem?_eq_some_iff.1 ho).1
  have h1 := List.all_eq_true.1 h i (List.mem_range.2 hlt)
  simp only [ho, Bool.and_eq_true] at h1
  obtain ⟨⟨⟨h1, h2⟩, h3⟩, h4⟩ := h1
  refine ⟨fun j b hg => ?_, fun e he hb => ?_, fun cs b e => by simp [e] at h3, fun x e => by simpa [e] using h3, fun j p hj hp d hd e => ?_, fun j p hj hp hc => ?_⟩
  · rw [hg] at h1
    simp only [Bool.and_eq_true, decide_eq_true_iff] at h1
    obtain ⟨⟨⟨a1, a2⟩, a3⟩, a4⟩ := h1
    obtain ⟨x, hx⟩ := Option.isSome_iff_exists.1 a3
    obtain ⟨t, ht⟩ := Option.isSome_iff_exists.1 a4
    cases hp : ops[j]? with
    | none => rw [hp] at ht; cases ht
    | some p => rw [hp] at ht; exact ⟨a1, a2, x, p, t, hx, rfl, ht⟩
  · have := Array.all_eq_true_iff_forall_mem.1 h2 e he
    simpa [hb] using this
  · have := List.all_eq_true.1 h4 j (List.mem_range.2 hj)
    simp [hp, hd, e] at this
  · have := List.all_eq_true.1 h4 j (List.mem_range.2 hj)
    simp only [hp, Bool.and_eq_true] at this
    simpa [hc] using this.2
theorem Is.stepG (hB : rgG gl ops = true) {a0 a : Act} {L : Nat → Bool} {f : Nat → Value} (h : Is ops a0 L f a) {i : Nat} {o : Oper} (ho : ops[i]? = some o) (hL : L i = false) (v : Value) :
    Is ops a0 (fun j => if j = i then true else L j) (fun j => if j = i then v else f j) (a.put o.dst v) := by
  refine ⟨(put_defers _ _ _).trans h.defers, (put_size _ _ _).trans h.size, fun j p t hj hp ht hlt => ?_, fun t ht => ?_⟩
  · by_cases e : j = i
    · subst e
      obtain rfl := Option.some.inj (ho.symm.trans hp)
      simp only [if_true]
      rw [ht]
      exact put_get _ _ _ (by rw [h.size]; exact hlt)
    · simp only [e, if_false] at hj ⊢
      rw [put_get_ne]
      · exact h.mine j p t hj hp ht hlt
      · intro hd
        rcases Nat.lt_or_gt_of_ne e with hlt' | hgt
        · exact (rgG_ok hB ho).one j p hlt' hp t ht hd
        · exact (rgG_ok hB hp).one i o hgt ho t hd ht
  · rw [put_get_ne]
    · exact h.old t fun j p hj hp => ht j p (by by_cases e : j = i <;> simp [e, hj]) hp
    · exact ht i o (by simp) ho
theorem putAll_isG (hB : rgG gl ops = true) {a0 : Act} {f : Nat → Value} : ∀ (l : List Oper) (k : Nat) (a : Act), ops.toList.drop k = l → Is ops a0 (fun j => decide (j < k)) f a → Is ops a0 (fun j => decide (j < ops.size)) f (putAll l f k a)
  | [], k, a, hl, h => by
    have hk : ops.size ≤ k := by simpa using hl
    have e : Is ops a0 (fun j => decide (j < ops.size)) f a := ⟨h.defers, h.size, fun i o t hi ho => h.mine i o t (by simp at hi ⊢; omega) ho, fun t ht => h.old t fun i o hi ho => ht i o (by
      have := (Array.getElem?_eq_some_iff.1 ho).1
      simpa using this) ho⟩
    exact e
  | o :: l, k, a, hl, h => by
    have hk : k < ops.toList.length := by
      rcases Nat.lt_or_ge k ops.toList.length with h' | h'
      · exact h'
      · rw [List.drop_eq_nil_of_le h'] at hl; cases hl
    rw [List.drop_eq_getElem_cons hk] at hl
    injection hl with h1 h2
    have ho : ops[k]? = some o := by
      rw [← h1, ← Array.getElem?_toList, List.getElem?_eq_getElem hk]
    have hs := h.stepG hB ho (by simp) (f k)
    refine putAll_isG hB l (k + 1) _ h2 ?_
    have e1 : (fun j => if j = k then true else decide (j < k)) = fun j => decide (j < k + 1) := by
      funext j
      by_cases e : j = k
      · subst e; simp
      · simp [e]; omega
    have e2 : (fun j => if j = k then f k else f j) = f := by
      funext j
      by_cases e : j = k <;> simp [e]
    rw [e1, e2] at hs
    exact hs

theorem Inv.knownG {τ : Nat → World → Value → Prop} {d : Nat} {I : Option Value → World → Prop} {a0 a : Act} {L : Nat → Bool} {w : World} (hB : rgG gl ops = true) (hS : (ops.all fun o => match o.dst with | some t => decide (t < a0.tmps.size) | none => true) = true)
    (h : Inv ops τ d I a0 L a w) {i : Nat} {o : Oper} (ho : ops[i]? = some o) (hL : L i = false) (hr : ∀ e ∈ o.after, Region.binds .any e = true → L e.on = true) : (∀ j, ancB ops 4 j i = true → j ≠ i → L j = true) ∧ Known ops τ a0 a.eval w i (norm1 gl o).op.operands.toList := by
  obtain ⟨hC, f, hf, hI, hτ, _⟩ := h
  have anc : ∀ j, ancB ops 4 j i = true → j ≠ i → L j = true := by
    intro j hj hne
    rw [show (4 : Nat) = 3 + 1 from rfl, ancB, Bool.or_eq_true] at hj
    rcases hj with hj | hj
    · exact absurd (by simpa using hj) hne
    · simp only [ho, Option.map_some, Option.getD_some, Array.any_eq_true] at hj
      obtain ⟨k, hk, hj⟩ := hj
      rw [Bool.and_eq_true] at hj
      exact ancB_shut hC 3 j _ hj.2 (hr _ (Array.getElem_mem hk) hj.1)
  have hdst : ∀ (j : Nat) (p : Oper) (t : Tmp), ops[j]? = some p → p.dst = some t → t < a0.tmps.size := by
    intro j p t hp ht
    have := Array.all_eq_true_iff_forall_mem.1 hS p (Array.mem_of_getElem? hp)
    simpa [ht] using this
  refine ⟨anc, ?_⟩
  by_cases hsk : (norm1 gl o).op = .move (.const undef)
  · rw [hsk]; exact ⟨rfl, trivial⟩
  have hop : (norm1 gl o).op = o.op := by
    revert hsk
    obtain ⟨d, op, ty, pos, aft, g⟩ := o
    cases g with
    | none => intro _; rfl
    | some p => obtain ⟨j, b⟩ := p; unfold norm1; simp only; split <;> intro hsk <;> first | rfl | exact absurd rfl hsk
  rw [hop]
  have mem : ∀ t, .tmp t ∈ o.op.operands.toList → ∀ p : Oper, p.dst = some t → clash p o = true := by
    intro t ht p hp
    unfold clash
    rw [hp]
    simp only [Bool.or_eq_true]
    left
    rw [List.contains_iff_mem]
    exact List.mem_filterMap.2 ⟨_, ht, rfl⟩
  have mem' : ∀ t, .tmp t ∈ o.op.operands.toList → ∀ p : Oper, p.dst = some t → clash o p = true := by
    intro t ht p hp
    unfold clash
    rw [hp]
    simp only [Bool.or_eq_true]
    right
    rw [List.contains_iff_mem]
    exact List.mem_filterMap.2 ⟨_, ht, rfl⟩
  -- only what the operation looks at is asked
  have go : ∀ xs : List Operand, (∀ x ∈ xs, x ∈ o.op.operands.toList) → Known ops τ a0 a.eval w i xs := by
    intro xs
    induction xs with
    | nil => intro _; trivial
    | cons x xs ih =>
      intro hx
      have hrest := ih fun y hy => hx y (List.mem_cons_of_mem _ hy)
      cases x with
      | tmp t =>
        have ht := hx (.tmp t) (by simp)
        refine ⟨?_, hrest⟩
        cases hj : writer ops i t with
        | none =>
          show a.tmps.getD t undef = a0.tmps.getD t undef
          refine hf.old t fun j p hLj hp hd => ?_
          have hji : ¬ j < i := fun hlt => by
            have := List.find?_eq_none.1 hj j (List.mem_range.2 hlt)
            simp [hp, hd] at this
          have hne : j ≠ i := fun e => by subst e; rw [hL] at hLj; cases hLj
          -- j comes behind i: then i is listed too
          have hlt : i < j := by omega
          have := ancB_shut hC 4 i j ((rgG_ok hB hp).anc i o hlt ho (mem' t ht p hd)) hLj
          rw [hL] at this; cases this
        | some j =>
          have hj' := List.find?_some hj
          have hji : j < i := List.mem_range.1 (List.mem_of_find?_eq_some hj)
          cases hp : ops[j]? with
          | none => simp [hp] at hj'
          | some p =>
            have hd : p.dst = some t := by simpa [hp] using hj'
            have hLj := anc j ((rgG_ok hB ho).anc j p hji hp (mem t ht p hd)) (by omega)
            have := hf.mine j p t hLj hp hd (hdst j p t hp hd)
            show τ j w (a.tmps.getD t undef)
            rw [this]
            exact (hτ j hLj).2
      | const v => exact ⟨rfl, hrest⟩
      | global v => exact ⟨rfl, hrest⟩
      | func v => exact ⟨rfl, hrest⟩
  exact go _ fun _ h => h

theorem Inv.copyG {τ : Nat → World → Value → Prop} {d : Nat} {I : Option Value → World → Prop} {a0 a : Act} {L : Nat → Bool} {w : World} (hB : rgG gl ops = true) (hS : (ops.all fun o => match o.dst with | some t => decide (t < a0.tmps.size) | none => true) = true)
    (h : Inv ops τ d I a0 L a w) {i : Nat} {o : Oper} (ho : ops[i]? = some o) (hL : L i = false) (hr : ∀ e ∈ o.after, Region.binds .any e = true → L e.on = true) {f : Nat → Value} (hf : Is ops a0 L f a) {t : Tmp} {j : Nat}
    (ha : o.op = .assign (.tmp t)) (hj : writer ops i t = some j) : L j = true ∧ a.eval (.tmp t) = f j := by
  have hC := h.shut
  have hj' := List.find?_some hj
  have hji : j < i := List.mem_range.1 (List.mem_of_find?_eq_some hj)
  cases hp : ops[j]? with
  | none => simp [hp] at hj'
  | some p =>
    have hd : p.dst = some t := by simpa [hp] using hj'
    have hcl : clash p o = true := by
      unfold clash
      rw [hd]
      simp only [Bool.or_eq_true]
      left
      rw [List.contains_iff_mem]
      exact List.mem_filterMap.2 ⟨.tmp t, by rw [ha]; simp [Op.operands], rfl⟩
    have hanc := (rgG_ok hB ho).anc j p hji hp hcl
    have hLj : L j = true := by
      rw [show (4 : Nat) = 3 + 1 from rfl, ancB, Bool.or_eq_true] at hanc
      rcases hanc with h1 | h1
      · exact absurd (by simpa using h1) (Nat.ne_of_lt hji)
      · simp only [ho, Option.map_some, Option.getD_some, Array.any_eq_true] at h1
        obtain ⟨k, hk, h1⟩ := h1
        rw [Bool.and_eq_true] at h1
        exact ancB_shut hC 3 j _ h1.2 (hr _ (Array.getElem_mem hk) h1.1)
    have hdst : t < a0.tmps.size := by
      have := Array.all_eq_true_iff_forall_mem.1 hS p (Array.mem_of_getElem? hp)
      simpa [hd] using this
    exact ⟨hLj, hf.mine j p t hLj hp hd hdst⟩

theorem rg_anyG {Q : Exit → Act → World → Prop} {τ : Nat → World → Value → Prop} {d : Nat} {I : Nat → Option Value → World → Prop} {G : World → World → Prop} {a0 : Act} (hB : rgG gl ops = true) (hS : (ops.all fun o => match o.dst with | some t => decide (t < a0.tmps.size) | none => true) = true)
    (hG : ∀ i v w w', τ i w v → G w w' → τ i w' v)
    (hstep : ∀ i o, ops[i]? = some o → ∀ k ov ρ w, k < ops.size → I k ov w → (ancB ops 8 i d = true → ov = none) → Known ops τ a0 ρ w i (norm1 gl o).op.operands.toList → Good P (norm1 gl o) ρ w fun v w' => τ i w' v ∧ I (k + 1) (if i = d then some v else ov) w' ∧ G w w')
    (hgl : ∀ (i : Nat) (o : Oper) (j : Nat) (b : Bool), ops[i]? = some o → o.guard = some (j, b) → ∀ w v, τ j w v → ∃ x, look1 gl j = some x ∧ v = .bool x)
    (hd : d < ops.size) (hend : ∀ f w' k, k ≤ ops.size → I k (some (f d)) w' → (∀ i, i < ops.size → τ i w' (f i)) → Copies ops (fun j => decide (j < ops.size)) f → Q .normal (putAll ops.toList f 0 a0) w') :
    ∀ (fuel : Nat) (listed : Array Bool) (a : Act) (w : World) (k : Nat), k + fuel = ops.size → listed.size = ops.size → open_ ops listed ≤ fuel → Inv ops τ d (I k) a0 (fun i => listed.getD i false) a w → wpAny P .any ops Q fuel listed a w := by
  have last : ∀ (listed : Array Bool) (a : Act) (w : World) (k : Nat), k ≤ ops.size → listed.size = ops.size → Inv ops τ d (I k) a0 (fun i => listed.getD i false) a w → Region.ready .any ops listed = [] → Q .normal a w := by
    intro listed a w k hk hsz h hr
    have hall : ∀ i, i < ops.size → listed.getD i false = true := by
      intro i
      induction i using Nat.strongRecOn with
      | _ i ih =>
        intro hi
        rcases hb : listed.getD i false with _ | _
        · exfalso
          have hm : i ∈ Region.ready .any ops listed := mem_ready.2 ⟨by
            have : i < listed.size := by omega
            simpa [Array.getD, this] using hb, ops[i], Array.getElem?_eq_getElem hi, fun e he hbn => ih e.on ((rgG_ok hB (Array.getElem?_eq_getElem hi)).back e he hbn) (by
              have := (rgG_ok hB (Array.getElem?_eq_getElem hi)).back e he hbn
              omega)⟩
          rw [hr] at hm
          cases hm
        · rfl
    obtain ⟨_, f, hf, hI, hτ, hcp⟩ := h
    have hI : I k (some (f d)) w := by simpa [hall d hd] using hI
    have e1 : Is ops a0 (fun j => decide (j < ops.size)) f a := ⟨hf.defers, hf.size, fun i o t hi ho hd hl => hf.mine i o t (hall i (Array.getElem?_eq_some_iff.1 ho).1) ho hd hl,
      fun t ht => hf.old t fun i o hi ho => ht i o (by simpa using (Array.getElem?_eq_some_iff.1 ho).1) ho⟩
    have e0 : Is ops a0 (fun j => decide (j < 0)) f a0 := ⟨rfl, rfl, fun _ _ _ h => by simp at h, fun _ _ => rfl⟩
    rw [e1.same (putAll_isG hB ops.toList 0 a0 rfl e0)]
    refine hend f w k hk hI (fun i hi => (hτ i (hall i hi)).2) fun i o t j hi ho ha hw => ?_
    have hi' : i < ops.size := by simpa using hi
    obtain ⟨h1, h2⟩ := hcp i o t j (hall i hi') ho ha hw
    exact ⟨by simpa using (hτ j h1).1, h2⟩
  intro fuel
  induction fuel with
  | zero =>
    intro listed a w k hk hsz hc h
    have hr : Region.ready .any ops listed = [] := by
      refine List.eq_nil_iff_forall_not_mem.2 fun i hi => ?_
      obtain ⟨h1, o, ho, _⟩ := mem_ready.1 hi
      have hlt := (Array.getElem?_eq_some_iff.1 ho).1
      have hpos : 0 < open_ ops listed := List.countP_pos_iff.2 ⟨i, List.mem_range.2 hlt, by
        have : i < listed.size := by omega
        simpa [Array.getD, this] using h1⟩
      omega
    exact ⟨hr, last listed a w k (by omega) hsz h hr⟩
  | succ fuel ih =>
    intro listed a w k hk0 hsz hc h
    refine ⟨last listed a w k (by omega) hsz h, fun i hi => ?_⟩
    obtain ⟨h1, o, ho, hr⟩ := mem_ready.1 hi
    have hlt := (Array.getElem?_eq_some_iff.1 ho).1
    have hil : i < listed.size := by omega
    have h1' : listed.getD i false = false := by simpa [Array.getD, hil] using h1
    obtain ⟨hanc, hk⟩ := h.knownG hB hS ho h1' hr
    have hcopy : ∀ (f : Nat → Value), Is ops a0 (fun i => listed.getD i false) f a → ∀ t j, o.op = .assign (.tmp t) → writer ops i t = some j → listed.getD j false = true ∧ a.eval (.tmp t) = f j := fun f hf t j ha hw => h.copyG hB hS ho h1' hr hf ha hw
    have hnop : ∀ t, o.op = .assign (.tmp t) → (norm1 gl o).op = .assign (.tmp t) := fun t ha => by
      have hg0 := (rgG_ok hB ho).asg _ ha
      obtain ⟨d', op, ty, pos, aft, g⟩ := o
      simp only at hg0
      subst hg0
      exact ha
    obtain ⟨hC, f, hf, hI, hτ, hcp⟩ := h
    have hg := hstep i o ho k _ a.eval w (by omega) hI (fun e => if_neg (fun hdl => by have := ancB_shut hC 8 i d e hdl; rw [h1'] at this; cases this)) hk
    have hfin : ∀ v w', (τ i w' v ∧ I (k + 1) (if i = d then some v else if listed.getD d false = true then some (f d) else none) w' ∧ G w w') → (∀ x, (norm1 gl o).op = .assign x → v = a.eval x) → wpAny P .any ops Q fuel (listed.setIfInBounds i true) (a.put o.dst v) w' := by
      intro v w' ⟨hv, hI', hgw⟩ hva
      have eL : (fun j => (listed.setIfInBounds i true).getD j false) = fun j => if j = i then true else listed.getD j false := by
        funext j
        by_cases e : j = i
        · subst e; simp [hil]
        · simp only [e, if_false]
          exact getD_set_ne false (fun h => e h.symm)
      refine ih _ _ _ (k + 1) (by omega) (by simpa using hsz) ?_ ?_
      · have : open_ ops (listed.setIfInBounds i true) < open_ ops listed := by
          refine countP_lt (fun x _ hx => ?_) ⟨i, List.mem_range.2 hlt, by simpa using h1', ?_⟩
          · have : (listed.setIfInBounds i true).getD x false = if x = i then true else listed.getD x false := congrFun eL x
            rw [this] at hx
            by_cases e : x = i
            · simp [e] at hx
            · simpa [e] using hx
          · have : (listed.setIfInBounds i true).getD i false = if i = i then true else listed.getD i false := congrFun eL i
            rw [this]
            simp
        omega
      · rw [eL]
        refine ⟨fun j p hj hp e he hb => ?_, _, hf.stepG hB ho h1' v, ?_, fun j hj => ?_, fun j p t q hj hp ha hw => ?_⟩
        · by_cases ej : j = i
          · subst ej
            obtain rfl := Option.some.inj (ho.symm.trans hp)
            have := hr e he hb
            by_cases ee : e.on = j <;> simp [ee, this]
          · simp only [ej, if_false] at hj
            have := hC j p hj hp e he hb
            by_cases ee : e.on = i <;> simp [ee, this]
        · by_cases ed : i = d
          · subst ed
            simpa using hI'
          · simpa [ed, show ¬ d = i from fun h => ed h.symm] using hI'
        · by_cases ej : j = i
          · subst ej
            exact ⟨hlt, by simpa using hv⟩
          · simp only [ej, if_false] at hj ⊢
            exact ⟨(hτ j hj).1, hG j _ _ _ (hτ j hj).2 hgw⟩
        · have hqj : q < j := List.mem_range.1 (List.mem_of_find?_eq_some hw)
          by_cases ej : j = i
          · subst ej
            obtain rfl := Option.some.inj (ho.symm.trans hp)
            obtain ⟨h5, h6⟩ := hcopy f hf t q ha hw
            have hne : q ≠ j := by omega
            exact ⟨by simp only [hne, if_false]; exact h5, by simp only [hne, if_false, if_true]; rw [hva _ (hnop _ ha), h6]⟩
          · simp only [ej, if_false] at hj ⊢
            obtain ⟨h5, h6⟩ := hcp j p t q hj hp ha hw
            have h5' : listed.getD q false = true := h5
            have hne : q ≠ i := fun e => by rw [e, h1'] at h5'; cases h5'
            simp only [hne, if_false]
            exact ⟨h5, h6⟩
    have hga := hg.assign
    unfold wpOp
    simp only [ho]
    cases hgd : o.guard with
    | none =>
      have hn : norm1 gl o = o := by
        obtain ⟨d', op, ty, pos, aft, g⟩ := o
        simp only at hgd
        subst hgd
        rfl
      rw [hn] at hga hfin
      rw [if_pos (by simp [Region.wanted, hgd])]
      exact .inl (Good.wp hga fun v w' ⟨h5, hva⟩ => hfin v w' h5 hva)
    | some jb =>
      obtain ⟨j, b⟩ := jb
      obtain ⟨hji, haj, x, p, t, hx, hp, ht⟩ := (rgG_ok hB ho).guard j b hgd
      have hLj := hanc j haj (by omega)
      obtain ⟨x', hx', hfj⟩ := hgl i o j b ho hgd w (f j) (hτ j hLj).2
      obtain rfl : x' = x := Option.some.inj (hx'.symm.trans hx)
      have htl : t < a0.tmps.size := by
        have := Array.all_eq_true_iff_forall_mem.1 hS p (Array.mem_of_getElem? hp)
        simpa [ht] using this
      have hm := hf.mine j p t hLj hp ht htl
      have hy : yielded ops a.tmps j = some x' := by
        have hsz' : t < a.tmps.size := by rw [hf.size]; exact htl
        have e : a.tmps[t]? = some (.bool x') := by
          rw [Array.getElem?_eq_getElem hsz']
          have : a.tmps.getD t undef = a.tmps[t] := by simp [Array.getD, hsz']
          rw [← this, hm, hfj]
        unfold yielded
        simp [hp, ht, e]
      by_cases hxb : x' = b
      · have hn : norm1 gl o = { o with guard := none } := by
          obtain ⟨d', op, ty, pos, aft, g⟩ := o
          simp only at hgd
          subst hgd
          unfold norm1
          simp only [hx', hxb, if_true]
        rw [hn] at hga hfin
        rw [if_pos (by simp [Region.wanted, hgd, hy, hxb])]
        exact .inl (Good.wp (o := o) hga fun v w' ⟨h5, hva⟩ => hfin v w' h5 hva)
      · have hn : norm1 gl o = { o with op := .move (.const undef), guard := none } := by
          obtain ⟨d', op, ty, pos, aft, g⟩ := o
          simp only at hgd
          subst hgd
          unfold norm1
          simp only [hx']
          rw [if_neg (fun e => hxb (Option.some.inj e))]
        rw [hn] at hga hfin
        rw [if_neg (by simp [Region.wanted, hgd, hy, hxb])]
        have hrun : (execOp a.eval { o with op := .move (.const undef), guard := none }).run P w = .ok (.value undef) w := by simp [execOp, go_sem, Act.eval]
        unfold Good at hga
        rw [hrun] at hga
        exact hfin undef w hga.1 hga.2
end
section
variable {S : RS} {Fin : List Ty → Prop}
def GuardsOk (τ : List Ty) : List (Nat × Bool) → Prop
  | [] => True
  | (j, b) :: l => tys τ j = TEq (.bool b) ∧ GuardsOk τ l
theorem guards_of {τ : List Ty} : ∀ {gl : List (Nat × Bool)}, GuardsOk τ gl → ∀ {j : Nat} {x : Bool}, look1 gl j = some x → tys τ j = TEq (.bool x)
  | [], _, j, x, h => by cases h
  | (k, b) :: l, ⟨h1, h2⟩, j, x, h => by
    unfold look1 at h
    rw [List.lookup_cons] at h
    by_cases e : j = k
    · subst e
      simp at h
      rw [← h]; exact h1
    · have : (j == k) = false := by simpa using e
      rw [this] at h
      exact guards_of h2 h
theorem rseq_typesG {gl : List (Nat × Bool)} : ∀ (l : List Oper) (τs : List Ty), S.ops.toList.drop τs.length = l → τs.length + l.length = S.ops.size → (∀ T ∈ τs, Stb S.E T) → RSeq S Fin (l.map (norm1 gl)) τs.length τs →
    ∃ τ : List Ty, (∀ j, j < τs.length → tys τ j = tys τs j) ∧ (∀ T ∈ τ, Stb S.E T) ∧ Fin τ ∧ ∀ i o, τs.length ≤ i → S.ops[i]? = some o → ∀ k ov ρ w, k < S.ops.size → S.I k ov w → (ancB S.ops 8 i S.d = true → ov = none) → Known S.ops (tys τ) S.a0 ρ w i (norm1 gl o).op.operands.toList → Good S.P (norm1 gl o) ρ w fun v w' => tys τ i w' v ∧ S.I (k + 1) (if i = S.d then some v else ov) w' ∧ Only S.E w w'
  | [], τs, _, hlen, hst, h => by
    simp at hlen
    refine ⟨τs, fun _ _ => rfl, hst, h, fun i o hi ho => ?_⟩
    have := (Array.getElem?_eq_some_iff.1 ho).1
    omega
  | o :: l, τs, hl, hlen, hst, h => by
    rw [List.map_cons] at h
    obtain ⟨T, hT, hg, hr⟩ := h hst
    have hst' : ∀ T' ∈ T :: τs, Stb S.E T' := by
      intro T' hT'
      rcases List.mem_cons.1 hT' with h1 | h1
      · rw [h1]; exact hT
      · exact hst T' h1
    have hdrop : S.ops.toList.drop (T :: τs).length = l := by
      rw [List.length_cons, ← List.drop_drop, hl]; rfl
    obtain ⟨τ, h2, h3, h4, h5⟩ := rseq_typesG l (T :: τs) hdrop (by simp at hlen ⊢; omega) hst' (by rw [List.length_cons]; exact hr)
    rw [List.length_cons] at h2 h5
    have hget : ∀ j, j < τs.length → tys τ j = tys τs j := fun j hj => (h2 j (by omega)).trans (tys_old T τs hj)
    have hgetT : tys τ τs.length = T := (h2 _ (by omega)).trans (tys_new T τs)
    refine ⟨τ, hget, h3, h4, fun i o' hi ho => ?_⟩
    rcases Nat.lt_or_ge τs.length i with hlt | hge
    · exact h5 i o' hlt ho
    · obtain rfl : i = τs.length := by omega
      have : o' = o := by
        have e : S.ops.toList[τs.length]? = some o := by
          have := congrArg (fun l => l[0]?) hl
          simpa using this
        rw [Array.getElem?_toList] at e
        exact Option.some.inj (ho.symm.trans e)
      subst this
      intro k ov ρ w hk hI hd hK
      rw [hgetT]
      exact hg k ov ρ w hk hI hd (known_mono (fun j w v hj h => by rw [← hget j hj]; exact h) _ hK)
/-- THE RULE, with guards. -/
theorem wp_region_rsG {id : Nat} {Q : Exit → Act → World → Prop} (gl : List (Nat × Bool)) (S : RS) (hO : S.Ok) (hm : S.P.follows .mixedOrders = true) (hB : rgG gl S.ops = true) (hS : (S.ops.all fun o => match o.dst with | some t => decide (t < S.a0.tmps.size) | none => true) = true) (hd : S.d < S.ops.size)
    (hr : RdO S.rd 0 S.w0) (hJ : S.J none S.w0)
    (h : RSeq S (fun τ => GuardsOk τ gl ∧ ∀ f w' k, k ≤ S.ops.size → S.I k (some (f S.d)) w' → (∀ i, i < S.ops.size → tys τ i w' (f i)) → Copies S.ops (fun j => decide (j < S.ops.size)) f → Q .normal (putAll S.ops.toList f 0 S.a0) w') (S.ops.toList.map (norm1 gl)) 0 []) : (Code.region id S.ops true).wp S.P Q S.a0 S.w0 := by
  obtain ⟨τ, _, h3, ⟨h4g, h4⟩, h5⟩ := rseq_typesG (gl := gl) S.ops.toList [] (by simp) (by simp) (by simp) h
  have h0 : S.I 0 none S.w0.drew := by
    refine ⟨?_, Only.drew _ _, hO.keep _ _ _ hJ (Only.drew _ _)⟩
    cases hrd : S.rd with
    | none => trivial
    | some x =>
      rw [hrd] at hr
      exact Rd.drew1 hr
  refine wp_region_any hm (rg_anyG (gl := gl) (τ := tys τ) (d := S.d) (I := S.I) (G := Only S.E) hB hS (fun i v w w' ht hg => tys_stb h3 i v w w' ht hg) (fun i o ho => h5 i o (Nat.zero_le _) ho) (fun i o j b ho hg w v ht => ?_) hd (fun f w' k hk hI ht hc => h4 f w' k hk hI ht hc) S.ops.size (Array.replicate S.ops.size false) S.a0 _ 0 (by omega) (by simp) ?_ ?_)
  · obtain ⟨_, _, x, p, t, hx, _, _⟩ := (rgG_ok hB ho).guard j b hg
    rw [guards_of h4g hx] at ht
    exact ⟨x, hx, ht⟩
  · unfold open_
    exact Nat.le_trans List.countP_le_length (by simp)
  · have e : (fun i => (Array.replicate S.ops.size false).getD i false) = fun _ => false := by
      funext i
      by_cases h : i < S.ops.size <;> simp [Array.getD, h]
    rw [e]
    exact ⟨(fun j o hj => (by cases hj)), ⟨fun _ => undef, Is.start S.a0 _, h0, (fun i hi => (by cases hi)), (fun i o t j hi => (by cases hi))⟩⟩
variable {gl : List (Nat × Bool)} {d : Option Tmp} {op : Op} {ty : TypeId} {pos : String} {aft : Array Edge} {l : List Oper} {i j : Nat} {b : Bool} {τs : List Ty}
theorem rs_peel (h : RSeq S Fin (⟨d, op, ty, pos, aft, none⟩ :: l.map (norm1 gl)) i τs) : RSeq S Fin ((⟨d, op, ty, pos, aft, none⟩ :: l).map (norm1 gl)) i τs := h
theorem rs_run (hb : look1 gl j = some b) (h : RSeq S Fin (⟨d, op, ty, pos, aft, none⟩ :: l.map (norm1 gl)) i τs) : RSeq S Fin ((⟨d, op, ty, pos, aft, some (j, b)⟩ :: l).map (norm1 gl)) i τs := by
  rw [List.map_cons, norm1, if_pos hb]; exact h
theorem rs_skip (hb : look1 gl j = some (!b)) (h : RSeq S Fin (⟨d, .move (.const undef), ty, pos, aft, none⟩ :: l.map (norm1 gl)) i τs) : RSeq S Fin ((⟨d, op, ty, pos, aft, some (j, b)⟩ :: l).map (norm1 gl)) i τs := by
  rw [List.map_cons, norm1, if_neg (by rw [hb]; cases b <;> simp)]; exact h
end
end Go.Proofs.Ytdgminjbgjbamaa

namespace Go.Proofs.Ytdgminjbgjbamaa
namespace Two
/-! Plain two-level logic: cubes (care, value), truth tables as natural numbers. -/

/-- A cube is true for assignment x. -/
def has (k : Nat × Nat) (x : Nat) : Bool := x &&& k.1 == k.2
/-- The value's bits lie within the care's. -/
def fine (k : Nat × Nat) : Bool := k.2 &&& k.1 == k.2
theorem has_iff (k : Nat × Nat) (x : Nat) : has k x = true ↔ ∀ i, (x.testBit i && k.1.testBit i) = k.2.testBit i := by
  unfold has
  rw [beq_iff_eq]
  constructor
  · intro h i
    rw [← h, Nat.testBit_and]
  · intro h
    apply Nat.eq_of_testBit_eq
    intro i
    rw [Nat.testBit_and, h i]
theorem fine_iff (k : Nat × Nat) : fine k = true ↔ ∀ i, k.2.testBit i = true → k.1.testBit i = true := by
  unfold fine
  rw [beq_iff_eq]
  constructor
  · intro h i hi
    rw [← h, Nat.testBit_and] at hi
    exact (Bool.and_eq_true _ _ ▸ hi).2
  · intro h
    apply Nat.eq_of_testBit_eq
    intro i
    rw [Nat.testBit_and]
    cases hv : k.2.testBit i
    · simp
    · simp [h i hv]
theorem has_fine {k : Nat × Nat} {x : Nat} (h : has k x = true) : fine k = true := by
  rw [fine_iff]
  intro i hi
  have := (has_iff k x).1 h i
  rw [hi] at this
  exact (Bool.and_eq_true _ _ ▸ this).2

/-- A cube implies a table of n variables. -/
def within (k : Nat × Nat) (t n : Nat) : Bool := (List.range (2 ^ n)).all fun x => !has k x || t.testBit x
theorem within_iff (k : Nat × Nat) (t n : Nat) : within k t n = true ↔ ∀ x, x < 2 ^ n → has k x = true → t.testBit x = true := by
  unfold within
  rw [List.all_eq_true]
  constructor
  · intro h x hx hk
    have := h x (List.mem_range.2 hx)
    simpa [hk] using this
  · intro h x hx
    have := h x (List.mem_range.1 hx)
    cases hk : has k x
    · simp
    · simp [this hk]

/-- a implies b: every literal of b stands in a. -/
def gen (a b : Nat × Nat) : Bool := a.1 &&& b.1 == b.1 && a.2 &&& b.1 == b.2
theorem gen_iff (a b : Nat × Nat) : gen a b = true ↔ (∀ i, b.1.testBit i = true → a.1.testBit i = true) ∧ ∀ i, (a.2.testBit i && b.1.testBit i) = b.2.testBit i := by
  unfold gen
  rw [Bool.and_eq_true, beq_iff_eq, beq_iff_eq]
  constructor
  · rintro ⟨h1, h2⟩
    refine ⟨fun i hi => ?_, fun i => by rw [← h2, Nat.testBit_and]⟩
    rw [← h1, Nat.testBit_and] at hi
    exact (Bool.and_eq_true _ _ ▸ hi).1
  · rintro ⟨h1, h2⟩
    refine ⟨Nat.eq_of_testBit_eq fun i => ?_, Nat.eq_of_testBit_eq fun i => ?_⟩
    · rw [Nat.testBit_and]
      cases hb : b.1.testBit i
      · simp
      · simp [h1 i hb]
    · rw [Nat.testBit_and, h2 i]
theorem gen_refl {a : Nat × Nat} (h : fine a = true) : gen a a = true := by
  rw [gen_iff]
  refine ⟨fun _ h => h, fun i => ?_⟩
  have := (fine_iff a).1 h i
  cases hv : a.2.testBit i
  · simp
  · simp [this hv]
theorem gen_trans {a b c : Nat × Nat} (h : gen a b = true) (h' : gen b c = true) : gen a c = true := by
  rw [gen_iff] at *
  refine ⟨fun i hi => h.1 i (h'.1 i hi), fun i => ?_⟩
  rw [← h'.2 i, ← h.2 i]
  cases hc : c.1.testBit i
  · simp
  · simp [h'.1 i hc]
theorem gen_has {a b : Nat × Nat} (h : gen a b = true) {x : Nat} (hx : has a x = true) : has b x = true := by
  rw [gen_iff] at h
  rw [has_iff] at *
  intro i
  rw [← h.2 i, ← hx i]
  cases hb : b.1.testBit i
  · simp
  · simp [h.1 i hb]
theorem gen_fine {a b : Nat × Nat} (h : gen a b = true) : fine b = true := by
  rw [gen_iff] at h
  rw [fine_iff]
  intro i hi
  rw [← h.2 i] at hi
  exact (Bool.and_eq_true _ _ ▸ hi).2
/-- The more general cube has the smaller care; with the same care it is the same cube. -/
theorem gen_le {a b : Nat × Nat} (h : gen a b = true) : b.1 ≤ a.1 := by
  have h1 : a.1 &&& b.1 = b.1 := by
    unfold gen at h
    rw [Bool.and_eq_true, beq_iff_eq] at h
    exact h.1
  rw [← h1]
  exact Nat.and_le_left
theorem gen_eq {a b : Nat × Nat} (ha : fine a = true) (h : gen a b = true) (he : b.1 = a.1) : b = a := by
  have h2 : a.2 &&& b.1 = b.2 := by
    unfold gen at h
    rw [Bool.and_eq_true, beq_iff_eq, beq_iff_eq] at h
    exact h.2
  unfold fine at ha
  rw [beq_iff_eq] at ha
  rw [he, ha] at h2
  exact Prod.ext he h2.symm

/-! ### Tables -/
/-- The table t with the assignments below m that the cube has. -/
def addTo (k : Nat × Nat) (t : Nat) : Nat → Nat
  | 0 => t
  | m + 1 => if has k m then addTo k t m ||| 2 ^ m else addTo k t m
theorem addTo_bit (k : Nat × Nat) (t : Nat) : ∀ m x, (addTo k t m).testBit x = (t.testBit x || (decide (x < m) && has k x))
  | 0, x => by simp [addTo]
  | m + 1, x => by
    rw [addTo]
    split
    · rename_i h
      rw [Nat.testBit_or, addTo_bit k t m x, Nat.testBit_two_pow]
      by_cases e : m = x
      · subst e; simp [h]
      · simp only [e, decide_false, Bool.or_false]
        congr 2
        exact decide_eq_decide.2 ⟨fun h => by omega, fun h => by omega⟩
    · rename_i h
      rw [addTo_bit k t m x]
      by_cases e : m = x
      · subst e; simp [h]
      · congr 2
        exact decide_eq_decide.2 ⟨fun h => by omega, fun h => by omega⟩
/-- The table of a list of cubes, of n variables. -/
def tableOf (l : List (Nat × Nat)) (n : Nat) : Nat := l.foldl (fun t k => addTo k t (2 ^ n)) 0
theorem fold_bit (n x : Nat) : ∀ (l : List (Nat × Nat)) (t : Nat), (l.foldl (fun t k => addTo k t (2 ^ n)) t).testBit x = (t.testBit x || (decide (x < 2 ^ n) && l.any (has · x)))
  | [], t => by simp
  | k :: l, t => by
    rw [List.foldl_cons, fold_bit n x l, addTo_bit, List.any_cons]
    cases t.testBit x <;> cases decide (x < 2 ^ n) <;> simp
theorem tableOf_bit (l : List (Nat × Nat)) (n x : Nat) : (tableOf l n).testBit x = (decide (x < 2 ^ n) && l.any (has · x)) := by
  rw [tableOf, fold_bit]; simp
theorem tableOf_lt (l : List (Nat × Nat)) (n : Nat) : tableOf l n < 2 ^ 2 ^ n := by
  refine Nat.lt_pow_two_of_testBit _ fun i hi => ?_
  rw [tableOf_bit]
  simp [Nat.not_lt.2 hi]
theorem table_ext {a b n : Nat} (ha : a < 2 ^ 2 ^ n) (hb : b < 2 ^ 2 ^ n) (h : ∀ x, x < 2 ^ n → a.testBit x = b.testBit x) : a = b := by
  apply Nat.eq_of_testBit_eq
  intro i
  by_cases hi : i < 2 ^ n
  · exact h i hi
  · rw [Nat.testBit_lt_two_pow (Nat.lt_of_lt_of_le ha (Nat.pow_le_pow_right (by decide) (by omega))), Nat.testBit_lt_two_pow (Nat.lt_of_lt_of_le hb (Nat.pow_le_pow_right (by decide) (by omega)))]
end Two
end Go.Proofs.Ytdgminjbgjbamaa

namespace Go.Proofs.Ytdgminjbgjbamaa
open Go.RowKit

theorem ofInt_wrap (b : BitVec 64) : BitVec.ofInt 64 (IntKind.i64.wrap (b.toNat : Int)) = b := by
  apply BitVec.eq_of_toNat_eq
  rw [BitVec.toNat_ofInt, IntKind.wrap_i64]
  have := b.isLt
  omega
/-- What a cube has lies within its care. -/
theorem andNot_of_and {x c v : Int} (h : bits .and .i64 x c = v) : bits .andNot .i64 v c = 0 := by
  subst h
  show IntKind.i64.wrap (((BitVec.ofInt 64 (IntKind.i64.wrap ((BitVec.ofInt 64 x &&& BitVec.ofInt 64 c).toNat : Int)) &&& ~~~(BitVec.ofInt 64 c)).toNat : Nat) : Int) = 0
  rw [ofInt_wrap]
  have : BitVec.ofInt 64 x &&& BitVec.ofInt 64 c &&& ~~~(BitVec.ofInt 64 c) = 0#64 := by
    apply BitVec.eq_of_getLsbD_eq
    intro i hi
    simp
    intro _ h _
    exact h
  rw [this]
  rfl
/-- A cube is true for x. -/
def hasI (c v x : Int) : Bool := decide (0 ≤ x) && (bits .and .i64 x c == v)
def cubeV (c v : Int) : Value := .agg #[.int .i64 c, .int .i64 v]

theorem implHas_any (c v x : Int) (w : World) :
    Calls Try.prog 103 #[.agg #[.int .i64 c, .int .i64 v], .int .i64 x] w
      fun e w' => e = .returned (.bool (hasI c v x)) ∧ Below w.heap.size w w' := by
  by_cases hx : 0 ≤ x
  · cases hb : (bits .and .i64 x c == v)
    · cases hn : (bits .andNot .i64 v c == 0)
      all_goals
        go_enter Try.func103, Try.ntmps103
        go_wp2
        go_ret
        exact ⟨ret_bool (by simp [hasI, hx, hb]), (Below.refl _ _).alloc (Nat.le_refl _) _⟩
    · have hn : (bits .andNot .i64 v c == 0) = true := beq_iff_eq.2 (andNot_of_and (beq_iff_eq.1 hb))
      go_enter Try.func103, Try.ntmps103
      go_wp2
      go_ret
      exact ⟨ret_bool (by simp [hasI, hx, hb]), (Below.refl _ _).alloc (Nat.le_refl _) _⟩
  · go_enter Try.func103, Try.ntmps103
    go_wp2
    go_ret
    exact ⟨ret_bool (by simp [hasI]; intro h0; omega), (Below.refl _ _).alloc (Nat.le_refl _) _⟩
end Go.Proofs.Ytdgminjbgjbamaa

namespace Go.Proofs.Ytdgminjbgjbamaa
open Go.RowKit
/-! Slices of cubes, and the two CoverTables. -/

/-- A cube fits n variables. -/
def okI (N : Nat) (k : Int × Int) : Bool := decide (0 ≤ k.1 ∧ k.1 < (2 : Int) ^ N) && (bits .andNot .i64 k.2 k.1 == 0)
theorem andNot_iff {c v : Int} (h1 : -9223372036854775808 ≤ v) (h2 : v ≤ 9223372036854775807) : bits .andNot .i64 v c = 0 ↔ bits .and .i64 v c = v := by
  constructor
  · intro h
    have h : IntKind.i64.wrap ((BitVec.ofInt 64 v &&& ~~~(BitVec.ofInt 64 c)).toNat : Int) = 0 := h
    have hz : BitVec.ofInt 64 v &&& ~~~(BitVec.ofInt 64 c) = 0#64 := by
      rw [← ofInt_wrap (BitVec.ofInt 64 v &&& ~~~(BitVec.ofInt 64 c)), h]
      rfl
    have he : BitVec.ofInt 64 v &&& BitVec.ofInt 64 c = BitVec.ofInt 64 v := by
      apply BitVec.eq_of_getLsbD_eq
      intro i hi
      have := congrArg (fun b => b.getLsbD i) hz
      simp only [BitVec.getLsbD_and, BitVec.getLsbD_not, hi, decide_true, Bool.true_and, BitVec.getLsbD_zero] at this ⊢
      cases hv : (BitVec.ofInt 64 v).getLsbD i <;> cases hc : (BitVec.ofInt 64 c).getLsbD i <;> simp_all
    show IntKind.i64.wrap ((BitVec.ofInt 64 v &&& BitVec.ofInt 64 c).toNat : Int) = v
    rw [he, IntKind.wrap_i64, BitVec.toNat_ofInt]
    omega
  · exact andNot_of_and
/-- A cube that fits is one of natural numbers. -/
def natK (k : Int × Int) : Nat × Nat := (k.1.toNat, k.2.toNat)
def intK (k : Nat × Nat) : Int × Int := (k.1, k.2)
def WfK (k : Int × Int) : Prop := -9223372036854775808 ≤ k.2 ∧ k.2 ≤ 9223372036854775807
theorem and_nonneg {v : Int} {C : Nat} (h : bits .and .i64 v (C : Int) = v) (hC : C < 9223372036854775808) : 0 ≤ v ∧ v ≤ C := by
  have h : IntKind.i64.wrap ((BitVec.ofInt 64 v &&& BitVec.ofInt 64 (C : Int)).toNat : Int) = v := h
  have h1 : (BitVec.ofInt 64 v &&& BitVec.ofInt 64 (C : Int)).toNat ≤ C := by
    rw [BitVec.toNat_and, ofInt64 C (by omega)]
    exact Nat.and_le_right
  rw [IntKind.wrap_i64] at h
  omega
theorem okI_nat {N : Nat} {k : Int × Int} (hN : N ≤ 4) (hw : WfK k) (h : okI N k = true) :
    ∃ C V : Nat, k = ((C : Int), (V : Int)) ∧ C < 2 ^ N ∧ C < 16 ∧ V ≤ C ∧ Two.fine (C, V) = true := by
  obtain ⟨c, v⟩ := k
  unfold okI at h
  rw [Bool.and_eq_true, decide_eq_true_eq, beq_iff_eq] at h
  obtain ⟨⟨h1, h2⟩, h3⟩ := h
  simp only at h1 h2 h3
  obtain ⟨C, rfl⟩ := Int.eq_ofNat_of_zero_le h1
  rw [two_pow] at h2
  have hp : 2 ^ N ≤ 16 := by
    have := Nat.pow_le_pow_right (show 0 < 2 by decide) hN
    simpa using this
  have h4 := (andNot_iff hw.1 hw.2).1 h3
  simp only at h4
  obtain ⟨h5, h6⟩ := and_nonneg h4 (by omega)
  obtain ⟨V, rfl⟩ := Int.eq_ofNat_of_zero_le h5
  refine ⟨C, V, rfl, by omega, by omega, by omega, ?_⟩
  rw [i64_and_nat V C (by omega) (by omega)] at h4
  unfold Two.fine
  rw [beq_iff_eq]
  exact Int.ofNat.inj h4
theorem hasI_nat (C V X : Nat) (hC : C < 9223372036854775808) (hX : X < 9223372036854775808) : hasI (C : Int) (V : Int) (X : Int) = Two.has (C, V) X := by
  unfold hasI Two.has
  rw [i64_and_nat X C hX hC]
  have : decide (0 ≤ (X : Int)) = true := decide_eq_true (by omega)
  rw [this, Bool.true_and]
  rw [Bool.eq_iff_iff, beq_iff_eq, beq_iff_eq]
  constructor
  · intro h; exact Int.ofNat.inj h
  · intro h; rw [h]
theorem addTo_lt {k : Nat × Nat} {t : Nat} (ht : t < 65536) : ∀ {m : Nat}, m ≤ 16 → Two.addTo k t m < 65536
  | 0, _ => ht
  | m + 1, h => by
    rw [Two.addTo]
    have ih := addTo_lt (k := k) ht (m := m) (by omega)
    split
    · have : 2 ^ m < 65536 := Nat.lt_of_le_of_lt (Nat.pow_le_pow_right (by decide) (show m ≤ 15 by omega)) (by decide)
      exact Nat.or_lt_two_pow (n := 16) ih this
    · exact ih
/-- What is left of a cover's table. -/
def covFrom (N : Nat) (l : List (Int × Int)) (t : Nat) : Int := if l.all (okI N) then ((l.foldl (fun t k => Two.addTo (natK k) t (2 ^ N)) t : Nat) : Int) else -1
def coverI (n : Int) (ks : List (Int × Int)) : Int := if 0 ≤ n ∧ n ≤ 4 ∧ ks.length ≤ 100 then covFrom n.toNat ks 0 else -1
theorem covFrom_step {N : Nat} {ks : List (Int × Int)} {k : Nat} {x : Int × Int} (t : Nat) (h : ks[k]? = some x) (hx : okI N x = true) : covFrom N (ks.drop k) t = covFrom N (ks.drop (k + 1)) (Two.addTo (natK x) t (2 ^ N)) := by
  have e : ks.drop k = x :: ks.drop (k + 1) := by
    obtain ⟨hk, rfl⟩ := List.getElem?_eq_some_iff.1 h
    exact List.drop_eq_getElem_cons hk
  rw [e, covFrom, covFrom, List.all_cons, hx, Bool.true_and, List.foldl_cons]
theorem covFrom_bad {N : Nat} {ks : List (Int × Int)} {k : Nat} {x : Int × Int} (t : Nat) (h : ks[k]? = some x) (hx : okI N x = false) : covFrom N (ks.drop k) t = -1 := by
  have e : ks.drop k = x :: ks.drop (k + 1) := by
    obtain ⟨hk, rfl⟩ := List.getElem?_eq_some_iff.1 h
    exact List.drop_eq_getElem_cons hk
  rw [e, covFrom, List.all_cons, hx, Bool.false_and]
  simp
theorem covFrom_done {N : Nat} {ks : List (Int × Int)} {k : Nat} (t : Nat) (h : ks.length ≤ k) : covFrom N (ks.drop k) t = t := by
  rw [List.drop_eq_nil_of_le h]
  simp [covFrom]
theorem okI_cases {N : Nat} {k : Int × Int} (h : okI N k = false) : k.1 < 0 ∨ (0 ≤ k.1 ∧ (2 : Int) ^ N ≤ k.1) ∨ (0 ≤ k.1 ∧ k.1 < (2 : Int) ^ N ∧ (bits .andNot .i64 k.2 k.1 == 0) = false) := by
  unfold okI at h
  rw [Bool.and_eq_false_iff, decide_eq_false_iff_not] at h
  rcases h with h | h
  · omega
  · by_cases h0 : k.1 < 0
    · exact .inl h0
    · by_cases h1 : k.1 < 2 ^ N
      · exact .inr (.inr ⟨by omega, h1, h⟩)
      · exact .inr (.inl ⟨by omega, by omega⟩)
theorem okI_parts {N : Nat} {k : Int × Int} (h : okI N k = true) : 0 ≤ k.1 ∧ k.1 < (2 : Int) ^ N ∧ (bits .andNot .i64 k.2 k.1 == 0) = true := by
  unfold okI at h
  rw [Bool.and_eq_true, decide_eq_true_eq] at h
  exact ⟨h.1.1, h.1.2, h.2⟩
end Go.Proofs.Ytdgminjbgjbamaa

namespace Go.Proofs.Ytdgminjbgjbamaa
open Go.RowKit

theorem implCover_any (v : Value) (ks : List (Int × Int)) (n : Int) (w : World) (h : CubesAt w v ks) (hw : ∀ k ∈ ks, WfK k) :
    Calls Try.prog 77 #[v, .int .i64 n] w
      fun e w' => e = .returned (.int .i64 (coverI n ks)) ∧ Below w.heap.size w w' := by
  obtain ⟨A, c, hv, hc, hcm⟩ := h.shape
  subst hv
  unfold maxLen at hcm
  by_cases hn : 0 ≤ n ∧ n ≤ 4 ∧ ks.length ≤ 100
  · obtain ⟨h1, h2, h3⟩ := hn
    obtain ⟨N, rfl⟩ := Int.eq_ofNat_of_zero_le h1
    obtain ⟨M, hM, e, hp, hp0⟩ : ∃ M : Nat, Hid (2 ^ N = M) ∧ (2 : Int) ^ N = (M : Int) ∧ M ≤ 16 ∧ 1 ≤ M := ⟨2 ^ N, Lib.hid rfl, two_pow N, Nat.pow_le_pow_right (show 0 < 2 by decide) (show N ≤ 4 by omega), Nat.one_le_two_pow⟩
    have hst : Hid (coverI N ks = covFrom N (ks.drop 0) 0) := Lib.hid (by rw [coverI, if_pos ⟨h1, h2, h3⟩]; rfl)
    generalize coverI N ks = res at hst ⊢
    have h4 : N ≤ 4 := by omega
    go_enter Try.func77, Try.ntmps77
    go_wp2
    go_loopw [5, 22] (fun t i wr => ∃ k T : Nat, k ≤ ks.length ∧ i = .int .i64 k ∧ t = .int .i64 T ∧ T < 65536 ∧ Hid (res = covFrom N (ks.drop k) T) ∧ Below w.heap.size w wr) (fun _ i _ => ks.length - (intOf i).toNat)
    case atStart => exact ⟨0, 0, Nat.zero_le _, rfl, rfl, by omega, hst, Below.refl _ _⟩
    case round =>
      obtain ⟨k, T, hk, rfl, rfl, hT, hres, hb⟩ := hrel
      clear hst
      by_cases hlt : k < ks.length
      · obtain ⟨b, o, ⟨cc, cv⟩, rfl, hbl, hx, hs1, hs2⟩ := cubes_open h hb rfl hlt
        have hwf := hw _ (List.mem_of_getElem? hx.out)
        have Hb := Lib.hid hb
        clear h hb hw
        cases hok : okI N (cc, cv)
        · rw [covFrom_bad T hx.out hok] at hres
          rcases okI_cases hok with g | ⟨g0, g1⟩ | ⟨g0, g1, g2⟩
          · have d1 : decide (cc < 0) = true := decide_eq_true g
            clear hx hok
            go_wp2
            go_quiet (fail)
            go_wp2
            go_ret
            exact ⟨ret_int hres.out.symm, bel_drewN (Hb.out.alloc Hb.out.size _) _⟩
          · obtain ⟨C, rfl⟩ := Int.eq_ofNat_of_zero_le g0
            have d1 : decide ((C : Int) < 0) = false := decide_eq_false (by omega)
            have d2 : decide (M ≤ C) = true := decide_eq_true (by omega)
            have hz : IntKind.i64.wrap (M : Int) = M := IntWalk.i64_in _ (by omega)
            clear hx hok g1
            go_wp2
            go_quiet (fail)
            go_wp2
            go_ret
            exact ⟨ret_int hres.out.symm, bel_drewN (Hb.out.alloc Hb.out.size _) _⟩
          · obtain ⟨C, rfl⟩ := Int.eq_ofNat_of_zero_le g0
            have d1 : decide ((C : Int) < 0) = false := decide_eq_false (by omega)
            have d2 : decide (M ≤ C) = false := decide_eq_false (by omega)
            have d3 : (bits .andNot .i64 cv C != 0) = true := by simpa using g2
            have hz : IntKind.i64.wrap (M : Int) = M := IntWalk.i64_in _ (by omega)
            clear hx hok g1 g2
            go_wp2
            go_quiet (fail)
            go_wp2
            go_ret
            exact ⟨ret_int hres.out.symm, bel_drewN (Hb.out.alloc Hb.out.size _) _⟩
        · rw [covFrom_step T hx.out hok] at hres
          obtain ⟨g0, g1, g2⟩ := okI_parts hok
          obtain ⟨C, V, e1, g3, g4, g5, g6⟩ := okI_nat h4 hwf hok
          injection e1 with e1 e2
          subst e1 e2
          have d1 : decide ((C : Int) < 0) = false := decide_eq_false (by omega)
          have d2 : decide (M ≤ C) = false := decide_eq_false (by omega)
          have d3 : (bits .andNot .i64 (V : Int) C != 0) = false := by simpa using g2
          have hz : IntKind.i64.wrap (M : Int) = M := IntWalk.i64_in _ (by omega)
          clear g2 hx hok g3
          go_wp2
          go_quiet (fail)
          go_wp2
          have b1 := bel_drewN (Hb.out.alloc Hb.out.size (.cells #[.int .i64 C, .int .i64 V] 53)) nq
          have c0 : ((wr.alloc (.cells #[.int .i64 C, .int .i64 V] 53)).drewN nq).cell? ⟨wr.heap.size, 0, none⟩ = some (.int .i64 C) := World.cell?_alloc_new _ _ _ 0
          have c1 : ((wr.alloc (.cells #[.int .i64 C, .int .i64 V] 53)).drewN nq).cell? ⟨wr.heap.size, 1, none⟩ = some (.int .i64 V) := World.cell?_alloc_new _ _ _ 1
          have cz : wr.heap.size < ((wr.alloc (.cells #[.int .i64 C, .int .i64 V] 53)).drewN nq).heap.size := by simp
          have hwz := Hb.out.size
          generalize (wr.alloc (.cells #[.int .i64 C, .int .i64 V] 53)).drewN nq = W1 at *
          clear Hb
          generalize wr.heap.size = g at *
          clear d1 d2 d3 hz hs1 hs2
          have B1 := Lib.hid b1
          clear b1
          go_loopw [5, 46] (fun t x wq => ∃ X T2 : Nat, X ≤ M ∧ x = .int .i64 X ∧ t = .int .i64 T2 ∧ T2 < 65536 ∧ Hid (T2 = Two.addTo (C, V) T X) ∧ Below W1.heap.size W1 wq) (fun _ x _ => M - (intOf x).toNat)
          case atStart => exact ⟨0, T, by omega, rfl, rfl, hT, Lib.hid rfl, Below.refl _ _⟩
          case round =>
            obtain ⟨X, T2, hX, rfl, rfl, hT2, hT2e, hq⟩ := hrel
            have q0 := (hq.cell (p := ⟨g, 0, none⟩) cz).trans c0
            have q1 := (hq.cell (p := ⟨g, 1, none⟩) cz).trans c1
            have Hq := Lib.hid hq
            clear hq c0 c1
            by_cases hxl : X < M
            · have hh := hasI_nat C V X (by omega) (by omega)
              cases hhas : Two.has (C, V) X
              · rw [hhas] at hh
                have Hh := Lib.hid hh
                have Hs := Lib.hid hhas
                clear hh hhas
                go_wp2_with (go_at_call 103; refine (implHas_any _ _ _ _).mono ?_; rintro e w' ⟨rfl, hb'⟩; rw [Hh.out])
                go_roundw
                case rel => exact ⟨X + 1, T2, by omega, by go_num, rfl, hT2, Lib.hid (by rw [Two.addTo, Hs.out, if_neg (by simp)]; exact hT2e.out), Hq.out.trans (hb'.mono Hq.out.size)⟩
                case measure => simp [intOf]; omega
              · rw [hhas] at hh
                have Hh := Lib.hid hh
                have Hs := Lib.hid hhas
                clear hh hhas
                have hpx : 2 ^ X < 65536 := Nat.lt_of_le_of_lt (Nat.pow_le_pow_right (by decide) (show X ≤ 15 by omega)) (by decide)
                have hpe : (2 : Int) ^ X = ((2 ^ X : Nat) : Int) := two_pow X
                generalize hy : 2 ^ X = Y at hpx hpe
                have HY := Lib.hid hy
                clear hy
                go_wp2_with (go_at_call 103; refine (implHas_any _ _ _ _).mono ?_; rintro e w' ⟨rfl, hb'⟩; rw [Hh.out])
                go_roundw
                case rel =>
                  have hor := i64_or_nat T2 Y (by omega) (by omega)
                  exact ⟨X + 1, T2 ||| Y, by omega, by go_num, by rw [hor], Nat.or_lt_two_pow (n := 16) hT2 hpx, Lib.hid (by rw [Two.addTo, Hs.out, if_pos rfl, HY.out, hT2e.out]), Hq.out.trans (hb'.mono Hq.out.size)⟩
                case measure => simp [intOf]; omega
            · obtain rfl : X = M := by omega
              go_wp2
              go_roundw
              case rel => exact ⟨k + 1, T2, by omega, by go_num, rfl, hT2, Lib.hid (by rw [hres.out, hT2e.out, hM.out]; rfl), B1.out.trans (Hq.out.mono (by omega))⟩
              case measure => simp [intOf]; omega
      · rw [covFrom_done T (by omega)] at hres
        go_wp2
        go_ret
        exact ⟨ret_int hres.out.symm, hb⟩
  · rw [coverI, if_neg hn]
    have hn' : n < 0 ∨ (0 ≤ n ∧ 4 < n) ∨ (0 ≤ n ∧ n ≤ 4 ∧ (100 : Int) < ks.length) := by omega
    clear hn
    rcases hn' with g | ⟨g0, g1⟩ | ⟨g0, g1, g2⟩
    all_goals
      go_enter Try.func77, Try.ntmps77
      go_wp2
      go_ret
      exact ⟨rfl, Below.refl _ _⟩
end Go.Proofs.Ytdgminjbgjbamaa

namespace Go.Proofs.Ytdgminjbgjbamaa
open Go.RowKit
def orRow (l : List (Nat × Nat)) (x t : Nat) : Nat := l.foldl (fun t k => if Two.has k x then t ||| 2 ^ x else t) t
def specTab (l : List (Nat × Nat)) : Nat → Nat
  | 0 => 0
  | m + 1 => orRow l m (specTab l m)
theorem orRow_bit (x i : Nat) : ∀ (l : List (Nat × Nat)) (t : Nat), (orRow l x t).testBit i = (t.testBit i || (decide (x = i) && l.any (Two.has · x)))
  | [], t => by simp [orRow]
  | k :: l, t => by
    have ih := orRow_bit x i l
    unfold orRow at ih ⊢
    rw [List.foldl_cons, ih, List.any_cons]
    split
    · rename_i h
      rw [Nat.testBit_or, Nat.testBit_two_pow, h]
      cases t.testBit i <;> cases decide (x = i) <;> simp
    · rename_i h
      simp [h]
theorem specTab_bit (l : List (Nat × Nat)) : ∀ m i, (specTab l m).testBit i = (decide (i < m) && l.any (Two.has · i))
  | 0, i => by simp [specTab]
  | m + 1, i => by
    rw [specTab, orRow_bit, specTab_bit l m i]
    by_cases e : m = i
    · subst e; simp
    · have : decide (i < m + 1) = decide (i < m) := decide_eq_decide.2 ⟨fun h => by omega, fun h => by omega⟩
      simp [e, this]
theorem specTab_eq (l : List (Nat × Nat)) (n : Nat) : specTab l (2 ^ n) = Two.tableOf l n := by
  apply Nat.eq_of_testBit_eq
  intro i
  rw [specTab_bit, Two.tableOf_bit]
theorem fold_map {N : Nat} : ∀ (ks : List (Int × Int)) (t : Nat), ks.foldl (fun t k => Two.addTo (natK k) t (2 ^ N)) t = (ks.map natK).foldl (fun t k => Two.addTo k t (2 ^ N)) t
  | [], _ => rfl
  | k :: ks, t => by rw [List.foldl_cons, List.map_cons, List.foldl_cons, fold_map ks]
theorem covFrom_all {N : Nat} {ks : List (Int × Int)} (h : ks.all (okI N) = true) : covFrom N ks 0 = (Two.tableOf (ks.map natK) N : Int) := by
  rw [covFrom, if_pos h, fold_map]; rfl
theorem orRow_lt {x : Nat} (hx : x ≤ 15) : ∀ (l : List (Nat × Nat)) {t : Nat}, t < 65536 → orRow l x t < 65536
  | [], t, h => h
  | k :: l, t, h => by
    unfold orRow
    rw [List.foldl_cons]
    have : 2 ^ x < 65536 := Nat.lt_of_le_of_lt (Nat.pow_le_pow_right (by decide) hx) (by decide)
    refine orRow_lt hx l ?_
    split
    · exact Nat.or_lt_two_pow (n := 16) h this
    · exact h
theorem specTab_lt (l : List (Nat × Nat)) : ∀ {m : Nat}, m ≤ 16 → specTab l m < 65536
  | 0, _ => by simp [specTab]
  | m + 1, h => by
    rw [specTab]
    exact orRow_lt (by omega) l (specTab_lt l (by omega))
theorem take_all_snoc {N : Nat} {ks : List (Int × Int)} {k : Nat} {x : Int × Int} (h : ks[k]? = some x) (hk : (ks.take k).all (okI N) = true) (hx : okI N x = true) : (ks.take (k + 1)).all (okI N) = true := by
  rw [take_snoc h, List.all_append, hk]
  simp [hx]
theorem all_bad {N : Nat} {ks : List (Int × Int)} {k : Nat} {x : Int × Int} (h : ks[k]? = some x) (hx : okI N x = false) : covFrom N ks 0 = -1 := by
  rw [covFrom, if_neg]
  intro hall
  have := List.all_eq_true.1 hall x (List.mem_of_getElem? h)
  rw [hx] at this
  cases this
theorem okI_false2 {N : Nat} {k : Int × Int} (hw : WfK k) (h : okI N k = false) : decide (0 ≤ k.1 ∧ k.1 ≤ (2 : Int) ^ N - 1) = false ∨ (decide (0 ≤ k.1 ∧ k.1 ≤ (2 : Int) ^ N - 1) = true ∧ (bits .and .i64 k.2 k.1 != k.2) = true) := by
  by_cases g : 0 ≤ k.1 ∧ k.1 ≤ (2 : Int) ^ N - 1
  · right
    refine ⟨decide_eq_true g, ?_⟩
    rw [bne_iff_ne]
    intro e
    have := (andNot_iff hw.1 hw.2).2 e
    unfold okI at h
    rw [Bool.and_eq_false_iff, decide_eq_false_iff_not, beq_eq_false_iff_ne] at h
    rcases h with h | h
    · omega
    · exact h this
  · exact .inl (decide_eq_false g)
theorem okI_true2 {N : Nat} {k : Int × Int} (hw : WfK k) (h : okI N k = true) : decide (0 ≤ k.1 ∧ k.1 ≤ (2 : Int) ^ N - 1) = true ∧ (bits .and .i64 k.2 k.1 != k.2) = false := by
  unfold okI at h
  rw [Bool.and_eq_true, decide_eq_true_eq, beq_iff_eq] at h
  refine ⟨decide_eq_true ⟨h.1.1, by omega⟩, ?_⟩
  have := (andNot_iff hw.1 hw.2).1 h.2
  rw [this]
  simp

end Go.Proofs.Ytdgminjbgjbamaa

namespace Go.Proofs.Ytdgminjbgjbamaa
theorem shr_nat (C V : Nat) : (C : Int) / 2 ^ V = ((C / 2 ^ V : Nat) : Int) := by rw [two_pow]; rfl
theorem shr_odd (C V : Nat) : (((C : Int) / 2 ^ V).tmod 2 == 1) = C.testBit V := by
  rw [shr_nat, Nat.testBit_eq_decide_div_mod_eq]
  generalize C / 2 ^ V = q
  rw [Int.tmod_eq_emod_of_nonneg (by omega), Bool.eq_iff_iff, beq_iff_eq, decide_eq_true_eq]
  omega
theorem shr_even (C V : Nat) : (((C : Int) / 2 ^ V).tmod 2 == 0) = !C.testBit V := by
  rw [shr_nat, Nat.testBit_eq_decide_div_mod_eq]
  generalize C / 2 ^ V = q
  rw [Int.tmod_eq_emod_of_nonneg (by omega), Bool.eq_iff_iff, beq_iff_eq, Bool.not_eq_true', decide_eq_false_iff_not]
  omega
theorem shr_and (C V : Nat) (h : C < 9223372036854775808) : bits .and .i64 ((C : Int) / 2 ^ V) 1 = if C.testBit V then 1 else 0 := by
  have hd : C / 2 ^ V ≤ C := Nat.div_le_self _ _
  rw [shr_nat, Nat.testBit_eq_decide_div_mod_eq]
  generalize C / 2 ^ V = q at *
  rw [i64_and_one _ (by omega) (by omega)]
  split <;> rename_i hh <;> simp at hh <;> omega
end Go.Proofs.Ytdgminjbgjbamaa

namespace Go.Proofs.Ytdgminjbgjbamaa
namespace Two
/-! Prime implicants and covers, plainly. -/
def cand (t n : Nat) (k : Nat × Nat) : Bool := fine k && within k t n
/-- One cube more, unless a more general one is there. -/
def pstep (t n : Nat) (out : List (Nat × Nat)) (k : Nat × Nat) : List (Nat × Nat) := if cand t n k && !out.any (fun b => gen k b) then out ++ [k] else out
/-- One implicant more. -/
def istep (t n : Nat) (out : List (Nat × Nat)) (k : Nat × Nat) : List (Nat × Nat) := if cand t n k then out ++ [k] else out
section
variable (f : List (Nat × Nat) → Nat × Nat → List (Nat × Nat))
def rowF (out : List (Nat × Nat)) (c : Nat) : Nat → List (Nat × Nat)
  | 0 => out
  | v + 1 => f (rowF out c v) (c, v)
def tabF (m : Nat) : Nat → List (Nat × Nat)
  | 0 => []
  | c + 1 => rowF f (tabF m c) c m
def rowP (c m : Nat) : List (Nat × Nat) := (List.range m).map fun v => (c, v)
def pairsF (m : Nat) : Nat → List (Nat × Nat)
  | 0 => []
  | c + 1 => pairsF m c ++ rowP c m
theorem rowF_fold (out : List (Nat × Nat)) (c : Nat) : ∀ v, rowF f out c v = (rowP c v).foldl f out
  | 0 => rfl
  | v + 1 => by rw [rowF, rowF_fold out c v, rowP, rowP, List.range_succ, List.map_append, List.foldl_append]; rfl
theorem tabF_fold (m : Nat) : ∀ c, tabF f m c = (pairsF m c).foldl f []
  | 0 => rfl
  | c + 1 => by rw [tabF, rowF_fold, tabF_fold m c, pairsF, List.foldl_append]
end
theorem mem_pairsF {m : Nat} {k : Nat × Nat} : ∀ {c : Nat}, k ∈ pairsF m c ↔ k.1 < c ∧ k.2 < m
  | 0 => by simp [pairsF]
  | c + 1 => by
    rw [pairsF, List.mem_append, mem_pairsF, rowP, List.mem_map]
    constructor
    · rintro (⟨h1, h2⟩ | ⟨v, hv, rfl⟩)
      · exact ⟨by omega, h2⟩
      · exact ⟨by simp, List.mem_range.1 hv⟩
    · rintro ⟨h1, h2⟩
      rcases Nat.lt_or_ge k.1 c with h | h
      · exact .inl ⟨h, h2⟩
      · refine .inr ⟨k.2, List.mem_range.2 h2, ?_⟩
        exact Prod.ext (by simp; omega) rfl
theorem pairwise_pairsF (m : Nat) : ∀ c, (pairsF m c).Pairwise fun a b => a ≠ b ∧ a.1 ≤ b.1
  | 0 => by simp [pairsF]
  | c + 1 => by
    rw [pairsF, List.pairwise_append]
    refine ⟨pairwise_pairsF m c, ?_, fun a ha b hb => ?_⟩
    · rw [rowP, List.pairwise_map]
      refine (List.nodup_range (n := m)).imp ?_
      intro a b h
      exact ⟨fun e => h (congrArg Prod.snd e), Nat.le_refl _⟩
    · have h1 := (mem_pairsF.1 ha).1
      rw [rowP, List.mem_map] at hb
      obtain ⟨v, _, rfl⟩ := hb
      exact ⟨fun e => by rw [e] at h1; simp at h1, by simp; omega⟩
/-- All implicants, in order. -/
def implicants (t n : Nat) : List (Nat × Nat) := (pairsF (2 ^ n) (2 ^ n)).filter (cand t n)
theorem istep_filter (t n : Nat) : ∀ (l out : List (Nat × Nat)), l.foldl (istep t n) out = out ++ l.filter (cand t n)
  | [], out => by simp
  | k :: l, out => by
    rw [List.foldl_cons, istep_filter t n l, istep, List.filter_cons]
    split <;> simp
theorem implicants_eq (t n : Nat) : tabF (istep t n) (2 ^ n) (2 ^ n) = implicants t n := by
  rw [tabF_fold, istep_filter]; rfl
/-- No other implicant is more general. -/
def prime (t n : Nat) (a : Nat × Nat) : Bool := (implicants t n).all fun b => a == b || !gen a b
/-- The prime implicants, in order. -/
def primes (t n : Nat) : List (Nat × Nat) := (implicants t n).filter (prime t n)
theorem pstep_filter (t n : Nat) : ∀ (l out : List (Nat × Nat)), l.foldl (pstep t n) out = (l.filter (cand t n)).foldl (fun out k => if !out.any (fun b => gen k b) then out ++ [k] else out) out
  | [], out => rfl
  | k :: l, out => by
    rw [List.foldl_cons, List.filter_cons, pstep]
    cases hc : cand t n k
    · simp only [Bool.false_and, Bool.false_eq_true, if_false]
      exact pstep_filter t n l out
    · simp only [Bool.true_and, if_true, List.foldl_cons]
      exact pstep_filter t n l _
theorem mem_implicants {t n : Nat} {k : Nat × Nat} : k ∈ implicants t n ↔ k.1 < 2 ^ n ∧ k.2 < 2 ^ n ∧ fine k = true ∧ within k t n = true := by
  rw [implicants, List.mem_filter, mem_pairsF, cand, Bool.and_eq_true]
  constructor
  · rintro ⟨⟨h1, h2⟩, h3, h4⟩; exact ⟨h1, h2, h3, h4⟩
  · rintro ⟨h1, h2, h3, h4⟩; exact ⟨⟨h1, h2⟩, h3, h4⟩
theorem pairwise_implicants (t n : Nat) : (implicants t n).Pairwise fun a b => a ≠ b ∧ a.1 ≤ b.1 := (pairwise_pairsF _ _).sublist List.filter_sublist
theorem prime_iff {t n : Nat} {a : Nat × Nat} : prime t n a = true ↔ ∀ b ∈ implicants t n, gen a b = true → a = b := by
  rw [prime, List.all_eq_true]
  constructor
  · intro h b hb hg
    have := h b hb
    rw [hg] at this
    simpa using this
  · intro h b hb
    cases hg : gen a b
    · simp
    · simp [h b hb hg]
/-- Below every implicant lies a prime one. -/
theorem exists_prime {t n : Nat} : ∀ (m : Nat) (k : Nat × Nat), k.1 ≤ m → k ∈ implicants t n → ∃ b ∈ implicants t n, prime t n b = true ∧ gen k b = true
  | m, k, hm, hk => by
    by_cases hp : prime t n k = true
    · exact ⟨k, hk, hp, gen_refl (mem_implicants.1 hk).2.2.1⟩
    · have : ∃ b ∈ implicants t n, gen k b = true ∧ k ≠ b := by
        refine Classical.byContradiction fun hn => hp (prime_iff.2 fun b hb hg => Classical.byContradiction fun hne => hn ⟨b, hb, hg, hne⟩)
      obtain ⟨b, hb, hg, hne⟩ := this
      have hlt : b.1 < k.1 := by
        have h1 := gen_le hg
        rcases Nat.lt_or_ge b.1 k.1 with h | h
        · exact h
        · exact absurd (gen_eq (mem_implicants.1 hk).2.2.1 hg (by omega)) (fun e => hne e.symm)
      match m, hm with
      | 0, hm => omega
      | m + 1, hm =>
        obtain ⟨c, hc, hpc, hgc⟩ := exists_prime m b (by omega) hb
        exact ⟨c, hc, hpc, gen_trans hg hgc⟩
theorem fold_primes {t n : Nat} : ∀ (s p : List (Nat × Nat)), implicants t n = p ++ s → s.foldl (fun out k => if !out.any (fun b => gen k b) then out ++ [k] else out) (p.filter (prime t n)) = primes t n
  | [], p, h => by
    rw [List.foldl_nil, primes, h, List.append_nil]
  | k :: s, p, h => by
    have hpw := pairwise_implicants t n
    rw [h, List.pairwise_append] at hpw
    obtain ⟨_, hks, hpk⟩ := hpw
    have hkm : k ∈ implicants t n := by rw [h]; simp
    have key : (!(p.filter (prime t n)).any (fun b => gen k b)) = prime t n k := by
      cases hp : prime t n k
      · -- a prime one lies before k
        have hne : ∃ b ∈ implicants t n, gen k b = true ∧ k ≠ b := by
          refine Classical.byContradiction fun hn => ?_
          have : prime t n k = true := prime_iff.2 fun b hb hg => Classical.byContradiction fun hne => hn ⟨b, hb, hg, hne⟩
          rw [hp] at this
          cases this
        obtain ⟨b, hb, hg, hne⟩ := hne
        obtain ⟨c, hc, hpc, hgc⟩ := exists_prime b.1 b (Nat.le_refl _) hb
        have hkc := gen_trans hg hgc
        have hlt : c.1 < k.1 := by
          have h1 := gen_le hg
          have h2 := gen_le hgc
          rcases Nat.lt_or_ge c.1 k.1 with h | h
          · exact h
          · exact absurd (gen_eq (mem_implicants.1 hkm).2.2.1 hg (by omega)) (fun e => hne e.symm)
        have hcp : c ∈ p := by
          rw [h, List.mem_append] at hc
          rcases hc with hc | hc
          · exact hc
          · rcases List.mem_cons.1 hc with e | hc
            · subst e; omega
            · have := ((List.pairwise_cons.1 hks).1 c hc).2
              omega
        have : (p.filter (prime t n)).any (fun b => gen k b) = true := List.any_eq_true.2 ⟨c, List.mem_filter.2 ⟨hcp, hpc⟩, hkc⟩
        rw [this]; rfl
      · have : (p.filter (prime t n)).any (fun b => gen k b) = false := by
          rw [List.any_eq_false]
          intro b hb hg
          obtain ⟨hbp, _⟩ := List.mem_filter.1 hb
          have e := prime_iff.1 hp b (by rw [h]; exact List.mem_append_left _ hbp) hg
          exact (hpk b hbp k (by simp)).1 e.symm
        rw [this]; rfl
    rw [List.foldl_cons, key]
    have h' : implicants t n = (p ++ [k]) ++ s := by rw [h]; simp
    have ih := fold_primes s (p ++ [k]) h'
    rw [List.filter_append] at ih
    cases hp : prime t n k
    · rw [List.filter_cons_of_neg (by rw [hp]; simp)] at ih
      simpa using ih
    · rw [List.filter_cons_of_pos (by rw [hp])] at ih
      simpa using ih
theorem primes_eq (t n : Nat) : tabF (pstep t n) (2 ^ n) (2 ^ n) = primes t n := by
  rw [tabF_fold, pstep_filter]
  exact fold_primes (implicants t n) [] rfl
/-! The reference's way, by places. -/
def primeAt (L : List (Nat × Nat)) (i : Nat) : Nat → Bool
  | 0 => true
  | j + 1 => primeAt L i j && (i == j || !gen (L.getD i (0, 0)) (L.getD j (0, 0)))
def outAt (L : List (Nat × Nat)) : Nat → List (Nat × Nat)
  | 0 => []
  | i + 1 => if primeAt L i L.length then outAt L i ++ [L.getD i (0, 0)] else outAt L i
theorem primeAt_iff (L : List (Nat × Nat)) (i : Nat) : ∀ m, primeAt L i m = true ↔ ∀ j, j < m → i = j ∨ gen (L.getD i (0, 0)) (L.getD j (0, 0)) = false
  | 0 => by simp [primeAt]
  | m + 1 => by
    rw [primeAt, Bool.and_eq_true, primeAt_iff L i m]
    constructor
    · rintro ⟨h1, h2⟩ j hj
      by_cases e : j = m
      · subst e; simpa using h2
      · exact h1 j (by omega)
    · intro h
      exact ⟨fun j hj => h j (by omega), by have := h m (by omega); simpa using this⟩
theorem primeAt_eq {t n : Nat} {i : Nat} (hi : i < (implicants t n).length) : primeAt (implicants t n) i (implicants t n).length = prime t n ((implicants t n).getD i (0, 0)) := by
  have hpw := pairwise_implicants t n
  generalize hL : implicants t n = L at *
  have hget : ∀ j, j < L.length → L.getD j (0, 0) = L[j]! := fun j hj => by simp [hj]
  rw [Bool.eq_iff_iff, primeAt_iff, prime_iff, hL]
  constructor
  · intro h b hb hg
    obtain ⟨j, hj, rfl⟩ := List.mem_iff_getElem.1 hb
    rcases h j hj with rfl | h
    · simp [hj]
    · rw [show L.getD j (0, 0) = L[j] from by simp [hj]] at h
      rw [h] at hg
      cases hg
  · intro h j hj
    cases hg : gen (L.getD i (0, 0)) (L.getD j (0, 0))
    · exact .inr rfl
    · left
      have e := h _ (by rw [show L.getD j (0, 0) = L[j] from by simp [hj]]; exact List.getElem_mem hj) hg
      rw [show L.getD i (0, 0) = L[i] from by simp [hi], show L.getD j (0, 0) = L[j] from by simp [hj]] at e
      rcases Nat.lt_trichotomy i j with h1 | h1 | h1
      · exact absurd e (List.pairwise_iff_getElem.1 hpw i j hi hj h1).1
      · exact h1
      · exact absurd e.symm (List.pairwise_iff_getElem.1 hpw j i hj hi h1).1
theorem outAt_eq (t n : Nat) : ∀ i, i ≤ (implicants t n).length → outAt (implicants t n) i = ((implicants t n).take i).filter (prime t n)
  | 0, _ => by simp [outAt]
  | i + 1, h => by
    have hi : i < (implicants t n).length := by omega
    rw [outAt, outAt_eq t n i (by omega), primeAt_eq hi, List.take_add_one, List.filter_append]
    have e : (implicants t n)[i]? = some ((implicants t n).getD i (0, 0)) := by simp [hi]
    rw [e]
    generalize (implicants t n).getD i (0, 0) = k
    cases hp : prime t n k
    · simp [hp]
    · simp [hp]
theorem outAt_primes (t n : Nat) : outAt (implicants t n) (implicants t n).length = primes t n := by
  rw [outAt_eq t n _ (Nat.le_refl _), List.take_length]; rfl
theorem pairsF_fine_length : ∀ n, n ≤ 4 → ((pairsF (2 ^ n) (2 ^ n)).filter fine).length ≤ 81 := by decide +kernel
theorem implicants_length {t n : Nat} (h : n ≤ 4) : (implicants t n).length ≤ 81 := by
  refine Nat.le_trans ?_ (pairsF_fine_length n h)
  unfold implicants
  rw [show (pairsF (2 ^ n) (2 ^ n)).filter (cand t n) = ((pairsF (2 ^ n) (2 ^ n)).filter fine).filter (fun k => within k t n) from by
    rw [List.filter_filter]
    congr 1
    funext k
    rw [cand, Bool.and_comm]]
  exact List.length_filter_le _ _
theorem primes_length {t n : Nat} (h : n ≤ 4) : (primes t n).length ≤ 81 := Nat.le_trans (List.length_filter_le _ _) (implicants_length h)
theorem mem_primes {t n : Nat} {k : Nat × Nat} : k ∈ primes t n ↔ k ∈ implicants t n ∧ prime t n k = true := by rw [primes, List.mem_filter]
end Two
end Go.Proofs.Ytdgminjbgjbamaa

namespace Go.Proofs.Ytdgminjbgjbamaa
namespace Two
/-- Every assignment of the table has a cube. -/
def covers (l : List (Nat × Nat)) (t n : Nat) : Bool := (List.range (2 ^ n)).all fun x => !t.testBit x || l.any (has · x)
theorem covers_iff {l : List (Nat × Nat)} {t n : Nat} : covers l t n = true ↔ ∀ x, x < 2 ^ n → t.testBit x = true → l.any (has · x) = true := by
  rw [covers, List.all_eq_true]
  constructor
  · intro h x hx ht
    have := h x (List.mem_range.2 hx)
    rw [ht] at this
    simpa using this
  · intro h x hx
    cases ht : t.testBit x
    · simp
    · simp [h x (List.mem_range.1 hx) ht]
def allWithin (l : List (Nat × Nat)) (t n : Nat) : Prop := ∀ k ∈ l, within k t n = true
/-- Of implicants: the table is theirs exactly if they cover. -/
theorem table_covers {l : List (Nat × Nat)} {t n : Nat} (ht : t < 2 ^ 2 ^ n) (hw : allWithin l t n) : (tableOf l n = t) ↔ covers l t n = true := by
  rw [covers_iff]
  constructor
  · intro h x hx htx
    rw [← h, tableOf_bit] at htx
    exact (Bool.and_eq_true _ _ ▸ htx).2
  · intro h
    refine table_ext (tableOf_lt l n) ht fun x hx => ?_
    rw [tableOf_bit, decide_eq_true hx, Bool.true_and]
    cases htx : t.testBit x
    · rw [List.any_eq_false]
      intro k hk hh
      have := (within_iff k t n).1 (hw k hk) x hx hh
      rw [htx] at this
      cases this
    · exact h x hx htx
/-- From the last to the first, what is not needed is left out. -/
def minF (t n : Nat) (l : List (Nat × Nat)) : Nat → List (Nat × Nat)
  | 0 => l
  | i + 1 => minF t n (if covers (l.eraseIdx i) t n then l.eraseIdx i else l) i
def minimal (t n : Nat) : List (Nat × Nat) := minF t n (primes t n) (primes t n).length
theorem covers_mono {l l' : List (Nat × Nat)} {t n : Nat} (h : ∀ k ∈ l, k ∈ l') (hc : covers l t n = true) : covers l' t n = true := by
  rw [covers_iff] at *
  intro x hx ht
  obtain ⟨k, hk, hh⟩ := List.any_eq_true.1 (hc x hx ht)
  exact List.any_eq_true.2 ⟨k, h k hk, hh⟩
theorem minF_sub {t n : Nat} : ∀ (i : Nat) (l : List (Nat × Nat)), ∀ k ∈ minF t n l i, k ∈ l
  | 0, l, k, h => h
  | i + 1, l, k, h => by
    rw [minF] at h
    have := minF_sub i _ k h
    split at this
    · exact List.mem_of_mem_eraseIdx this
    · exact this
theorem minF_covers {t n : Nat} : ∀ (i : Nat) (l : List (Nat × Nat)), covers l t n = true → covers (minF t n l i) t n = true
  | 0, l, h => h
  | i + 1, l, h => by
    rw [minF]
    refine minF_covers i _ ?_
    split
    · assumption
    · exact h
theorem erase_erase {α : Type} (l : List α) {i j : Nat} (h : i ≤ j) : (l.eraseIdx i).eraseIdx j = (l.eraseIdx (j + 1)).eraseIdx i := by
  induction l generalizing i j with
  | nil => simp
  | cons a l ih =>
    cases i with
    | zero => rfl
    | succ i =>
      cases j with
      | zero => omega
      | succ j => simp [List.eraseIdx_cons_succ, ih (show i ≤ j by omega)]
theorem erase_ge {α : Type} (l : List α) {i : Nat} (h : l.length ≤ i) : l.eraseIdx i = l := List.eraseIdx_of_length_le h
/-- Nothing that is left can be left out. -/
theorem minF_need {t n : Nat} : ∀ (i : Nat) (l : List (Nat × Nat)), (∀ j, i ≤ j → j < l.length → covers (l.eraseIdx j) t n = false) → ∀ j, j < (minF t n l i).length → covers ((minF t n l i).eraseIdx j) t n = false
  | 0, l, h, j, hj => h j (Nat.zero_le _) hj
  | i + 1, l, h, j, hj => by
    rw [minF] at hj ⊢
    revert hj
    cases hc : covers (l.eraseIdx i) t n
    · simp only [Bool.false_eq_true, if_false]
      intro hj
      refine minF_need i l (fun k hk hkl => ?_) j hj
      rcases Nat.lt_or_ge k (i + 1) with hlt | hge
      · obtain rfl : k = i := by omega
        exact hc
      · exact h k hge hkl
    · simp only [if_true]
      intro hj
      refine minF_need i (l.eraseIdx i) (fun k hk hkl => ?_) j hj
      rw [erase_erase l hk]
      have hl : k + 1 < l.length := by
        rcases Nat.lt_or_ge i l.length with h1 | h1
        · rw [List.length_eraseIdx_of_lt h1] at hkl; omega
        · rw [erase_ge l h1] at hkl; omega
      have := h (k + 1) (by omega) hl
      cases hcc : covers ((l.eraseIdx (k + 1)).eraseIdx i) t n
      · rfl
      · rw [covers_mono (fun x hx => List.mem_of_mem_eraseIdx hx) hcc] at this
        cases this
theorem minF_length {t n : Nat} : ∀ (i : Nat) (l : List (Nat × Nat)), (minF t n l i).length ≤ l.length
  | 0, l => Nat.le_refl _
  | i + 1, l => by
    rw [minF]
    refine Nat.le_trans (minF_length i _) ?_
    split
    · exact List.length_eraseIdx_le _ _
    · exact Nat.le_refl _
theorem primes_within (t n : Nat) : allWithin (primes t n) t n := fun _ hk => (mem_implicants.1 (mem_primes.1 hk).1).2.2.2
theorem fine_minterm {m x : Nat} (hx : x < 2 ^ m) : fine (2 ^ m - 1, x) = true := by
  rw [fine_iff]
  intro i hi
  simp only at hi ⊢
  rw [Nat.testBit_two_pow_sub_one]
  refine decide_eq_true ?_
  rcases Nat.lt_or_ge i m with h | h
  · exact h
  · rw [Nat.testBit_lt_two_pow (Nat.lt_of_lt_of_le hx (Nat.pow_le_pow_right (by decide) h))] at hi
    cases hi
theorem has_minterm {m x y : Nat} (hx : x < 2 ^ m) (hy : y < 2 ^ m) : has (2 ^ m - 1, x) y = decide (y = x) := by
  unfold has
  simp only
  rw [Nat.and_two_pow_sub_one_eq_mod, Nat.mod_eq_of_lt hy, Bool.eq_iff_iff, beq_iff_eq, decide_eq_true_eq]
/-- The primes cover the table. -/
theorem primes_cover {t n : Nat} (hn : n ≤ 4) : covers (primes t n) t n = true := by
  rw [covers_iff]
  intro x hx ht
  -- the minterm of x in all variables, of which there are n
  have hk : (2 ^ n - 1, x) ∈ implicants t n := by
    refine mem_implicants.2 ⟨by have := Nat.two_pow_pos n; simp only; omega, hx, fine_minterm hx, (within_iff _ _ _).2 fun y hy hh => ?_⟩
    rw [has_minterm hx hy, decide_eq_true_eq] at hh
    rw [hh]; exact ht
  obtain ⟨b, hb, hp, hg⟩ := exists_prime _ _ (Nat.le_refl _) hk
  refine List.any_eq_true.2 ⟨b, mem_primes.2 ⟨hb, hp⟩, gen_has hg ?_⟩
  rw [has_minterm hx hx]; simp
theorem primes_table {t n : Nat} (hn : n ≤ 4) (ht : t < 2 ^ 2 ^ n) : tableOf (primes t n) n = t := (table_covers ht (primes_within t n)).2 (primes_cover hn)
end Two
end Go.Proofs.Ytdgminjbgjbamaa

namespace Go.Proofs.Ytdgminjbgjbamaa
open Go.RowKit
theorem pow4 {N : Nat} (h : N ≤ 4) : ∃ M : Nat, Hid (2 ^ N = M) ∧ (2 : Int) ^ N = (M : Int) ∧ M ≤ 16 ∧ 1 ≤ M :=
  ⟨2 ^ N, Lib.hid rfl, two_pow N, Nat.pow_le_pow_right (show 0 < 2 by decide) h, Nat.one_le_two_pow⟩
def fitsT (t n : Int) : Bool := decide (0 ≤ n ∧ n ≤ 4 ∧ 0 ≤ t ∧ t < 2 ^ 2 ^ n.toNat)
theorem fitsT_nat {t n : Int} (h : fitsT t n = true) : ∃ T N : Nat, t = T ∧ n = N ∧ N ≤ 4 ∧ T < 2 ^ 2 ^ N ∧ T < 65536 := by
  unfold fitsT at h
  rw [decide_eq_true_eq] at h
  obtain ⟨h1, h2, h3, h4⟩ := h
  obtain ⟨N, rfl⟩ := Int.eq_ofNat_of_zero_le h1
  obtain ⟨T, rfl⟩ := Int.eq_ofNat_of_zero_le h3
  have hN : N ≤ 4 := by omega
  have h5 : T < 2 ^ 2 ^ N := by
    have := two_pow (2 ^ N)
    rw [show ((N : Int).toNat) = N from rfl, this] at h4
    omega
  have h6 : 2 ^ 2 ^ N ≤ 65536 := Nat.pow_le_pow_right (show 0 < 2 by decide) (Nat.pow_le_pow_right (show 0 < 2 by decide) hN)
  exact ⟨T, N, rfl, rfl, hN, h5, by omega⟩
theorem tableFits_any (t n : Int) (w : World) :
    Calls Try.prog 99 #[.int .i64 t, .int .i64 n] w fun e w' => e = .returned (.bool (fitsT t n)) ∧ w = w' := by
  by_cases h : 0 ≤ n ∧ n ≤ 4
  · have hn : n = 0 ∨ n = 1 ∨ n = 2 ∨ n = 3 ∨ n = 4 := by omega
    rcases hn with rfl | rfl | rfl | rfl | rfl
    all_goals
      go_enter Try.func99, Try.ntmps99
      go_wp2
      all_goals
        go_ret
        refine ⟨ret_bool ?_, rfl⟩
        simp [fitsT]
        try omega
  · have hf : fitsT t n = false := decide_eq_false (by omega)
    rw [hf]
    have hn : n < 0 ∨ (0 ≤ n ∧ 4 < n) := by omega
    clear hf h
    rcases hn with g | ⟨g0, g1⟩
    all_goals
      go_enter Try.func99, Try.ntmps99
      go_wp2
      go_ret
      exact ⟨rfl, rfl⟩
theorem implies_any (C V T N : Nat) (w : World) (hN : N ≤ 4) (hC : C < 65536) (hT : T < 65536) :
    Calls Try.prog 100 #[.agg #[.int .i64 C, .int .i64 V], .int .i64 T, .int .i64 N] w
      fun e w' => e = .returned (.bool (Two.within (C, V) T N)) ∧ Below w.heap.size w w' := by
  obtain ⟨M, hM, e, hp, hp0⟩ := pow4 hN
  have hiff := Lib.hid (Two.within_iff (C, V) T N)
  generalize Two.within (C, V) T N = res at hiff ⊢
  have b0 : Below w.heap.size w (w.alloc (.cells #[.int .i64 C, .int .i64 V] 53)) := (Below.refl _ _).alloc (Nat.le_refl _) _
  have B0 := Lib.hid b0
  clear b0
  go_enter Try.func100, Try.ntmps100
  go_wp2_with fail
  have c0 : (w.alloc (.cells #[.int .i64 C, .int .i64 V] 53)).cell? ⟨w.heap.size, 0, none⟩ = some (.int .i64 C) := World.cell?_alloc_new _ _ _ 0
  have c1 : (w.alloc (.cells #[.int .i64 C, .int .i64 V] 53)).cell? ⟨w.heap.size, 1, none⟩ = some (.int .i64 V) := World.cell?_alloc_new _ _ _ 1
  have cz : w.heap.size < (w.alloc (.cells #[.int .i64 C, .int .i64 V] 53)).heap.size := by simp
  generalize w.alloc (.cells #[.int .i64 C, .int .i64 V] 53) = W1 at *
  go_loopw [10] (fun x wr => ∃ X : Nat, X ≤ M ∧ x = .int .i64 X ∧ Hid (∀ x, x < X → Two.has (C, V) x = true → T.testBit x = true) ∧ Below W1.heap.size W1 wr) (fun x _ => M - (intOf x).toNat)
  case atStart => exact ⟨0, by omega, rfl, Lib.hid (fun _ h => by omega), Below.refl _ _⟩
  case round =>
    obtain ⟨X, hX, rfl, hall, hb⟩ := hrel
    have q0 := (hb.cell (p := ⟨w.heap.size, 0, none⟩) cz).trans c0
    have q1 := (hb.cell (p := ⟨w.heap.size, 1, none⟩) cz).trans c1
    have Hb := Lib.hid hb
    have hz := B0.out.size
    clear hb c0 c1
    by_cases hlt : X < M
    · have hh := hasI_nat C V X (by omega) (by omega)
      have hs := shr_and T X (by omega)
      have Hh := Lib.hid hh
      clear hh
      cases hhas : Two.has (C, V) X
      · have Hc := Lib.hid hhas
        clear hhas hs
        go_wp2_with (go_at_call 103; refine (implHas_any _ _ _ _).mono ?_; rintro e w' ⟨rfl, hb'⟩; rw [Hh.out, Hc.out])
        go_roundw
        case rel => exact ⟨X + 1, by omega, by go_num, Lib.hid (fun x hx hx1 => by
          by_cases e : x = X
          · subst e; rw [Hc.out] at hx1; cases hx1
          · exact hall.out x (by omega) hx1), Hb.out.trans (hb'.mono Hb.out.size)⟩
        case measure => simp [intOf]; omega
      · have Hc := Lib.hid hhas
        clear hhas
        cases hbit : T.testBit X
        · rw [hbit, if_neg (by simp)] at hs
          have Hbit := Lib.hid hbit
          have hres : res = false := by
            cases res
            · rfl
            · have := hiff.out.1 rfl X (by rw [hM.out]; exact hlt) Hc.out
              rw [Hbit.out] at this; cases this
          subst hres
          clear hbit
          go_wp2_with (go_at_call 103; refine (implHas_any _ _ _ _).mono ?_; rintro e w' ⟨rfl, hb'⟩; rw [Hh.out, Hc.out])
          go_ret
          exact ⟨rfl, B0.out.trans ((Hb.out.trans (hb'.mono Hb.out.size)).mono hz)⟩
        · rw [hbit, if_pos rfl] at hs
          have Hbit := Lib.hid hbit
          clear hbit
          go_wp2_with (go_at_call 103; refine (implHas_any _ _ _ _).mono ?_; rintro e w' ⟨rfl, hb'⟩; rw [Hh.out, Hc.out])
          go_roundw
          case rel => exact ⟨X + 1, by omega, by go_num, Lib.hid (fun x hx hx1 => by
            by_cases e : x = X
            · subst e; exact Hbit.out
            · exact hall.out x (by omega) hx1), Hb.out.trans (hb'.mono Hb.out.size)⟩
          case measure => simp [intOf]; omega
    · obtain rfl : X = M := by omega
      have hres : res = true := hiff.out.2 fun x hx => hall.out x (by rw [← hM.out]; exact hx)
      subst hres
      go_wp2
      go_ret
      exact ⟨rfl, B0.out.trans (Hb.out.mono hz)⟩
end Go.Proofs.Ytdgminjbgjbamaa

namespace Go.Proofs.Ytdgminjbgjbamaa
open Go.RowKit
theorem andNot_nat (a b : Nat) (ha : a < 9223372036854775808) (hb : b < 9223372036854775808) : (bits .andNot .i64 (a : Int) (b : Int) == 0) = (a &&& b == a) := by
  rw [Bool.eq_iff_iff, beq_iff_eq, beq_iff_eq, andNot_iff (by omega) (by omega), i64_and_nat a b ha hb]
  exact ⟨fun h => Int.ofNat.inj h, fun h => by rw [h]⟩
theorem and_eq_nat (a b c : Nat) (ha : a < 9223372036854775808) (hb : b < 9223372036854775808) : (bits .and .i64 (a : Int) (b : Int) == (c : Int)) = (a &&& b == c) := by
  rw [Bool.eq_iff_iff, beq_iff_eq, beq_iff_eq, i64_and_nat a b ha hb]
  exact ⟨fun h => Int.ofNat.inj h, fun h => by rw [h]⟩
theorem gen_def (c v : Nat) (k : Nat × Nat) : Two.gen (c, v) k = ((k.1 &&& c == k.1) && (v &&& k.1 == k.2)) := by
  unfold Two.gen
  simp only
  rw [Nat.and_comm c k.1]
theorem closure_any (k0 k1 c v g1 g2 : Nat) (w : World) (h1 : w.cell? ⟨g1, 0, none⟩ = some (.int .i64 c)) (h2 : w.cell? ⟨g2, 0, none⟩ = some (.int .i64 v)) (hg1 : g1 < w.heap.size) (hg2 : g2 < w.heap.size)
    (b0 : k0 < 65536) (b2 : c < 65536) (b3 : v < 65536) :
    Calls Try.prog 102 #[.agg #[.int .i64 k0, .int .i64 k1], .pointer (some ⟨g1, 0, none⟩), .pointer (some ⟨g2, 0, none⟩)] w
      fun e w' => e = .returned (.bool (Two.gen (c, v) (k0, k1))) ∧ Below w.heap.size w w' := by
  have e1 := andNot_nat k0 c (by omega) (by omega)
  have e2 := and_eq_nat v k0 k1 (by omega) (by omega)
  rw [gen_def]
  simp only
  cases hc : (k0 &&& c == k0)
  · rw [hc] at e1
    clear hc e2
    go_enter Try.func102, Try.ntmps102
    go_wp2
    go_ret
    exact ⟨rfl, (Below.refl _ _).alloc (Nat.le_refl _) _⟩
  · rw [hc] at e1
    clear hc
    go_enter Try.func102, Try.ntmps102
    go_wp2
    go_ret
    exact ⟨ret_bool (by simp [e2]), (Below.refl _ _).alloc (Nat.le_refl _) _⟩
def CubesN (w : World) (v : Value) (ks : List (Nat × Nat)) : Prop := CubesAt w v (ks.map intK)
theorem cubesN_open {w wr : World} {A : Option Addr} {n c : Nat} {ks : List (Nat × Nat)} (h : CubesN w (.slice A n c) ks) (hb : Below w.heap.size w wr) {i : Nat} (hn : n = ks.length) (hi : i < ks.length) :
    ∃ (b o : Nat) (k : Nat × Nat), A = some ⟨b, o, none⟩ ∧ b < w.heap.size ∧ Hid (ks[i]? = some k) ∧ wr.cell? ⟨b, o + i * 2, none⟩ = some (.int .i64 k.1) ∧ wr.cell? ⟨b, o + i * 2 + 1, none⟩ = some (.int .i64 k.2) := by
  have h' : Row w 2 (.slice A n c) n (cubes (ks.map intK)) := by
    have := h
    unfold CubesN CubesAt at this
    rw [List.length_map] at this
    rw [hn] at this ⊢
    exact this
  obtain ⟨b, o, k, hA, hbl, hk, h1, h2⟩ := cubes_open h' hb (by rw [hn, List.length_map]) (i := i) (by rw [List.length_map]; exact hi)
  have hk' := hk.out
  rw [List.getElem?_map] at hk'
  cases hki : ks[i]? with
  | none => rw [hki] at hk'; cases hk'
  | some k' =>
    rw [hki] at hk'
    obtain rfl := Option.some.inj hk'
    exact ⟨b, o, k', hA, hbl, Lib.hid rfl, h1, h2⟩
/-- What a search comes to. -/
def Found (l : List (Nat × Nat)) (p : Nat × Nat → Bool) (w : World) (e : Ending) (w' : World) : Prop :=
  ∃ r : Int, e = .returned (.int .i64 r) ∧ (decide (0 ≤ r) = l.any p) ∧ Below w.heap.size w w'
theorem any_hit {l : List (Nat × Nat)} {p : Nat × Nat → Bool} {i : Nat} {k : Nat × Nat} (h : l[i]? = some k) (hp : p k = true) : l.any p = true := List.any_eq_true.2 ⟨k, List.mem_of_getElem? h, hp⟩
theorem any_none {l : List (Nat × Nat)} {p : Nat × Nat → Bool} (h : ∀ j, j < l.length → ∀ k, l[j]? = some k → p k = false) : l.any p = false := by
  rw [List.any_eq_false]
  intro k hk
  obtain ⟨j, hj, rfl⟩ := List.mem_iff_getElem.1 hk
  rw [h j hj _ (List.getElem?_eq_getElem hj)]
  simp
theorem indexFunc_any (x : Value) (l : List (Nat × Nat)) (c v g1 g2 : Nat) (w : World) (h : CubesN w x l) (h1 : w.cell? ⟨g1, 0, none⟩ = some (.int .i64 c)) (h2 : w.cell? ⟨g2, 0, none⟩ = some (.int .i64 v)) (hg1 : g1 < w.heap.size) (hg2 : g2 < w.heap.size)
    (hl : ∀ k ∈ l, k.1 < 65536) (b2 : c < 65536) (b3 : v < 65536) :
    Calls Try.prog 109 #[x, .func (.func 102) #[] #[.pointer (some ⟨g1, 0, none⟩), .pointer (some ⟨g2, 0, none⟩)]] w
      (Found l (fun b => Two.gen (c, v) b) w) := by
  obtain ⟨A, cp, hv, hc, hcm⟩ := Row.shape h
  subst hv
  rw [List.length_map] at hc h ⊢
  unfold maxLen at hcm
  go_enter Try.func109, Try.ntmps109
  go_wp2_with fail
  go_loopw [8] (fun i wr => ∃ k : Nat, k ≤ l.length ∧ i = .int .i64 k ∧ Hid (∀ j, j < k → ∀ q, l[j]? = some q → Two.gen (c, v) q = false) ∧ Below w.heap.size w wr) (fun i _ => l.length - (intOf i).toNat)
  case atStart => exact ⟨0, Nat.zero_le _, rfl, Lib.hid (fun _ h => by omega), Below.refl _ _⟩
  case round =>
    obtain ⟨k, hk, rfl, hall, hb⟩ := hrel
    by_cases hlt : k < l.length
    · obtain ⟨b, o, q, rfl, hbl, hx, hs1, hs2⟩ := cubesN_open h hb rfl hlt
      have c1 := (hb.cell (p := ⟨g1, 0, none⟩) hg1).trans h1
      have c2 := (hb.cell (p := ⟨g2, 0, none⟩) hg2).trans h2
      have z := hb.size
      have Hb := Lib.hid hb
      have hq := hl _ (List.mem_of_getElem? hx.out)
      have z1 : g1 < wr.heap.size := by omega
      have z2 : g2 < wr.heap.size := by omega
      clear h hb hl h1 h2
      go_wp2_with fail
      refine (closure_any q.1 q.2 c v g1 g2 _ c1 c2 z1 z2 hq b2 b3).mono ?_
      rintro e w' ⟨rfl, hb'⟩
      cases hg : Two.gen (c, v) (q.1, q.2)
      · have Hg := Lib.hid hg
        clear hg
        go_wp2_with fail
        go_roundw
        case rel => exact ⟨k + 1, by omega, by go_num, Lib.hid (fun j hj q' hq' => by
          by_cases e : j = k
          · subst e; rw [hx.out] at hq'; obtain rfl := Option.some.inj hq'; exact Hg.out
          · exact hall.out j (by omega) q' hq'), Hb.out.trans (hb'.mono Hb.out.size)⟩
        case measure => simp [intOf]; omega
      · have Hg := Lib.hid hg
        clear hg
        go_wp2_with fail
        go_ret
        exact ⟨k, rfl, by rw [any_hit hx.out Hg.out]; exact decide_eq_true (by omega), Hb.out.trans (hb'.mono Hb.out.size)⟩
    · go_wp2
      go_ret
      exact ⟨-1, rfl, by rw [any_none fun j hj q hq => hall.out j (by omega) q hq]; rfl, hb⟩
theorem containsFunc_any (x : Value) (l : List (Nat × Nat)) (c v g1 g2 : Nat) (w : World) (h : CubesN w x l) (h1 : w.cell? ⟨g1, 0, none⟩ = some (.int .i64 c)) (h2 : w.cell? ⟨g2, 0, none⟩ = some (.int .i64 v)) (hg1 : g1 < w.heap.size) (hg2 : g2 < w.heap.size)
    (hl : ∀ k ∈ l, k.1 < 65536) (b2 : c < 65536) (b3 : v < 65536) :
    Calls Try.prog 101 #[x, .func (.func 102) #[] #[.pointer (some ⟨g1, 0, none⟩), .pointer (some ⟨g2, 0, none⟩)]] w
      fun e w' => e = .returned (.bool (l.any (fun b => Two.gen (c, v) b))) ∧ Below w.heap.size w w' := by
  go_enter Try.func101, Try.ntmps101
  go_wp2_with fail
  refine (indexFunc_any x l c v g1 g2 w h h1 h2 hg1 hg2 hl b2 b3).mono ?_
  rintro e w' ⟨r, rfl, hr, hb⟩
  have Hr := Lib.hid hr
  clear hr
  go_wp2_with fail
  go_ret
  exact ⟨ret_bool Hr.out, hb⟩
end Go.Proofs.Ytdgminjbgjbamaa

namespace Go.Proofs.Ytdgminjbgjbamaa
open Go.RowKit
/-! What laws do with slices of cubes. -/
theorem info_cube : (Try.prog.info? 53).map (fun i => (i.zero, i.size, i.bytes)) = some (some (.agg #[.int .i64 0, .int .i64 0]), 2, 16) := by kernel_rfl
end Go.Proofs.Ytdgminjbgjbamaa

namespace Go.Proofs.Ytdgminjbgjbamaa
open Go.RowKit
theorem append_cubes {w : World} {ops : Array Oper} {rest : List Oper} {o : Oper} {a : Act} {Q : Exit → Act → World → Prop} (hgd : o.guard = none) (s x : Operand)
    (ho : o.op = .call { callee := .builtin .append, args := #[s, x], argTypes := #[49, 49] })
    (base : Nat) (v : Value) (n : Nat) (xs : List Value) (hs : a.eval s = v) (hown : w.ownsRow base 53 2 v n xs) (sv : Value) (m : Nat) (news : List Value) (hx : a.eval x = sv) (hr : Row w 2 sv m news) (h1 : ∀ u ∈ news, u.oneCell' = true)
    (h63 : n + m ≤ 1000000) (hbase : base ≤ w.heap.size)
    (h : ∀ v' w', w'.ownsRow base 53 2 v' (n + m) (xs ++ news) → w.grownBy w' v.ownBlock → wpList Try.prog ops Q rest (a.put o.dst v') w') : wpList Try.prog ops Q (o :: rest) a w := by
  obtain ⟨i, hi, hz0, hz1, hz2⟩ := info_parts info_cube
  exact wpList_append_row hgd s x 49 ho base 53 i _ 2 16 Try.underlying49 hi hz0 hz1 hz2 rfl (by decide) v n xs hs hown sv m news hx hr h1 (by unfold maxLen; omega) (by omega) hbase h
theorem cubes_one (ks : List (Int × Int)) : ∀ u ∈ cubes ks, u.oneCell' = true := by
  intro u hu
  unfold cubes at hu
  obtain ⟨k, _, hk⟩ := List.mem_flatMap.1 hu
  simp at hk
  rcases hk with rfl | rfl <;> rfl
theorem own_neP {w : World} {base n size : Nat} {e t : TypeId} {v : Value} {xs : List Value} {g : Nat} {cs : Array Value} {fr : Nat × Nat} (h : w.ownsRow base e size v n xs) (hh : w.heap[g]? = some (.cells cs t fr)) (ht : t ≠ e) : v.ownBlock ≠ some g := by
  rcases h.2 with ⟨rfl, rfl⟩ | ⟨g', cap, cur, rfl, hb, hh', _⟩
  · simp [Value.ownBlock]
  · intro e'
    have : g' = g := by simpa [Value.ownBlock] using e'
    subst this
    rw [hh] at hh'
    injection hh' with hh'
    injection hh' with _ h2 _
    exact ht h2
theorem own_ge {w : World} {base n size : Nat} {e : TypeId} {v : Value} {xs : List Value} (h : w.ownsRow base e size v n xs) : ∀ k, v.ownBlock = some k → base ≤ k := fun k hk => (h.lt k hk).1
namespace Two
theorem pstep_length (t n : Nat) (out : List (Nat × Nat)) (k : Nat × Nat) : (pstep t n out k).length ≤ out.length + 1 := by
  unfold pstep
  split <;> simp
theorem rowF_length {f : List (Nat × Nat) → Nat × Nat → List (Nat × Nat)} (hf : ∀ out k, (f out k).length ≤ out.length + 1) (out : List (Nat × Nat)) (c : Nat) : ∀ v, (rowF f out c v).length ≤ out.length + v
  | 0 => Nat.le_refl _
  | v + 1 => by
    have h1 := hf (rowF f out c v) (c, v)
    have h2 := rowF_length hf out c v
    rw [rowF]
    omega
theorem tabF_length {f : List (Nat × Nat) → Nat × Nat → List (Nat × Nat)} (hf : ∀ out k, (f out k).length ≤ out.length + 1) (m : Nat) : ∀ c, (tabF f m c).length ≤ c * m
  | 0 => by simp [tabF]
  | c + 1 => by
    have h1 := rowF_length hf (tabF f m c) c m
    have h2 := tabF_length hf m c
    rw [tabF, Nat.add_mul]
    omega
theorem mem_pstep {t n : Nat} {out : List (Nat × Nat)} {k q : Nat × Nat} (h : q ∈ pstep t n out k) : q ∈ out ∨ q = k := by
  unfold pstep at h
  split at h
  · simpa using h
  · exact .inl h
theorem mem_rowF {f : List (Nat × Nat) → Nat × Nat → List (Nat × Nat)} (hf : ∀ out k q, q ∈ f out k → q ∈ out ∨ q = k) {out : List (Nat × Nat)} {c : Nat} {q : Nat × Nat} : ∀ {v}, q ∈ rowF f out c v → q ∈ out ∨ (q.1 = c ∧ q.2 < v)
  | 0, h => .inl h
  | v + 1, h => by
    rw [rowF] at h
    rcases hf _ _ _ h with h | rfl
    · rcases mem_rowF hf h with h | ⟨h1, h2⟩
      · exact .inl h
      · exact .inr ⟨h1, by omega⟩
    · exact .inr ⟨rfl, by simp⟩
theorem mem_tabF {f : List (Nat × Nat) → Nat × Nat → List (Nat × Nat)} (hf : ∀ out k q, q ∈ f out k → q ∈ out ∨ q = k) {m : Nat} {q : Nat × Nat} : ∀ {c}, q ∈ tabF f m c → q.1 < c ∧ q.2 < m
  | 0, h => by simp [tabF] at h
  | c + 1, h => by
    rw [tabF] at h
    rcases mem_rowF hf h with h | ⟨h1, h2⟩
    · have := mem_tabF hf h
      omega
    · omega
end Two
theorem cubesN_own {w : World} {b : Nat} {e : TypeId} {v : Value} {R : List (Nat × Nat)} (h : w.ownsRow b e 2 v R.length (cubes (R.map intK))) : CubesN w v R := by
  unfold CubesN CubesAt
  rw [List.length_map]
  exact Row.of_own h
/-- What Primes returns. -/
def primesI (t n : Int) : List (Nat × Nat) := if fitsT t n then Two.primes t.toNat n.toNat else []
def PrimesOut (t n : Int) (w : World) (e : Ending) (w' : World) : Prop :=
  ∃ v, e = .returned v ∧ w'.ownsRow w.heap.size 53 2 v (primesI t n).length (cubes ((primesI t n).map intK)) ∧ Below w.heap.size w w'
theorem implPrimes_any (t n : Int) (w : World) : Calls Try.prog 74 #[.int .i64 t, .int .i64 n] w (PrimesOut t n w) := by
  cases hf : fitsT t n
  · have hp : primesI t n = [] := by unfold primesI; rw [hf]; rfl
    have Hp := Lib.hid hp
    have Hf := Lib.hid hf
    clear hp hf
    go_enter Try.func74, Try.ntmps74
    go_wp2_with fail
    refine (tableFits_any t n _).mono ?_
    rintro e w' ⟨rfl, rfl⟩
    rw [Hf.out]
    go_wp2_with fail
    go_ret
    exact ⟨_, rfl, by rw [Hp.out]; exact World.ownsRow_nil _ _ _ _, Below.refl _ _⟩
  · obtain ⟨T, N, rfl, rfl, hN, hT2, hT⟩ := fitsT_nat hf
    have hp : primesI T N = Two.tabF (Two.pstep T N) (2 ^ N) (2 ^ N) := by unfold primesI; rw [hf, Two.primes_eq]; rfl
    have Hp := Lib.hid hp
    have Hf := Lib.hid hf
    clear hp hf hT2
    obtain ⟨M, hM, e, hp, hp0⟩ := pow4 hN
    rw [hM.out] at Hp
    have hmemT : Hid (∀ q c, q ∈ Two.tabF (Two.pstep T N) M c → q.1 < c ∧ q.2 < M) := Lib.hid fun q c h => Two.mem_tabF (fun _ _ _ => Two.mem_pstep) h
    go_enter Try.func74, Try.ntmps74
    go_wp2_with fail
    refine (tableFits_any _ _ _).mono ?_
    rintro e w' ⟨rfl, rfl⟩
    rw [Hf.out]
    go_wp2_with fail
    go_loopw [5, 15] (fun v i wr => ∃ c : Nat, c ≤ M ∧ i = .int .i64 c ∧ wr.ownsRow w.heap.size 53 2 v (Two.tabF (Two.pstep T N) M c).length (cubes ((Two.tabF (Two.pstep T N) M c).map intK)) ∧ Below w.heap.size w wr) (fun _ i _ => M - (intOf i).toNat)
    case atStart => exact ⟨0, by omega, rfl, World.ownsRow_nil _ _ _ _, Below.refl _ _⟩
    case round =>
      obtain ⟨c, hc, rfl, hown, hb⟩ := hrel
      have Hb := Lib.hid hb
      have Hown := Lib.hid hown
      clear hb hown
      by_cases hlt : c < M
      · have hz := Hb.out.size
        have hO : (Two.tabF (Two.pstep T N) M c).length ≤ 240 := by
          have h1 := Two.tabF_length (Two.pstep_length T N) M c
          have h2 : c * M ≤ 15 * 16 := Nat.mul_le_mul (by omega) hp
          omega
        have HmO : Hid (∀ q ∈ Two.tabF (Two.pstep T N) M c, q.1 < 16) := Lib.hid fun q hq => by have := (hmemT.out q c hq).1; omega
        have HO1 : Hid (∀ k, Two.tabF (Two.pstep T N) M (k + 1) = Two.rowF (Two.pstep T N) (Two.tabF (Two.pstep T N) M k) k M) := Lib.hid fun _ => rfl
        have HO2 := Lib.hid (HO1.out c)
        generalize Two.tabF (Two.pstep T N) M c = O at *
        have hg6 : (wr.alloc (.cells #[.int .i64 c] 3)).heap[wr.heap.size]? = some (.cells #[.int .i64 c] 3 (0, 0)) := heap_alloc_new _ _
        have HownA := Lib.hid (Hown.out.alloc (.cells #[.int .i64 c] 3))
        have HbA := Lib.hid (Hb.out.alloc hz (.cells #[.int .i64 c] 3))
        clear Hown Hb
        go_wp2_with fail
        generalize wr.alloc (.cells #[.int .i64 c] 3) = W1 at *
        generalize wr.heap.size = g6 at *
        go_loopw [5, 20] (fun v i wq => ∃ x : Nat, x ≤ M ∧ i = .int .i64 x ∧ wq.ownsRow w.heap.size 53 2 v (Two.rowF (Two.pstep T N) O c x).length (cubes ((Two.rowF (Two.pstep T N) O c x).map intK)) ∧ wq.heap[g6]? = some (.cells #[.int .i64 c] 3 (0, 0)) ∧ Below w.heap.size w wq) (fun _ i _ => M - (intOf i).toNat)
        case atStart => exact ⟨0, by omega, rfl, HownA.out, hg6, HbA.out⟩
        case round =>
          obtain ⟨x, hx, rfl, hown, hg6, hb⟩ := hrel
          have Hb := Lib.hid hb
          have Hown := Lib.hid hown
          clear hb hown HownA HbA
          by_cases hlt2 : x < M
          · have hzr := Hb.out.size
            have hL := Two.rowF_length (Two.pstep_length T N) O c x
            have HmR : Hid (∀ q ∈ Two.rowF (Two.pstep T N) O c x, q.1 < 65536) := Lib.hid fun q hq => by
              rcases Two.mem_rowF (fun _ _ _ => Two.mem_pstep) hq with h | ⟨h, _⟩
              · have := HmO.out q h; omega
              · omega
            have HR : Hid (Two.rowF (Two.pstep T N) O c (x + 1) = Two.pstep T N (Two.rowF (Two.pstep T N) O c x) (c, x)) := Lib.hid rfl
            obtain ⟨R2, hR2⟩ : ∃ R2, Two.rowF (Two.pstep T N) O c (x + 1) = R2 := ⟨_, rfl⟩
            rw [hR2] at HR
            have HR1 := Lib.hid hR2
            clear hR2
            generalize Two.rowF (Two.pstep T N) O c x = R at *
            have c6 := blk_cell hg6 0
            simp only [List.getElem?_toArray, List.getElem?_cons_zero] at c6
            have z6 : g6 < wr.heap.size := by
              rcases Nat.lt_or_ge g6 wr.heap.size with h | h
              · exact h
              · rw [Array.getElem?_eq_none h] at hg6; cases hg6
            have k6 : ((wr.alloc (.cells #[.int .i64 x] 3)).alloc (.cells #[.int .i64 c, .int .i64 x] 53)).heap[g6]? = some (.cells #[.int .i64 c] 3 (0, 0)) := by
              rw [heap_alloc_old _ _ (by simp; omega), heap_alloc_old _ _ z6]; exact hg6
            have k7 : ((wr.alloc (.cells #[.int .i64 x] 3)).alloc (.cells #[.int .i64 c, .int .i64 x] 53)).heap[wr.heap.size]? = some (.cells #[.int .i64 x] 3 (0, 0)) := by
              rw [heap_alloc_old _ _ (by simp)]; exact heap_alloc_new _ _
            have k8 : ((wr.alloc (.cells #[.int .i64 x] 3)).alloc (.cells #[.int .i64 c, .int .i64 x] 53)).heap[wr.heap.size + 1]? = some (.cells #[.int .i64 c, .int .i64 x] 53 (0, 0)) := by
              have := heap_alloc_new (wr.alloc (.cells #[.int .i64 x] 3)) (.cells #[.int .i64 c, .int .i64 x] 53)
              simpa using this
            have HownB := Lib.hid ((Hown.out.alloc (.cells #[.int .i64 x] 3)).alloc (.cells #[.int .i64 c, .int .i64 x] 53))
            have HbB := Lib.hid ((Hb.out.alloc hzr (.cells #[.int .i64 x] 3)).alloc (by simp; omega) (.cells #[.int .i64 c, .int .i64 x] 53))
            have zB : wr.heap.size + 2 = ((wr.alloc (.cells #[.int .i64 x] 3)).alloc (.cells #[.int .i64 c, .int .i64 x] 53)).heap.size := by simp
            have HzB := Lib.hid zB
            clear zB Hown Hb
            go_upto_region 11 with fail
            generalize (wr.alloc (.cells #[.int .i64 x] 3)).alloc (.cells #[.int .i64 c, .int .i64 x] 53) = W2 at *
            generalize wr.heap.size = g7 at *
            clear hg6 c6
            have c6 := blk_cell k6 0
            have c7 := blk_cell k7 0
            have c8 := blk_cell k8 0
            have c9 := blk_cell k8 1
            simp only [List.getElem?_toArray, List.getElem?_cons_zero, List.getElem?_cons_succ] at c6 c7 c8 c9
            have z2 : g7 + 2 ≤ W2.heap.size := by have := HzB.out; omega
            have ea := andNot_nat x c (by omega) (by omega)
            have HcD : Hid (Two.cand T N (c, x) = ((x &&& c == x) && Two.within (c, x) T N)) := Lib.hid rfl
            cases hfine : (x &&& c == x)
            · have hn : bits .andNot .i64 (x : Int) (c : Int) != 0 := by rw [bne, ea, hfine]; rfl
              have H : Hid (R2 = R) := Lib.hid (by rw [HR.out, Two.pstep, HcD.out, hfine]; rfl)
              clear ea hfine
              go_wp2_with fail
              go_roundw
              case rel => exact ⟨x + 1, by omega, by go_num, by rw [HR1.out, H.out]; exact HownB.out, k6, HbB.out⟩
              case measure => simp [intOf]; omega
            · have hn : (bits .andNot .i64 (x : Int) (c : Int) != 0) = false := by rw [bne, ea, hfine]; rfl
              have Hfine := Lib.hid hfine
              have zw := HbB.out.size
              clear ea hfine
              go_wp2_with fail
              refine (implies_any c x T N _ hN (by omega) hT).mono ?_
              rintro e w3 ⟨rfl, hb3⟩
              have Ho3 := Lib.hid (own_below HownB.out hb3)
              have Hb3 := Lib.hid (HbB.out.trans (hb3.mono zw))
              have k36 := (hb3.block g6 (by omega)).trans k6
              have d6 := (hb3.cell (p := ⟨g6, 0, none⟩) (by simp only; omega)).trans c6
              have d7 := (hb3.cell (p := ⟨g7, 0, none⟩) (by simp only; omega)).trans c7
              have d8 := (hb3.cell (p := ⟨g7 + 1, 0, none⟩) (by simp only; omega)).trans c8
              have d9 := (hb3.cell (p := ⟨g7 + 1, 1, none⟩) (by simp only; omega)).trans c9
              have z3 := hb3.size
              clear hb3 HownB HbB k6 k7 k8 c6 c7 c8 c9
              cases hwi : Two.within (c, x) T N
              · have H : Hid (R2 = R) := Lib.hid (by rw [HR.out, Two.pstep, HcD.out, Hfine.out, hwi]; rfl)
                clear hwi
                go_wp2_with fail
                go_roundw
                case rel => exact ⟨x + 1, by omega, by go_num, by rw [HR1.out, H.out]; exact Ho3.out, k36, Hb3.out⟩
                case measure => simp [intOf]; omega
              · have Hwi := Lib.hid hwi
                clear hwi
                go_wp2_with fail
                refine (containsFunc_any _ R c x g6 g7 _ (cubesN_own Ho3.out) d6 d7 (by omega) (by omega) HmR.out (by omega) (by omega)).mono ?_
                rintro e w4 ⟨rfl, hb4⟩
                have Ho4 := Lib.hid (own_below Ho3.out hb4)
                have Hb4 := Lib.hid (Hb3.out.trans (hb4.mono (by omega)))
                have k46 := (hb4.block g6 (by omega)).trans k36
                have f8 := (hb4.cell (p := ⟨g7 + 1, 0, none⟩) (by simp only; omega)).trans d8
                have f9 := (hb4.cell (p := ⟨g7 + 1, 1, none⟩) (by simp only; omega)).trans d9
                have z4 := hb4.size
                clear hb4 Ho3 Hb3 k36 d6 d7 d8 d9
                cases hany : R.any (fun b => Two.gen (c, x) b)
                · have H : Hid (R2 = R ++ [(c, x)]) := Lib.hid (by rw [HR.out, Two.pstep, HcD.out, Hfine.out, Hwi.out, hany]; rfl)
                  have Hlit := Lib.hid (Row.of_own (World.ownsRow_lit (base := w4.heap.size) (e := 53) (size := 2) w4 #[.int .i64 c, .int .i64 x] 1 (Nat.le_refl _) (by unfold maxLen; omega) rfl))
                  clear hany
                  go_wp2_with (at_builtin; refine append_cubes rfl (.tmp 41) (.tmp 43) rfl w.heap.size _ R.length _ rfl (Ho4.out.alloc _) _ 1 [.int .i64 c, .int .i64 x] rfl Hlit.out (by simp [Value.oneCell']) (by omega) (by simp; omega) ?_; intro v5 w5 hown5 hg5; have Ho5 := Lib.hid hown5; have Hg5 := Lib.hid hg5; clear hown5 hg5)
                  go_roundw
                  case rel =>
                    have hne := own_neP Ho4.out k46 (by decide)
                    have k56 := (Hg5.out.block g6 (by simp; omega) (fun h => hne h.symm)).trans ((heap_alloc_old w4 _ (by omega)).trans k46)
                    have hb5 := (Hb4.out.alloc (by omega) (.cells #[.int .i64 c, .int .i64 x] 53)).grown Hg5.out (by simp; omega) (own_ge Ho4.out)
                    refine ⟨x + 1, by omega, by go_num, ?_, k56, hb5⟩
                    rw [HR1.out, H.out, List.map_append, cubes_append, List.length_append]
                    exact Ho5.out
                  case measure => simp [intOf]; omega
                · have H : Hid (R2 = R) := Lib.hid (by rw [HR.out, Two.pstep, HcD.out, Hfine.out, Hwi.out, hany]; rfl)
                  clear hany
                  go_wp2_with fail
                  go_roundw
                  case rel => exact ⟨x + 1, by omega, by go_num, by rw [HR1.out, H.out]; exact Ho4.out, k46, Hb4.out⟩
                  case measure => simp [intOf]; omega
          · obtain rfl : x = M := by omega
            rw [← HO2.out] at Hown
            go_wp2
            go_roundw
            case rel => exact ⟨c + 1, by omega, by go_num, Hown.out, Hb.out⟩
            case measure => simp [intOf]; omega
      · obtain rfl : c = M := by omega
        rw [← Hp.out] at Hown
        go_wp2
        go_ret
        exact ⟨_, rfl, Hown.out, Hb.out⟩
end Go.Proofs.Ytdgminjbgjbamaa

namespace Go.Proofs.Ytdgminjbgjbamaa
open Go.RowKit
theorem append_cubes_at {w : World} {ops : Array Oper} {rest : List Oper} {o : Oper} {a : Act} {Q : Exit → Act → World → Prop} (hgd : o.guard = none) (s x : Operand)
    (ho : o.op = .call { callee := .builtin .append, args := #[s, x], argTypes := #[49, 49] })
    (base : Nat) (v : Value) (n : Nat) (xs : List Value) (hs : a.eval s = v) (hown : w.ownsRow base 53 2 v n xs) (sv : Value) (m : Nat) (news : List Value) (hx : a.eval x = sv) (hr : Row w 2 sv m news) (h1 : ∀ u ∈ news, u.oneCell' = true)
    (h63 : n + m ≤ 1000000) (hbase : base ≤ w.heap.size)
    (h : ∀ v' w', w'.ownsRow base 53 2 v' (n + m) (xs ++ news) → w.grownBy w' v.ownBlock → (v'.ownBlock = v.ownBlock ∨ v'.ownBlock = some w.heap.size) → wpList Try.prog ops Q rest (a.put o.dst v') w') : wpList Try.prog ops Q (o :: rest) a w := by
  obtain ⟨i, hi, hz0, hz1, hz2⟩ := info_parts info_cube
  exact wpList_append_at hgd s x 49 ho base 53 i _ 2 16 Try.underlying49 hi hz0 hz1 hz2 rfl (by decide) v n xs hs hown sv m news hx hr h1 (by unfold maxLen; omega) (by omega) hbase h
end Go.Proofs.Ytdgminjbgjbamaa
