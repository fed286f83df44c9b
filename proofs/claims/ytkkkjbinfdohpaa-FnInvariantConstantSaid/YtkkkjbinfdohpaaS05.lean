import Derived.Test.YtkkkjbinfdohpaaS04
import Derived.Test.YtkkkjbinfdohpaaProg
import Derived.Test.YtkkkjbinfdohpaaS01
import Derived.Maps.Views
import Derived.Maps.OwnOps
import Derived.Maps.RangeWalk
import Derived.Test.YtkkkjbinfdohpaaS02
import Derived.Test.YtkkkjbinfdohpaaS03
set_option linter.unusedVariables false
set_option linter.unusedSimpArgs false
namespace Go.Proofs.Ytkkkjbinfdohpaa
namespace Cir
/-! Induction over clock cycles, plainly. -/
def goodS (c : Ci) (o s : Nat) : Bool := (List.range (2 ^ c.ins)).all fun x => !bad c o s x
/-- From every state of the set the output is 0. -/
def good (c : Ci) (o : Nat) (S : Nat → Bool) : Bool := (List.range 8).all fun s => !S s || goodS c o s
def reaches (c : Ci) (o s y : Nat) : Bool := (List.range (2 ^ c.ins)).any fun x => !bad c o s x && nextOf c s x == y
/-- The states behind a cycle with output 0. -/
def adv (c : Ci) (o : Nat) (S : Nat → Bool) (y : Nat) : Bool := (List.range 8).any fun s => S s && reaches c o s y
def advN (c : Ci) (o : Nat) (S : Nat → Bool) : Nat → Nat → Bool
  | 0 => S
  | j + 1 => adv c o (advN c o S j)
def only0 (x : Nat) : Bool := x == 0
def upTo (n x : Nat) : Bool := decide (x < n)
def ind (c : Ci) (o k : Nat) : Bool := (List.range k).all (fun j => good c o (advN c o only0 j)) && good c o (advN c o (upTo (2 ^ c.next.length)) k)
theorem good_iff {c : Ci} {o : Nat} {S : Nat → Bool} : good c o S = true ↔ ∀ s, s < 8 → S s = true → ∀ x, x < 2 ^ c.ins → bad c o s x = false := by
  unfold good goodS
  simp only [List.all_eq_true, List.mem_range, Bool.or_eq_true, Bool.not_eq_true']
  constructor
  · intro h s hs hS x hx
    rcases h s hs with h | h
    · rw [hS] at h; cases h
    · exact h x hx
  · intro h s hs
    cases hS : S s
    · exact .inl rfl
    · exact .inr (h s hs hS)
theorem adv_iff {c : Ci} {o : Nat} {S : Nat → Bool} {y : Nat} : adv c o S y = true ↔ ∃ s, s < 8 ∧ S s = true ∧ ∃ x, x < 2 ^ c.ins ∧ bad c o s x = false ∧ nextOf c s x = y := by
  unfold adv reaches
  simp only [List.any_eq_true, List.mem_range, Bool.and_eq_true, Bool.not_eq_true', beq_iff_eq]
theorem ind_no {c : Ci} {o k j : Nat} (hj : j < k) (h : good c o (advN c o only0 j) = false) : ind c o k = false := by
  unfold ind
  rw [Bool.and_eq_false_iff]
  refine .inl (Bool.eq_false_iff.2 fun ha => ?_)
  have := List.all_eq_true.1 ha j (List.mem_range.2 hj)
  rw [h] at this
  cases this
theorem ind_yes {c : Ci} {o k : Nat} (h : ∀ j, j < k → good c o (advN c o only0 j) = true) : ind c o k = good c o (advN c o (upTo (2 ^ c.next.length)) k) := by
  unfold ind
  rw [List.all_eq_true.2 fun j hj => h j (List.mem_range.1 hj), Bool.true_and]
/-- The reference's definitions. -/
def safe (c : Ci) (o : Nat) : Nat → Nat → Bool
  | 0, _ => true
  | k + 1, s => (List.range (2 ^ c.ins)).all fun x => !bad c o s x && safe c o k (nextOf c s x)
def stepB (c : Ci) (o : Nat) : Nat → Nat → Bool
  | 0, s => (List.range (2 ^ c.ins)).all fun x => !bad c o s x
  | k + 1, s => (List.range (2 ^ c.ins)).all fun x => bad c o s x || stepB c o k (nextOf c s x)
theorem safe_iff {c : Ci} {o k s : Nat} : safe c o (k + 1) s = true ↔ ∀ x, x < 2 ^ c.ins → bad c o s x = false ∧ safe c o k (nextOf c s x) = true := by
  rw [safe]
  simp only [List.all_eq_true, List.mem_range, Bool.and_eq_true, Bool.not_eq_true']
theorem stepB_zero {c : Ci} {o s : Nat} : stepB c o 0 s = true ↔ ∀ x, x < 2 ^ c.ins → bad c o s x = false := by
  rw [stepB]
  simp only [List.all_eq_true, List.mem_range, Bool.not_eq_true']
theorem stepB_succ {c : Ci} {o k s : Nat} : stepB c o (k + 1) s = true ↔ ∀ x, x < 2 ^ c.ins → bad c o s x = true ∨ stepB c o k (nextOf c s x) = true := by
  rw [stepB]
  simp only [List.all_eq_true, List.mem_range, Bool.or_eq_true]
theorem next_lt8 {c : Ci} (hc : Ok c) (s x : Nat) : nextOf c s x < 8 := by
  have h1 := nextOf_lt c s x
  have h2 : 2 ^ c.next.length ≤ 2 ^ 3 := Nat.pow_le_pow_right (show 0 < 2 by decide) hc.nexts
  omega
theorem advN_adv (c : Ci) (o : Nat) (S : Nat → Bool) : ∀ j, advN c o S (j + 1) = advN c o (adv c o S) j
  | 0 => rfl
  | j + 1 => by rw [advN, advN_adv c o S j, advN]
theorem safe_adv {c : Ci} (hc : Ok c) {o : Nat} : ∀ (k : Nat) (S : Nat → Bool), (∀ s, s < 8 → S s = true → safe c o k s = true) ↔ ∀ j, j < k → good c o (advN c o S j) = true
  | 0, S => ⟨fun _ j hj => by omega, fun _ s _ _ => rfl⟩
  | k + 1, S => by
    have IH := safe_adv hc (o := o) k (adv c o S)
    constructor
    · intro h j hj
      cases j with
      | zero => exact good_iff.2 fun s hs hS x hx => (safe_iff.1 (h s hs hS) x hx).1
      | succ j =>
        rw [advN_adv]
        exact IH.1 (fun y hy hS => by
          obtain ⟨s, hs, h1, x, hx, _, rfl⟩ := adv_iff.1 hS
          exact (safe_iff.1 (h s hs h1) x hx).2) j (by omega)
    · intro h s hs hS
      have h0 := good_iff.1 (h 0 (by omega)) s hs hS
      refine safe_iff.2 fun x hx => ⟨h0 x hx, ?_⟩
      exact IH.2 (fun j hj => by rw [← advN_adv]; exact h (j + 1) (by omega)) _ (next_lt8 hc s x) (adv_iff.2 ⟨s, hs, hS, x, hx, h0 x hx, rfl⟩)
theorem step_adv {c : Ci} (hc : Ok c) {o : Nat} : ∀ (k : Nat) (S : Nat → Bool), (∀ s, s < 8 → S s = true → stepB c o k s = true) ↔ good c o (advN c o S k) = true
  | 0, S => by
    constructor
    · exact fun h => good_iff.2 fun s hs hS x hx => stepB_zero.1 (h s hs hS) x hx
    · exact fun h s hs hS => stepB_zero.2 fun x hx => good_iff.1 h s hs hS x hx
  | k + 1, S => by
    have IH := step_adv hc (o := o) k (adv c o S)
    rw [advN_adv, ← IH]
    constructor
    · intro h y hy hS
      obtain ⟨s, hs, h1, x, hx, hb, rfl⟩ := adv_iff.1 hS
      rcases stepB_succ.1 (h s hs h1) x hx with h2 | h2
      · rw [hb] at h2; cases h2
      · exact h2
    · intro h s hs hS
      refine stepB_succ.2 fun x hx => ?_
      cases hb : bad c o s x
      · exact .inr (h _ (next_lt8 hc s x) (adv_iff.2 ⟨s, hs, hS, x, hx, hb, rfl⟩))
      · exact .inl rfl
theorem ind_spec {c : Ci} (hc : Ok c) (o k : Nat) : ind c o k = (safe c o k 0 && (List.range (2 ^ c.next.length)).all (stepB c o k)) := by
  have h8 : 2 ^ c.next.length ≤ 2 ^ 3 := Nat.pow_le_pow_right (show 0 < 2 by decide) hc.nexts
  have e1 : (List.range k).all (fun j => good c o (advN c o only0 j)) = safe c o k 0 := by
    rw [Bool.eq_iff_iff, List.all_eq_true]
    have := safe_adv hc (o := o) k only0
    constructor
    · intro h
      exact this.2 (fun j hj => h j (List.mem_range.2 hj)) 0 (by omega) rfl
    · intro h j hj
      refine this.1 (fun s _ hS => ?_) j (List.mem_range.1 hj)
      have : s = 0 := by simpa [only0] using hS
      rw [this]; exact h
  have e2 : good c o (advN c o (upTo (2 ^ c.next.length)) k) = (List.range (2 ^ c.next.length)).all (stepB c o k) := by
    rw [Bool.eq_iff_iff, List.all_eq_true, ← step_adv hc]
    constructor
    · exact fun h s hs => h s (by have := List.mem_range.1 hs; omega) (decide_eq_true (List.mem_range.1 hs))
    · exact fun h s _ hS => h s (List.mem_range.2 (of_decide_eq_true hS))
  rw [ind, e1, e2]
end Cir
end Go.Proofs.Ytkkkjbinfdohpaa

namespace Go.Proofs.Ytkkkjbinfdohpaa
open Go.RowKit Go.Maps
set_option maxRecDepth 100000
/-! Sets of natural numbers: maps of int to bool that the call has made, and in which only 'true' is stored. -/
theorem set_keyed : Keyed Try.prog 3 := int_keyed Try.underlying3
/-- Block b is a map of at most n entries; the elements are those of S. -/
def SetAt (w : World) (b n : Nat) (S : Nat → Bool) : Prop := ∃ D : DataW Unit, w.ownsMap Try.prog 3 (plainElem Try.prog 4) b n D ∧ IsMap D ∧ (∀ x : Nat, D.atKey (.int .i64 (x : Int)) (.lit (.bool false)) = .lit (.bool (S x))) ∧ (∀ kl, Maps.has D kl = true → ∃ x : Nat, kl = .int .i64 (x : Int) ∧ S x = true ∧ (x : Int) ≤ 9223372036854775807) ∧ ∀ x : Nat, S x = true → Maps.has D (.int .i64 (x : Int)) = true
theorem SetAt.lt {w : World} {b n : Nat} {S : Nat → Bool} (h : SetAt w b n S) : b < w.heap.size := by
  obtain ⟨D, h1, _⟩ := h
  exact h1.lt
theorem SetAt.only {E : Nat → Prop} {w w' : World} {b n : Nat} {S : Nat → Bool} (h : SetAt w b n S) (ho : Only E w w') (hE : ¬ E b) : SetAt w' b n S := by
  have hl := h.lt
  obtain ⟨D, ⟨es, clock, h1, h2, h3, h4⟩, h5⟩ := h
  exact ⟨D, ⟨es, clock, (ho.block b hl hE).trans h1, h2, h3, h4⟩, h5⟩
theorem SetAt.below {w w' : World} {b n : Nat} {S : Nat → Bool} (h : SetAt w b n S) (hb : Below w.heap.size w w') : SetAt w' b n S :=
  h.only (E := fun _ => False) ⟨hb.os, hb.tape, hb.output, hb.size, fun k hk _ => hb.block k hk⟩ id
theorem SetAt.mono {w : World} {b n n' : Nat} {S : Nat → Bool} (h : SetAt w b n S) (hn : n ≤ n') : SetAt w b n' S := by
  obtain ⟨D, h1, h2⟩ := h
  exact ⟨D, h1.mono hn, h2⟩
theorem SetAt.congr {w : World} {b n : Nat} {S S' : Nat → Bool} (h : SetAt w b n S) (he : ∀ x, S x = S' x) : SetAt w b n S' := by
  rwa [← funext he]
theorem setAt_made (w : World) : SetAt (w.alloc (.map #[] 0)) w.heap.size 0 (fun _ => false) :=
  ⟨.map [], World.ownsMap_made w _ _ _, isMap_empty, fun x => rfl, fun kl h => (by cases h), fun x h => (by cases h)⟩
theorem i64_wf {x : Nat} (h : (x : Int) ≤ 9223372036854775807) : (Lit.int .i64 (x : Int)).wf = true := by
  simp [Lit.wf, IntKind.min, IntKind.max, IntKind.signed, IntKind.bits]
  omega
theorem i64_ne {x y : Nat} (h : x ≠ y) : Lit.int .i64 (x : Int) ≠ Lit.int .i64 (y : Int) := by
  intro e
  injection e with e1 e2
  exact h (by omega)
section
variable (w : World) {ops : Array Oper} {rest : List Oper} {o : Oper} {a : Act} {Q : Exit → Act → World → Prop}
theorem zero_bool (w : World) : (zeroValue 4).run Try.prog w = .ok (.bool false) w := by kernel_rfl
/-- seen[x] -/
theorem wpList_look_set (hg : o.guard = none) (m x : Operand) (hop : o.op = Op.lookup 92 m x false) (b n : Nat) (S : Nat → Bool) (hm : a.eval m = .map (some b)) (h : SetAt w b n S) (k : Nat) (hk : (k : Int) ≤ 9223372036854775807) (hx : a.eval x = .int .i64 (k : Int))
    (hK : wpList Try.prog ops Q rest (a.put o.dst (.bool (S k))) w) : wpList Try.prog ops Q (o :: rest) a w := by
  refine wpList_plain hg fun K' hK' => ?_
  obtain ⟨D, h1, h2, h3, -⟩ := h
  obtain ⟨v, ps, hrun, hv⟩ := h1.lookup set_keyed Try.underlying92 (zero_bool w) (plainElem_bool Try.underlying4 false) (keyOf_int_mk Try.underlying3 (i64_wf hk))
  rw [h3 k] at hv
  have hvb : v = .bool (S k) := by
    unfold plainElem at hv
    rw [Try.underlying4] at hv
    cases v <;> simp at hv
    rw [hv.1]
  subst hvb
  unfold Oper.wp
  simp [execOp, hop, hm, hx, hrun, Result.andThen]
  exact hK' _ _ hK
/-- seen[x] = true -/
theorem wpList_add_set (hg : o.guard = none) (m x v : Operand) (hop : o.op = Op.mapUpdate 92 m x v ∨ o.op = Op.insert 92 m x v) (b n : Nat) (S : Nat → Bool) (hm : a.eval m = .map (some b)) (h : SetAt w b n S) (hn : n ≤ 1000000) (k : Nat) (hk : (k : Int) ≤ 9223372036854775807) (hx : a.eval x = .int .i64 (k : Int)) (hv : a.eval v = .bool true)
    (hK : ∀ w', SetAt w' b (n + 1) (fun z => S z || z == k) → w.grownBy w' (some b) → wpList Try.prog ops Q rest (a.put o.dst undef) w') : wpList Try.prog ops Q (o :: rest) a w := by
  refine wpList_plain hg fun K' hK' => ?_
  obtain ⟨D, h1, h2, h3, h4, h5⟩ := h
  have hkey := keyOf_int_mk (P := Try.prog) Try.underlying3 (i64_wf hk)
  obtain ⟨w', hrun, r1, r2⟩ := h1.update set_keyed Try.underlying92 (by unfold maxLen; omega) hkey (plainElem_bool Try.underlying4 true)
  have hlit : WideAt.IsKeyLit (.int .i64 (k : Int)) := set_keyed.key hkey
  unfold Oper.wp
  have hq : SetAt w' b (n + 1) (fun z => S z || z == k) := by
    refine ⟨_, r1, h2.put _ _, fun x => ?_, fun kl hh => ?_, fun x hS => ?_⟩
    · by_cases hxk : x = k
      · subst hxk
        rw [atKey_put_same h2 hlit]
        simp
      · rw [atKey_put_other (i64_ne hxk), h3 x]
        have : (x == k) = false := by simpa using hxk
        simp [this]
    · by_cases hkl : kl = .int .i64 (k : Int)
      · exact ⟨k, hkl, by simp, hk⟩
      · rw [has_put_other hkl] at hh
        obtain ⟨x, e1, e2, e3⟩ := h4 kl hh
        exact ⟨x, e1, by simp [e2], e3⟩
    · by_cases hxk : x = k
      · subst hxk
        exact has_put_same h2 hlit _
      · rw [has_put_other (i64_ne hxk)]
        have h6 : (x == k) = false := by simpa using hxk
        simp [h6] at hS
        exact h5 x hS
  have hw2 := hK w' hq r2
  rcases hop with hop | hop
  · simp [execOp, hop, hm, hx, hv, hrun, Result.andThen]
    exact hK' _ _ hw2
  · simp [execOp, hop, hm, hx, hv, hrun, Result.andThen]
    exact hK' _ _ hw2
end
end Go.Proofs.Ytkkkjbinfdohpaa

namespace Go.Proofs.Ytkkkjbinfdohpaa
open Go.RowKit Go.Maps
set_option maxRecDepth 100000
/-! The round over a set, in whatever order. -/
/-- Block r runs over the set S in block b; L: what is still to come. -/
def RSet (w : World) (b r n : Nat) (S L : Nat → Bool) (cnt : Nat) : Prop :=
  ∃ (D : DataW Unit) (left : Lit → Bool), w.ranges Try.prog 3 (plainElem Try.prog 4) b r n D left cnt ∧ IsMap D ∧ (∀ x : Nat, D.atKey (.int .i64 (x : Int)) (.lit (.bool false)) = .lit (.bool (S x))) ∧ (∀ x : Nat, left (.int .i64 (x : Int)) = L x) ∧ (∀ kl, left kl = true → ∃ x : Nat, kl = .int .i64 (x : Int) ∧ S x = true ∧ (x : Int) ≤ 9223372036854775807)
theorem RSet.kept {w w' : World} {b r n : Nat} {S L : Nat → Bool} {cnt : Nat} {row : Option Nat} (h : RSet w b r n S L cnt) (hg : w.grownBy w' row) (hb : some b ≠ row) (hr : some r ≠ row) : RSet w' b r n S L cnt := by
  obtain ⟨D, left, h1, h2⟩ := h
  exact ⟨D, left, h1.kept hg hb hr, h2⟩
theorem RSet.below {w w' : World} {b r n : Nat} {S L : Nat → Bool} {cnt : Nat} (h : RSet w b r n S L cnt) (hb : Below w.heap.size w w') : RSet w' b r n S L cnt :=
  h.kept (row := none) ⟨hb.os, hb.tape, hb.output, hb.size, fun k hk _ => hb.block k hk⟩ (by simp) (by simp)
theorem RSet.left {w : World} {b r n : Nat} {S L : Nat → Bool} {cnt : Nat} (h : RSet w b r n S L cnt) : w.rangeLeft b r = cnt := by
  obtain ⟨D, left, h1, _⟩ := h
  exact h1.left_eq
theorem RSet.lt {w : World} {b r n : Nat} {S L : Nat → Bool} {cnt : Nat} (h : RSet w b r n S L cnt) : r < w.heap.size ∧ b < w.heap.size ∧ r ≠ b := by
  obtain ⟨D, left, h1, _⟩ := h
  exact ⟨h1.lt, h1.owns.lt, h1.ne⟩
section
variable {ops : Array Oper} {rest : List Oper} {o : Oper} {a : Act} {Q : Exit → Act → World → Prop} {w : World}
theorem wpList_range_set (hg : o.guard = none) (m : Operand) (hop : o.op = Op.range 92 m) (b n : Nat) (S : Nat → Bool) (hm : a.eval m = .map (some b)) (h : SetAt w b n S)
    (hK : ∀ w' cnt, RSet w' b w.heap.size n S S cnt → Below w.heap.size w w' → w'.heap.size = w.heap.size + 1 → wpList Try.prog ops Q rest (a.put o.dst (.pointer (some ⟨w.heap.size, 0, none⟩))) w') : wpList Try.prog ops Q (o :: rest) a w := by
  obtain ⟨D, h1, h2, h3, h4, h5⟩ := h
  refine wpList_range_own w hg m _ hop _ _ set_keyed Try.underlying92 _ b n D hm h1 fun w' r1 r2 r3 => hK w' _ ⟨D, _, r1, h2, h3, fun x => ?_, h4⟩ ⟨r2.os, r2.tape, r2.output, r2.size, fun k hk => r2.block k hk (by simp)⟩ r3
  cases hs : S x
  · cases hh : Maps.has D (.int .i64 (x : Int))
    · rfl
    · obtain ⟨y, e, hy, _⟩ := h4 _ hh
      injection e with _ e
      have : x = y := by omega
      subst this
      rw [hs] at hy; cases hy
  · exact h5 x hs
theorem wpList_next_set (hg : o.guard = none) (it : Operand) (hop : o.op = Op.next it false) (b r n : Nat) (S L : Nat → Bool) (cnt : Nat) (hit : a.eval it = .pointer (some ⟨r, 0, none⟩)) (h : RSet w b r n S L cnt)
    (hDone : (∀ x, L x = false) → wpList Try.prog ops Q rest (a.put o.dst (.tuple #[.bool false])) w)
    (hMore : ∀ (x : Nat) (c : Bool) (w' : World) (cnt' : Nat), S x = true → L x = true → RSet w' b r n S (fun z => L z && !(z == x)) cnt' → cnt' < cnt → w.grownBy w' (some r) → w'.heap.size = w.heap.size →
      (Instr.entry (.pointer (some ⟨r, 0, none⟩))).run Try.prog w' = .ok (.tuple #[.int .i64 (x : Int), .bool c]) w' → wpList Try.prog ops Q rest (a.put o.dst (.tuple #[.bool true, .int .i64 (x : Int), .bool c])) w') : wpList Try.prog ops Q (o :: rest) a w := by
  obtain ⟨D, left, h1, h2, h3, h4, h5⟩ := h
  refine wpList_next_ranges w hg it hop _ set_keyed (plainElem Try.prog 4) (Value.int .i64) Value.bool (fun key kl hkey => ?_) (fun v y hv => ?_) b r n D left cnt hit h1 (fun h0 hl => hDone fun x => by rw [← h4 x]; exact hl _) (fun x c kl y w' cnt' hkey hlk hv hat hrg hlt hgr hsz hen => ?_)
  · obtain ⟨x, rfl, _⟩ := Maps.keyOf_int_inv Try.underlying3 hkey; exact ⟨x, rfl⟩
  · unfold plainElem at hv
    rw [Try.underlying4] at hv
    cases v <;> simp at hv
    exact ⟨_, rfl⟩
  · obtain ⟨x', ex, rfl, hwx⟩ := Maps.keyOf_int_inv Try.underlying3 hkey
    cases ex
    obtain ⟨m, e, hm, hmx⟩ := h5 _ hlk
    injection e with _ e
    subst e
    refine hMore m c w' cnt' hm (by rw [← h4 m]; exact hlk) ⟨D, _, hrg, h2, h3, fun z => ?_, fun kl hk => h5 kl ((Bool.and_eq_true _ _).mp hk).1⟩ hlt hgr hsz hen
    rw [h4 z]
    congr 1
    simp only [Lit.sameKey]
    rw [Bool.eq_iff_iff]
    simp
    omega
end
end Go.Proofs.Ytkkkjbinfdohpaa

namespace Go.Proofs.Ytkkkjbinfdohpaa
open Go.RowKit
/-! Slices of slices of the call's own, whose blocks are among a set. -/
section
variable {α : Type} {enc : List α → List Value} {w w' : World} {v : Value} {xss : List (List α)}
/-- A slice of the call's own whose elements are slices of the call's own, all in blocks apart; tO and ti: the types of the cells; its blocks are among E. -/
def OwnSE (enc : List α → List Value) (tO ti : TypeId) (B : Nat) (E : Nat → Prop) (w : World) (v : Value) (xss : List (List α)) : Prop :=
  ∃ vs : List Value, vs.length = xss.length ∧ w.ownsRow B tO 1 v xss.length vs ∧ (∀ (i : Nat) (x : List α) (u : Value), xss[i]? = some x → vs[i]? = some u → w.ownsRow B ti 1 u x.length (enc x)) ∧
    vs.Pairwise Apart ∧ (∀ u ∈ vs, Apart u v) ∧ (∀ g, v.ownBlock = some g → E g) ∧ ∀ u ∈ vs, ∀ g, u.ownBlock = some g → E g
variable {tO ti : TypeId} {B : Nat} {E : Nat → Prop}
theorem OwnSE.at (h : OwnSE enc tO ti B E w v xss) : SSAt enc w v xss := by
  obtain ⟨vs, h1, h2, h3, _⟩ := h
  exact ⟨vs, h1, Row.of_own h2, fun i x u hx hu => Row.of_own (h3 i x u hx hu)⟩
theorem OwnSE.nil (enc : List α → List Value) (tO ti : TypeId) (B : Nat) (E : Nat → Prop) (w : World) : OwnSE enc tO ti B E w (.slice none 0 0) [] :=
  ⟨[], rfl, World.ownsRow_nil _ _ _ _, by simp, List.Pairwise.nil, by simp, by simp [Value.ownBlock], by simp⟩
theorem OwnSE.below (h : OwnSE enc tO ti B E w v xss) (hb : Below w.heap.size w w') : OwnSE enc tO ti B E w' v xss := by
  obtain ⟨vs, h1, h2, h3, h4⟩ := h
  exact ⟨vs, h1, own_below h2 hb, fun i x u hx hu => own_below (h3 i x u hx hu) hb, h4⟩
theorem OwnSE.mono {B' : Nat} {E' : Nat → Prop} (h : OwnSE enc tO ti B E w v xss) (hB : B' ≤ B) (hT : ∀ g, E g → E' g) : OwnSE enc tO ti B' E' w v xss := by
  obtain ⟨vs, h1, h2, h3, h4, h5, h6, h7⟩ := h
  exact ⟨vs, h1, own_mono h2 hB, fun i x u hx hu => own_mono (h3 i x u hx hu) hB, h4, h5, fun g hg => hT g (h6 g hg), fun u hu g hg => hT g (h7 u hu g hg)⟩
theorem OwnSE.only {X : Nat → Prop} (h : OwnSE enc tO ti B E w v xss) (ho : Only X w w') (hE : ∀ g, B ≤ g → E g → ¬ X g) : OwnSE enc tO ti B E w' v xss := by
  obtain ⟨vs, h1, h2, h3, h4, h5, h6, h7⟩ := h
  refine ⟨vs, h1, own_only h2 ho fun g hg => hE g (h2.lt g hg).1 (h6 g hg), fun i x u hx hu => own_only (h3 i x u hx hu) ho fun g hg => hE g ((h3 i x u hx hu).lt g hg).1 (h7 u (List.mem_of_getElem? hu) g hg), h4, h5, h6, h7⟩
/-- An element more, behind an append. -/
theorem OwnSE.snoc {v2 u : Value} {x : List α} {vs : List Value} (h1 : vs.length = xss.length) (h2 : w.ownsRow B tO 1 v2 (xss.length + 1) (vs ++ [u])) (h3 : ∀ (i : Nat) (x : List α) (u : Value), xss[i]? = some x → vs[i]? = some u → w.ownsRow B ti 1 u x.length (enc x))
    (hu : w.ownsRow B ti 1 u x.length (enc x)) (h4 : vs.Pairwise Apart) (h5 : ∀ z ∈ vs, Apart z v2) (h6 : ∀ z ∈ vs, Apart z u) (h7 : Apart u v2) (t2 : ∀ g, v2.ownBlock = some g → E g) (t1 : ∀ z ∈ vs, ∀ g, z.ownBlock = some g → E g) (t0 : ∀ g, u.ownBlock = some g → E g) :
    OwnSE enc tO ti B E w v2 (xss ++ [x]) := by
  refine ⟨vs ++ [u], by simp [h1], by simpa using h2, fun i x' u' hx' hu' => ?_, ?_, ?_, t2, ?_⟩
  · rcases Nat.lt_or_ge i xss.length with hi | hi
    · rw [List.getElem?_append_left hi] at hx'
      rw [List.getElem?_append_left (by omega)] at hu'
      exact h3 i _ _ hx' hu'
    · rw [List.getElem?_append_right hi] at hx'
      rw [List.getElem?_append_right (by omega), h1] at hu'
      rcases hj : i - xss.length with _ | j
      · rw [hj] at hx' hu'
        simp at hx' hu'
        subst hx' hu'
        exact hu
      · rw [hj] at hx'
        simp at hx'
  · rw [List.pairwise_append]
    exact ⟨h4, by simp, fun a ha b hb => by rw [List.mem_singleton.1 hb]; exact h6 a ha⟩
  · intro z hz
    rcases List.mem_append.1 hz with h | h
    · exact h5 z h
    · rw [List.mem_singleton.1 h]; exact h7
  · intro z hz
    rcases List.mem_append.1 hz with h | h
    · exact t1 z h
    · rw [List.mem_singleton.1 h]; exact t0
/-- An element of which the cells turn. -/
theorem OwnSE.update {j : Nat} {x' : List α} {vs : List Value} {u : Value} (h1 : vs.length = xss.length) (h2 : w.ownsRow B tO 1 v xss.length vs) (h3 : ∀ (i : Nat) (x : List α) (u : Value), xss[i]? = some x → vs[i]? = some u → w.ownsRow B ti 1 u x.length (enc x))
    (h4 : vs.Pairwise Apart) (h5 : ∀ u ∈ vs, Apart u v) (h6 : ∀ g, v.ownBlock = some g → E g) (h7 : ∀ u ∈ vs, ∀ g, u.ownBlock = some g → E g) (hu : vs[j]? = some u) (hg : w.grownBy w' u.ownBlock) (hx : w'.ownsRow B ti 1 u x'.length (enc x')) :
    OwnSE enc tO ti B E w' v (xss.set j x') := by
  have hum := List.mem_of_getElem? hu
  refine ⟨vs, by simp [h1], by rw [List.length_set]; exact own_kept h2 hg fun g hg' e => h5 u hum g e hg', fun i x u' hi hu' => ?_, h4, h5, h6, h7⟩
  by_cases hij : j = i
  · subst hij
    rw [hu] at hu'
    obtain rfl := Option.some.inj hu'
    rw [List.getElem?_set] at hi
    simp at hi
    obtain ⟨_, rfl⟩ := hi
    exact hx
  · rw [List.getElem?_set_ne hij] at hi
    refine own_kept (h3 i x u' hi hu') hg fun g hg' e => ?_
    have hp := List.pairwise_iff_getElem.1 h4
    obtain ⟨hjl, rfl⟩ := List.getElem?_eq_some_iff.1 hu
    obtain ⟨hil, rfl⟩ := List.getElem?_eq_some_iff.1 hu'
    rcases Nat.lt_or_ge j i with hlt | hge
    · exact hp j i hjl hil hlt g e hg'
    · exact hp i j hil hjl (by omega) g hg' e
end
theorem OwnSE.raw {α : Type} {enc : List α → List Value} {tO ti : TypeId} {B : Nat} {E : Nat → Prop} {w : World} {v : Value} {xss : List (List α)} (hl : ∀ x, (enc x).length = x.length) (h : OwnSE enc tO ti B E w v xss) : OwnSE id tO ti B E w v (xss.map enc) := by
  obtain ⟨vs, h1, h2, h3, h4⟩ := h
  refine ⟨vs, by simp [h1], by simpa using h2, fun i x u hx hu => ?_, h4⟩
  rw [List.getElem?_map] at hx
  obtain ⟨x', hx', rfl⟩ := Option.map_eq_some_iff.1 hx
  rw [hl]
  exact h3 i x' u hx' hu
/-- A row more, behind an append. -/
theorem se_append {α : Type} {enc : List α → List Value} {tO ti : TypeId} {B : Nat} {E : Nat → Prop} {w w' : World} {v v' u : Value} {x : List α} {xss : List (List α)} {vs : List Value}
    (q1 : vs.length = xss.length) (q3 : ∀ (i : Nat) (x : List α) (u : Value), xss[i]? = some x → vs[i]? = some u → w.ownsRow B ti 1 u x.length (enc x)) (q4 : vs.Pairwise Apart) (q5 : ∀ u ∈ vs, Apart u v) (q6 : ∀ g, v.ownBlock = some g → E g) (q7 : ∀ u ∈ vs, ∀ g, u.ownBlock = some g → E g)
    (hu : w.ownsRow B ti 1 u x.length (enc x)) (hne : ∀ g, u.ownBlock = some g → ¬ E g) (hown : w'.ownsRow B tO 1 v' (xss.length + 1) (vs ++ [u])) (hg : w.grownBy w' v.ownBlock) (hat : v'.ownBlock = v.ownBlock ∨ v'.ownBlock = some w.heap.size) :
    OwnSE enc tO ti B (fun g => E g ∨ u.ownBlock = some g ∨ v'.ownBlock = some g) w' v' (xss ++ [x]) := by
  have hvs : ∀ z ∈ vs, ∀ g, z.ownBlock = some g → g < w.heap.size := fun z hz g hg => by
    obtain ⟨i, hi, rfl⟩ := List.mem_iff_getElem.1 hz
    exact ((q3 i _ _ (List.getElem?_eq_getElem (by omega)) (List.getElem?_eq_getElem hi)).lt g hg).2
  have huv : Apart u v' := fun g h1 h2 => by
    rcases hat with e | e
    · rw [e] at h2
      exact hne g h1 (q6 g h2)
    · rw [e] at h2
      have h3 := (hu.lt g h1).2
      have h4 := Option.some.inj h2
      omega
  have hzv : ∀ z ∈ vs, Apart z v' := fun z hz g h1 h2 => by
    rcases hat with e | e
    · rw [e] at h2
      exact q5 z hz g h1 h2
    · rw [e] at h2
      have h3 := hvs z hz g h1
      have h4 := Option.some.inj h2
      omega
  refine OwnSE.snoc (vs := vs) q1 hown (fun i x' u' hx hu' => own_kept (q3 i x' u' hx hu') hg fun g h1 h2 => q5 u' (List.mem_of_getElem? hu') g h1 h2) (own_kept hu hg fun g h1 h2 => hne g h1 (q6 g h2)) q4 hzv (fun z hz g h1 h2 => hne g h2 (q7 z hz g h1)) huv (fun g h => .inr (.inr h)) (fun z hz g h => .inl (q7 z hz g h)) (fun g h => .inr (.inl h))
theorem apart_new {w : World} {v v' u : Value} (h : Apart v u) (hat : v'.ownBlock = v.ownBlock ∨ v'.ownBlock = some w.heap.size) (hu : ∀ g, u.ownBlock = some g → g < w.heap.size) : Apart v' u := fun g h1 h2 => by
  rcases hat with e | e
  · rw [e] at h1
    exact h g h1 h2
  · rw [e] at h1
    have h3 := hu g h2
    have h4 := Option.some.inj h1
    omega
theorem OwnSS.se {α : Type} {enc : List α → List Value} {tO ti : TypeId} {B T : Nat} {w : World} {v : Value} {xss : List (List α)} (h : OwnSS enc tO ti B T w v xss) : OwnSE enc tO ti B (fun g => B ≤ g ∧ g < T) w v xss := by
  obtain ⟨vs, h1, h2, h3, h4, h5, h6, h7⟩ := h
  refine ⟨vs, h1, h2, h3, h4, h5, fun g hg => ⟨(h2.lt g hg).1, h6 g hg⟩, fun u hu g hg => ⟨?_, h7 u hu g hg⟩⟩
  obtain ⟨i, hi, rfl⟩ := List.mem_iff_getElem.1 hu
  exact ((h3 i _ _ (List.getElem?_eq_getElem (by omega)) (List.getElem?_eq_getElem hi)).lt g hg).1
end Go.Proofs.Ytkkkjbinfdohpaa

namespace Go.Proofs.Ytkkkjbinfdohpaa
open Go.RowKit
/-- What marking a slice of ints comes to. -/
def MarkedInts (B : Nat) (v : Value) (n k : Nat) (w : World) (e : Ending) (w' : World) : Prop :=
  e = .returned (.int .i64 ((k + n : Nat) : Int)) ∧ w'.ownsRow B 3 1 v n (runI k n) ∧ w.grownBy w' v.ownBlock
end Go.Proofs.Ytkkkjbinfdohpaa

namespace Go.Proofs.Ytkkkjbinfdohpaa
open Go.RowKit
set_option maxRecDepth 100000
/-! Slices of slices of ints. -/
theorem info_ints : (Try.prog.info? 23).map (fun i => (i.zero, i.size, i.bytes)) = some (some (.slice none 0 0), 1, 24) := by kernel_rfl
def OwnIntSS (B T : Nat) (w : World) (v : Value) (xss : List (List Int)) : Prop := OwnSS ints 23 3 B T w v xss
end Go.Proofs.Ytkkkjbinfdohpaa

namespace Go.Proofs.Ytkkkjbinfdohpaa
open Go.RowKit
set_option maxRecDepth 100000
theorem take_eq_get {α : Type} {xs ys : List α} {k : Nat} {x : α} (h : xs.take k = ys.take k) (hx : xs[k]? = some x) (hy : ys[k]? = some x) : xs.take (k + 1) = ys.take (k + 1) := by
  rw [take_snoc hx, take_snoc hy, h]
/-- Rows of values of the call's own, all apart, of such lengths. -/
def OwnIntSE (B : Nat) (E : Nat → Prop) (w : World) (v : Value) (xss : List (List Int)) : Prop := OwnSE ints 23 3 B E w v xss
def OwnVS (B : Nat) (E : Nat → Prop) (w : World) (v : Value) (rows : List (List Value)) : Prop := OwnSE id 23 3 B E w v rows
theorem OwnIntSE.raw {B : Nat} {E : Nat → Prop} {w : World} {v : Value} {xss : List (List Int)} (h : OwnIntSE B E w v xss) : OwnVS B E w v (xss.map ints) := OwnSE.raw ints_length h
/-- What marking comes to. -/
def MarkedSS (B : Nat) (E : Nat → Prop) (v : Value) (ns : List Nat) (k : Nat) (w : World) (e : Ending) (w' : World) : Prop :=
  e = .returned (.int .i64 ((k + ns.sum : Nat) : Int)) ∧ OwnVS B E w' v (runs k ns) ∧ Only (fun g => B ≤ g ∧ E g) w w'
theorem lens_get {rows : List (List Value)} {ns : List Nat} (hl : rows.map List.length = ns) {j : Nat} {n : Nat} (h : ns[j]? = some n) : ∃ r, rows[j]? = some r ∧ r.length = n := by
  subst hl
  rw [List.getElem?_map] at h
  obtain ⟨r, hr, rfl⟩ := Option.map_eq_some_iff.1 h
  exact ⟨r, hr, rfl⟩
end Go.Proofs.Ytkkkjbinfdohpaa

namespace Go.Proofs.Ytkkkjbinfdohpaa
/-! Machines, plainly. -/
/-- A machine as it lies in memory. -/
structure Mz where
  ins : Int
  next : List (List Int)
  out : List (List Int)
namespace Mac
def lenOk (ins : Int) (r : List Int) : Bool := decide ((r.length : Int) = ((2 ^ ins.toNat : Nat) : Int))
def inOk (limit x : Int) : Bool := decide (0 ≤ x ∧ x < limit)
def rowOk (ins limit : Int) (r : List Int) : Bool := lenOk ins r && r.all (inOk limit)
def sizes (m : Mz) : Bool := decide (0 ≤ m.ins ∧ m.ins ≤ 4 ∧ 1 ≤ m.next.length ∧ m.next.length ≤ 8 ∧ m.out.length = m.next.length)
def valid (m : Mz) : Bool := sizes m && (m.next.all (rowOk m.ins m.next.length) && m.out.all (rowOk m.ins 8))
/-- Row by row, as the reference looks at it. -/
def entOk (n : Int) (p : Int × Int) : Bool := inOk n p.1 && inOk 8 p.2
def pairOk (ins n : Int) (p : List Int × List Int) : Bool := lenOk ins p.1 && lenOk ins p.2 && (p.1.zip p.2).all (entOk n)
theorem all_zip {α β : Type} (f : α → Bool) (g : β → Bool) : ∀ (l : List α) (l' : List β), l.length = l'.length → (l.zip l').all (fun p => f p.1 && g p.2) = (l.all f && l'.all g)
  | [], [], _ => rfl
  | a :: l, b :: l', h => by
    rw [List.zip_cons_cons, List.all_cons, List.all_cons, List.all_cons, all_zip f g l l' (by simpa using h)]
    cases f a <;> cases g b <;> simp
  | [], _ :: _, h => by simp at h
  | _ :: _, [], h => by simp at h
theorem pair_row (ins n : Int) (p : List Int × List Int) : pairOk ins n p = (rowOk ins n p.1 && rowOk ins 8 p.2) := by
  unfold pairOk rowOk
  cases h1 : lenOk ins p.1
  · simp
  · cases h2 : lenOk ins p.2
    · simp
    · unfold lenOk at h1 h2
      rw [decide_eq_true_eq] at h1 h2
      have := all_zip (inOk n) (inOk 8) p.1 p.2 (by omega)
      simp only [Bool.true_and]
      exact this
theorem valid_zip (m : Mz) : valid m = (sizes m && (m.next.zip m.out).all (pairOk m.ins m.next.length)) := by
  unfold valid
  cases h : sizes m
  · rfl
  · unfold sizes at h
    rw [decide_eq_true_eq] at h
    rw [show (pairOk m.ins m.next.length) = fun p => rowOk m.ins m.next.length p.1 && rowOk m.ins 8 p.2 from funext (pair_row _ _), all_zip _ _ _ _ h.2.2.2.2.symm]
theorem sizes_cases {m : Mz} (h : sizes m = false) : m.ins < 0 ∨ (0 ≤ m.ins ∧ 4 < m.ins) ∨ (0 ≤ m.ins ∧ m.ins ≤ 4 ∧ (m.next.length : Int) < 1) ∨ (0 ≤ m.ins ∧ m.ins ≤ 4 ∧ (1 : Int) ≤ m.next.length ∧ (8 : Int) < m.next.length) ∨ (0 ≤ m.ins ∧ m.ins ≤ 4 ∧ (1 : Int) ≤ m.next.length ∧ (m.next.length : Int) ≤ 8 ∧ (m.out.length : Int) ≠ m.next.length) := by
  unfold sizes at h
  rw [decide_eq_false_iff_not] at h
  omega
theorem all_dropG {α : Type} {p : α → Bool} {l : List α} {k : Nat} {x : α} (h : l[k]? = some x) : (l.drop k).all p = (p x && (l.drop (k + 1)).all p) := by
  obtain ⟨hk, rfl⟩ := List.getElem?_eq_some_iff.1 h
  rw [List.drop_eq_getElem_cons hk, List.all_cons]
theorem zip_get {α β : Type} {l : List α} {l' : List β} {k : Nat} {x : α} {y : β} (h : l[k]? = some x) (h' : l'[k]? = some y) : (l.zip l')[k]? = some (x, y) := by
  rw [List.getElem?_zip_eq_some]
  exact ⟨h, h'⟩
end Mac
end Go.Proofs.Ytkkkjbinfdohpaa

namespace Go.Proofs.Ytkkkjbinfdohpaa
open Go.RowKit
set_option maxRecDepth 100000
/-! What laws do with machines. -/
def MachAt (w : World) (v : Value) (m : Mz) : Prop := ∃ vn vo, v = .agg #[.int .i64 m.ins, vn, vo] ∧ SSAt ints w vn m.next ∧ SSAt ints w vo m.out
theorem MachAt.below {w w' : World} {v : Value} {m : Mz} (h : MachAt w v m) (hb : Below w.heap.size w w') : MachAt w' v m := by
  obtain ⟨vn, vo, hv, h1, h2⟩ := h
  exact ⟨vn, vo, hv, h1.below hb, h2.below hb⟩
theorem MachAt.shape {w : World} {v : Value} {m : Mz} (h : MachAt w v m) : ∃ An cn Ao co, v = .agg #[.int .i64 m.ins, .slice An m.next.length cn, .slice Ao m.out.length co] ∧ cn ≤ maxLen ∧ co ≤ maxLen ∧ m.next.length ≤ cn ∧ m.out.length ≤ co := by
  obtain ⟨vn, vo, rfl, h1, h2⟩ := h
  obtain ⟨An, cn, rfl, h3, h4⟩ := h1.shape
  obtain ⟨Ao, co, rfl, h5, h6⟩ := h2.shape
  exact ⟨An, cn, Ao, co, rfl, h4, h6, h3, h5⟩
/-- The cells of a machine in memory. -/
def MCells (w : World) (g : Nat) (i : Int) (vn vo : Value) : Prop := g < w.heap.size ∧ w.cell? ⟨g, 0, none⟩ = some (.int .i64 i) ∧ w.cell? ⟨g, 1, none⟩ = some vn ∧ w.cell? ⟨g, 2, none⟩ = some vo
theorem MCells.below {w w' : World} {g : Nat} {i : Int} {vn vo : Value} (h : MCells w g i vn vo) (hb : Below w.heap.size w w') : MCells w' g i vn vo := by
  obtain ⟨hg, c0, c1, c2⟩ := h
  exact ⟨Nat.lt_of_lt_of_le hg hb.size, (hb.cell (p := ⟨g, 0, none⟩) hg).trans c0, (hb.cell (p := ⟨g, 1, none⟩) hg).trans c1, (hb.cell (p := ⟨g, 2, none⟩) hg).trans c2⟩
theorem MCells.boxed (w : World) (i : Int) (vn vo : Value) (t : TypeId) : MCells (w.alloc (.cells #[.int .i64 i, vn, vo] t)) w.heap.size i vn vo :=
  ⟨by simp, World.cell?_alloc_new _ _ _ 0, World.cell?_alloc_new _ _ _ 1, World.cell?_alloc_new _ _ _ 2⟩
theorem bel_alloc (w : World) (o : Obj) : Below w.heap.size w (w.alloc o) := (Below.refl _ _).alloc (Nat.le_refl _) o
theorem set_grownM (w : World) (g i : Nat) (v : Value) : w.grownBy (w.setCell ⟨g, i, none⟩ v) (some g) :=
  ⟨rfl, rfl, rfl, by simp [World.setCell], fun k _ hk => heap_setCell_other w ⟨g, i, none⟩ k _ (fun e => hk (by simp [e]))⟩
theorem own_setSS {α : Type} {enc : List α → List Value} {tO ti : TypeId} {B T : Nat} {w : World} {v : Value} {xss : List (List α)} {g i : Nat} {u : Value} (h : OwnSS enc tO ti B T w v xss) (hg : g < B) : OwnSS enc tO ti B T (w.setCell ⟨g, i, none⟩ u) v xss :=
  OwnSS.only h (Only.grown (E := fun k => k = g) (set_grownM w g i u) (fun k hk => (Option.some.inj hk).symm)) (fun k hk _ e => by omega)
end Go.Proofs.Ytkkkjbinfdohpaa

namespace Go.Proofs.Ytkkkjbinfdohpaa
open Go.RowKit
set_option maxRecDepth 100000
/-! A machine under construction: its box, its rows. -/
theorem append_intss {w : World} {ops : Array Oper} {rest : List Oper} {o : Oper} {a : Act} {Q : Exit → Act → World → Prop} (hgd : o.guard = none) (s x : Operand)
    (ho : o.op = .call { callee := .builtin .append, args := #[s, x], argTypes := #[51, 51] })
    (base : Nat) (v : Value) (n : Nat) (xs : List Value) (hs : a.eval s = v) (hown : w.ownsRow base 23 1 v n xs) (sv : Value) (m : Nat) (news : List Value) (hx : a.eval x = sv) (hr : Row w 1 sv m news) (h1 : ∀ u ∈ news, u.oneCell' = true)
    (h63 : n + m ≤ 1000000) (hbase : base ≤ w.heap.size)
    (h : ∀ v' w', w'.ownsRow base 23 1 v' (n + m) (xs ++ news) → w.grownBy w' v.ownBlock → (v'.ownBlock = v.ownBlock ∨ v'.ownBlock = some w.heap.size) → wpList Try.prog ops Q rest (a.put o.dst v') w') : wpList Try.prog ops Q (o :: rest) a w := by
  obtain ⟨i, hi, hz0, hz1, hz2⟩ := info_parts info_ints
  exact wpList_append_at hgd s x 51 ho base 23 i _ 1 24 Try.underlying51 hi hz0 hz1 hz2 rfl (by decide) v n xs hs hown sv m news hx hr h1 (by unfold maxLen; omega) (by omega) hbase h
section
variable {α : Type} {enc : List α → List Value} {tO ti : TypeId} {B : Nat} {E : Nat → Prop} {w w' : World} {v : Value} {xss : List (List α)}
theorem OwnSE.grown (h : OwnSE enc tO ti B E w v xss) {r : Option Nat} (hg : w.grownBy w' r) (hr : ∀ g, r = some g → ¬ E g) : OwnSE enc tO ti B E w' v xss :=
  OwnSE.only (X := fun g => r = some g) h (Only.grown hg fun k hk => hk) fun g _ he hx => hr g hx he
theorem OwnSE.set (h : OwnSE enc tO ti B E w v xss) {g i : Nat} {u : Value} (hg : g < B) : OwnSE enc tO ti B E (w.setCell ⟨g, i, none⟩ u) v xss :=
  OwnSE.only (X := fun k => k = g) h (Only.grown (set_grown w g i u) fun k hk => (Option.some.inj hk).symm) fun k hk _ e => by omega
end
structure MB (gm : Nat) (ins : Int) (E1 E2 : Nat → Prop) (vN vO : Value) (xs ys : List (List Int)) (w : World) : Prop where
  box : w.heap[gm]? = some (.cells #[.int .i64 ins, vN, vO] 53 (0, 0))
  n : OwnIntSE (gm + 1) E1 w vN xs
  o : OwnIntSE (gm + 1) E2 w vO ys
  d : ∀ g, E1 g → ¬ E2 g
  l1 : ∀ g, E1 g → g < w.heap.size
  l2 : ∀ g, E2 g → g < w.heap.size
theorem mb_lt {gm : Nat} {ins : Int} {E1 E2 : Nat → Prop} {vN vO : Value} {xs ys : List (List Int)} {w : World} (h : MB gm ins E1 E2 vN vO xs ys w) : gm < w.heap.size := by
  rcases Nat.lt_or_ge gm w.heap.size with hl | hl
  · exact hl
  · have := h.box
    rw [Array.getElem?_eq_none hl] at this
    cases this
theorem MB.start {ins : Int} {w : World} (_ : True) : MB w.heap.size ins (fun _ => False) (fun _ => False) (.slice none 0 0) (.slice none 0 0) [] [] (w.alloc (.cells #[.int .i64 ins, .slice none 0 0, .slice none 0 0] 53)) :=
  ⟨heap_alloc_new _ _, OwnSE.nil _ _ _ _ _ _, OwnSE.nil _ _ _ _ _ _, fun _ h => h.elim, fun _ h => h.elim, fun _ h => h.elim⟩
section
variable {gm : Nat} {ins : Int} {E1 E2 : Nat → Prop} {vN vO : Value} {xs ys : List (List Int)} {w w' : World}
theorem MB.grown (h : MB gm ins E1 E2 vN vO xs ys w) {r : Option Nat} (hg : w.grownBy w' r) (h0 : r ≠ some gm) (h1 : ∀ g, r = some g → ¬ E1 g) (h2 : ∀ g, r = some g → ¬ E2 g) : MB gm ins E1 E2 vN vO xs ys w' :=
  ⟨(hg.block gm (mb_lt h) (fun e => h0 e.symm)).trans h.box, h.n.grown hg h1, h.o.grown hg h2, h.d, fun g he => Nat.lt_of_lt_of_le (h.l1 g he) hg.size, fun g he => Nat.lt_of_lt_of_le (h.l2 g he) hg.size⟩
theorem MB.below (h : MB gm ins E1 E2 vN vO xs ys w) (hb : Below w.heap.size w w') : MB gm ins E1 E2 vN vO xs ys w' :=
  h.grown (r := none) ⟨hb.os, hb.tape, hb.output, hb.size, fun k hk _ => hb.block k hk⟩ (by simp) (by simp) (by simp)
theorem MB.cells (h : MB gm ins E1 E2 vN vO xs ys w) : w.cell? ⟨gm, 0, none⟩ = some (.int .i64 ins) ∧ w.cell? ⟨gm, 1, none⟩ = some vN ∧ w.cell? ⟨gm, 2, none⟩ = some vO ∧ w.frozen? ⟨gm, 1, none⟩ = false ∧ w.frozen? ⟨gm, 2, none⟩ = false :=
  ⟨blk_cell h.box 0, blk_cell h.box 1, blk_cell h.box 2, blk_free h.box 1, blk_free h.box 2⟩
/-- A row more of next states. -/
theorem MB.addN {u v' : Value} {x : List Int} {vs : List Value} (h : MB gm ins E1 E2 vN vO xs ys w) (q1 : vs.length = xs.length) (q3 : ∀ (i : Nat) (x : List Int) (u : Value), xs[i]? = some x → vs[i]? = some u → w.ownsRow (gm + 1) 3 1 u x.length (ints x)) (q4 : vs.Pairwise Apart) (q5 : ∀ u ∈ vs, Apart u vN) (q6 : ∀ g, vN.ownBlock = some g → E1 g) (q7 : ∀ u ∈ vs, ∀ g, u.ownBlock = some g → E1 g)
    (hu : w.ownsRow (gm + 1) 3 1 u x.length (ints x)) (n1 : ∀ g, u.ownBlock = some g → ¬ E1 g) (n2 : ∀ g, u.ownBlock = some g → ¬ E2 g) (hown : w'.ownsRow (gm + 1) 23 1 v' (xs.length + 1) (vs ++ [u])) (hg : w.grownBy w' vN.ownBlock) (hat : v'.ownBlock = vN.ownBlock ∨ v'.ownBlock = some w.heap.size) :
    MB gm ins (fun g => E1 g ∨ u.ownBlock = some g ∨ v'.ownBlock = some g) E2 v' vO (xs ++ [x]) ys (w'.setCell ⟨gm, 1, none⟩ v') := by
  have hgm : vN.ownBlock ≠ some gm := fun e => by
    obtain ⟨vs', _, p2, _⟩ := h.n
    have := (p2.lt gm e).1
    omega
  have hbox := (hg.block gm (mb_lt h) (fun e => hgm e.symm)).trans h.box
  have hv2 : ∀ g, v'.ownBlock = some g → ¬ E2 g := fun g hv => by
    rcases hat with e | e
    · rw [e] at hv
      exact h.d g (q6 g hv)
    · rw [e] at hv
      intro he
      have h3 := h.l2 g he
      have h4 := Option.some.inj hv
      omega
  refine ⟨heap_setCell_same w' gm 1 _ _ v' hbox, OwnSE.set (se_append q1 q3 q4 q5 q6 q7 hu n1 hown hg hat) (Nat.lt_succ_self _), (h.o.grown hg fun g hv => h.d g (q6 g hv)).set (Nat.lt_succ_self _), ?_, ?_, ?_⟩
  · rintro g (he | he | he)
    · exact h.d g he
    · exact n2 g he
    · exact hv2 g he
  · rintro g (he | he | he)
    · have h1 := h.l1 g he; have h2 := hg.size; have h3 := (set_grown w' gm 1 v').size; omega
    · have h1 := (hu.lt g he).2; have h2 := hg.size; have h3 := (set_grown w' gm 1 v').size; omega
    · have h1 := (hown.lt g he).2; have h3 := (set_grown w' gm 1 v').size; omega
  · intro g he
    have h1 := h.l2 g he; have h2 := hg.size; have h3 := (set_grown w' gm 1 v').size; omega
/-- A row more of outputs. -/
theorem MB.addO {u v' : Value} {x : List Int} {vs : List Value} (h : MB gm ins E1 E2 vN vO xs ys w) (q1 : vs.length = ys.length) (q3 : ∀ (i : Nat) (x : List Int) (u : Value), ys[i]? = some x → vs[i]? = some u → w.ownsRow (gm + 1) 3 1 u x.length (ints x)) (q4 : vs.Pairwise Apart) (q5 : ∀ u ∈ vs, Apart u vO) (q6 : ∀ g, vO.ownBlock = some g → E2 g) (q7 : ∀ u ∈ vs, ∀ g, u.ownBlock = some g → E2 g)
    (hu : w.ownsRow (gm + 1) 3 1 u x.length (ints x)) (n1 : ∀ g, u.ownBlock = some g → ¬ E1 g) (n2 : ∀ g, u.ownBlock = some g → ¬ E2 g) (hown : w'.ownsRow (gm + 1) 23 1 v' (ys.length + 1) (vs ++ [u])) (hg : w.grownBy w' vO.ownBlock) (hat : v'.ownBlock = vO.ownBlock ∨ v'.ownBlock = some w.heap.size) :
    MB gm ins E1 (fun g => E2 g ∨ u.ownBlock = some g ∨ v'.ownBlock = some g) vN v' xs (ys ++ [x]) (w'.setCell ⟨gm, 2, none⟩ v') := by
  have hgm : vO.ownBlock ≠ some gm := fun e => by
    obtain ⟨vs', _, p2, _⟩ := h.o
    have := (p2.lt gm e).1
    omega
  have hbox := (hg.block gm (mb_lt h) (fun e => hgm e.symm)).trans h.box
  have hv1 : ∀ g, v'.ownBlock = some g → ¬ E1 g := fun g hv => by
    rcases hat with e | e
    · rw [e] at hv
      exact fun he => h.d g he (q6 g hv)
    · rw [e] at hv
      intro he
      have h3 := h.l1 g he
      have h4 := Option.some.inj hv
      omega
  refine ⟨heap_setCell_same w' gm 2 _ _ v' hbox, (h.n.grown hg fun g hv he => h.d g he (q6 g hv)).set (Nat.lt_succ_self _), OwnSE.set (se_append q1 q3 q4 q5 q6 q7 hu n2 hown hg hat) (Nat.lt_succ_self _), ?_, ?_, ?_⟩
  · rintro g h1 (he | he | he)
    · exact h.d g h1 he
    · exact n1 g he h1
    · exact hv1 g he h1
  · intro g he
    have h1 := h.l1 g he; have h2 := hg.size; have h3 := (set_grown w' gm 2 v').size; omega
  · rintro g (he | he | he)
    · have h1 := h.l2 g he; have h2 := hg.size; have h3 := (set_grown w' gm 2 v').size; omega
    · have h1 := (hu.lt g he).2; have h2 := hg.size; have h3 := (set_grown w' gm 2 v').size; omega
    · have h1 := (hown.lt g he).2; have h3 := (set_grown w' gm 2 v').size; omega
end
end Go.Proofs.Ytkkkjbinfdohpaa

namespace Go.Proofs.Ytkkkjbinfdohpaa
open Go.RowKit
/-! Rows that lie in blocks of a set: they stay while only other blocks are written. -/
def RowIn (F : Nat → Prop) (w : World) (size : Nat) (v : Value) (n : Nat) (cs : List Value) : Prop := Row w size v n cs ∧ (0 < n → ∀ g, v.ownBlock = some g → F g)
/-- The blocks from B on. -/
def From (B : Nat) : Nat → Prop := fun g => B ≤ g
theorem RowIn.only {F E : Nat → Prop} {w w' : World} {size n : Nat} {v : Value} {cs : List Value} (h : RowIn F w size v n cs) (ho : Only E w w') (hE : ∀ g, F g → ¬ E g) : RowIn F w' size v n cs := by
  obtain ⟨⟨h1, A, c, rfl, h2, h3, h4⟩, h5⟩ := h
  refine ⟨⟨h1, A, c, rfl, h2, h3, fun hn => ?_⟩, h5⟩
  obtain ⟨b, o, rfl, hb, hc⟩ := h4 hn
  refine ⟨b, o, rfl, Nat.lt_of_lt_of_le hb ho.size, fun j u hu => ?_⟩
  rw [World.cell?_of_block (ho.block b hb (hE b (h5 hn b rfl)))]
  exact hc j u hu
theorem RowIn.mono {F F' : Nat → Prop} {w : World} {size n : Nat} {v : Value} {cs : List Value} (h : RowIn F w size v n cs) (hF : ∀ g, F g → F' g) : RowIn F' w size v n cs := ⟨h.1, fun hn g hg => hF g (h.2 hn g hg)⟩
theorem RowIn.below {F : Nat → Prop} {w w' : World} {size n : Nat} {v : Value} {cs : List Value} (h : RowIn F w size v n cs) (hb : Below w.heap.size w w') : RowIn F w' size v n cs := ⟨h.1.below hb, h.2⟩
theorem RowIn.of_own {w : World} {B size n : Nat} {e : TypeId} {v : Value} {cs : List Value} (h : w.ownsRow B e size v n cs) : RowIn (fun g => B ≤ g ∧ g < w.heap.size) w size v n cs := ⟨Row.of_own h, fun _ g hg => h.lt g hg⟩
def SSIn {α : Type} (enc : List α → List Value) (F : Nat → Prop) (w : World) (v : Value) (xss : List (List α)) : Prop :=
  ∃ vs : List Value, vs.length = xss.length ∧ RowIn F w 1 v xss.length vs ∧ ∀ (i : Nat) (x : List α) (u : Value), xss[i]? = some x → vs[i]? = some u → RowIn F w 1 u x.length (enc x)
variable {α : Type} {enc : List α → List Value} {F : Nat → Prop} {w w' : World} {v : Value} {xss : List (List α)}
theorem SSIn.at (h : SSIn enc F w v xss) : SSAt enc w v xss := by
  obtain ⟨vs, h1, h2, h3⟩ := h
  exact ⟨vs, h1, h2.1, fun i x u hx hu => (h3 i x u hx hu).1⟩
theorem SSIn.only {E : Nat → Prop} (h : SSIn enc F w v xss) (ho : Only E w w') (hE : ∀ g, F g → ¬ E g) : SSIn enc F w' v xss := by
  obtain ⟨vs, h1, h2, h3⟩ := h
  exact ⟨vs, h1, h2.only ho hE, fun i x u hx hu => (h3 i x u hx hu).only ho hE⟩
theorem SSIn.below (h : SSIn enc F w v xss) (hb : Below w.heap.size w w') : SSIn enc F w' v xss := by
  obtain ⟨vs, h1, h2, h3⟩ := h
  exact ⟨vs, h1, h2.below hb, fun i x u hx hu => (h3 i x u hx hu).below hb⟩
theorem SSIn.mono {F' : Nat → Prop} (h : SSIn enc F w v xss) (hF : ∀ g, F g → F' g) : SSIn enc F' w v xss := by
  obtain ⟨vs, h1, h2, h3⟩ := h
  exact ⟨vs, h1, h2.mono hF, fun i x u hx hu => (h3 i x u hx hu).mono hF⟩
theorem SSIn.nil (enc : List α → List Value) (F : Nat → Prop) (w : World) : SSIn enc F w (.slice none 0 0) [] := ⟨[], rfl, ⟨Row.nil w 1, fun h => absurd h (Nat.lt_irrefl 0)⟩, fun i x u hx _ => by simp at hx⟩
/-- A row that was copied, and one more row behind it. -/
theorem SSIn.snoc {B : Nat} {e ti : TypeId} {v' u : Value} {x : List α} {vs : List Value} (h1 : vs.length = xss.length) (h3 : ∀ (i : Nat) (x : List α) (u : Value), xss[i]? = some x → vs[i]? = some u → RowIn F w 1 u x.length (enc x))
    (hu : w.ownsRow B ti 1 u x.length (enc x)) (hv : w.ownsRow B e 1 v' (xss.length + 1) (vs ++ [u])) : SSIn enc (fun g => F g ∨ (B ≤ g ∧ g < w.heap.size)) w v' (xss ++ [x]) := by
  refine ⟨vs ++ [u], by simp [h1], ?_, fun i y z hy hz => ?_⟩
  · rw [List.length_append, List.length_singleton]
    exact (RowIn.of_own hv).mono fun g hg => .inr hg
  · rcases Nat.lt_or_ge i xss.length with hi | hi
    · rw [List.getElem?_append_left hi] at hy
      rw [List.getElem?_append_left (by omega)] at hz
      exact (h3 i y z hy hz).mono fun g hg => .inl hg
    · have hil : i = xss.length := by
        rcases Nat.lt_or_ge xss.length i with h | h
        · rw [List.getElem?_eq_none (by simp; omega)] at hy; cases hy
        · omega
      subst hil
      rw [List.getElem?_append_right (Nat.le_refl _), Nat.sub_self] at hy
      rw [List.getElem?_append_right (by omega), h1, Nat.sub_self] at hz
      obtain rfl := Option.some.inj hy
      obtain rfl := Option.some.inj hz
      exact (RowIn.of_own hu).mono fun g hg => .inr hg
end Go.Proofs.Ytkkkjbinfdohpaa

namespace Go.Proofs.Ytkkkjbinfdohpaa
open Go.RowKit
set_option maxRecDepth 100000
/-! slices.Clone of rows of booleans, and of rows of rows. -/
theorem info_bool2 : (Try.prog.info? 4).map (fun i => (i.zero, i.size, i.bytes)) = some (some (.bool false), 1, 1) := by kernel_rfl
theorem info_bools2 : (Try.prog.info? 69).map (fun i => (i.zero, i.size, i.bytes)) = some (some (.slice none 0 0), 1, 24) := by kernel_rfl
theorem info_boolss2 : (Try.prog.info? 88).map (fun i => (i.zero, i.size, i.bytes)) = some (some (.slice none 0 0), 1, 24) := by kernel_rfl
def Cloned (e : TypeId) (n : Nat) (cs : List Value) (w : World) (r : Ending) (w' : World) : Prop := ∃ v', r = .returned v' ∧ w'.ownsRow w.heap.size e 1 v' n cs ∧ Below w.heap.size w w'
/-! append -/
theorem append_rows {w : World} {ops : Array Oper} {rest : List Oper} {o : Oper} {a : Act} {Q : Exit → Act → World → Prop} (hgd : o.guard = none) (s x : Operand)
    (ho : o.op = .call { callee := .builtin .append, args := #[s, x], argTypes := #[88, 88] })
    (base : Nat) (v : Value) (n : Nat) (xs : List Value) (hs : a.eval s = v) (hown : w.ownsRow base 69 1 v n xs) (sv : Value) (m : Nat) (news : List Value) (hx : a.eval x = sv) (hr : Row w 1 sv m news) (h1 : ∀ u ∈ news, u.oneCell' = true)
    (h63 : n + m ≤ 1000000) (hbase : base ≤ w.heap.size)
    (h : ∀ v' w', w'.ownsRow base 69 1 v' (n + m) (xs ++ news) → w.grownBy w' v.ownBlock → (v'.ownBlock = v.ownBlock ∨ v'.ownBlock = some w.heap.size) → wpList Try.prog ops Q rest (a.put o.dst v') w') : wpList Try.prog ops Q (o :: rest) a w := by
  obtain ⟨i, hi, hz0, hz1, hz2⟩ := info_parts info_bools2
  exact wpList_append_at hgd s x 88 ho base 69 i _ 1 24 Try.underlying88 hi hz0 hz1 hz2 rfl (by decide) v n xs hs hown sv m news hx hr h1 (by unfold maxLen; omega) (by omega) hbase h
theorem append_bits {w : World} {ops : Array Oper} {rest : List Oper} {o : Oper} {a : Act} {Q : Exit → Act → World → Prop} (hgd : o.guard = none) (s x : Operand)
    (ho : o.op = .call { callee := .builtin .append, args := #[s, x], argTypes := #[69, 69] })
    (base : Nat) (v : Value) (n : Nat) (xs : List Value) (hs : a.eval s = v) (hown : w.ownsRow base 4 1 v n xs) (sv : Value) (m : Nat) (news : List Value) (hx : a.eval x = sv) (hr : Row w 1 sv m news) (h1 : ∀ u ∈ news, u.oneCell' = true)
    (h63 : n + m ≤ 1000000) (hbase : base ≤ w.heap.size)
    (h : ∀ v' w', w'.ownsRow base 4 1 v' (n + m) (xs ++ news) → w.grownBy w' v.ownBlock → (v'.ownBlock = v.ownBlock ∨ v'.ownBlock = some w.heap.size) → wpList Try.prog ops Q rest (a.put o.dst v') w') : wpList Try.prog ops Q (o :: rest) a w := by
  obtain ⟨i, hi, hz0, hz1, hz2⟩ := info_parts info_bool2
  exact wpList_append_at hgd s x 69 ho base 4 i _ 1 1 Try.underlying69 hi hz0 hz1 hz2 rfl (by decide) v n xs hs hown sv m news hx hr h1 (by unfold maxLen; omega) (by omega) hbase h
theorem append_paths {w : World} {ops : Array Oper} {rest : List Oper} {o : Oper} {a : Act} {Q : Exit → Act → World → Prop} (hgd : o.guard = none) (s x : Operand)
    (ho : o.op = .call { callee := .builtin .append, args := #[s, x], argTypes := #[145, 145] })
    (base : Nat) (v : Value) (n : Nat) (xs : List Value) (hs : a.eval s = v) (hown : w.ownsRow base 88 1 v n xs) (sv : Value) (m : Nat) (news : List Value) (hx : a.eval x = sv) (hr : Row w 1 sv m news) (h1 : ∀ u ∈ news, u.oneCell' = true)
    (h63 : n + m ≤ 1000000) (hbase : base ≤ w.heap.size)
    (h : ∀ v' w', w'.ownsRow base 88 1 v' (n + m) (xs ++ news) → w.grownBy w' v.ownBlock → (v'.ownBlock = v.ownBlock ∨ v'.ownBlock = some w.heap.size) → wpList Try.prog ops Q rest (a.put o.dst v') w') : wpList Try.prog ops Q (o :: rest) a w := by
  obtain ⟨i, hi, hz0, hz1, hz2⟩ := info_parts info_boolss2
  exact wpList_append_at hgd s x 145 ho base 88 i _ 1 24 Try.underlying145 hi hz0 hz1 hz2 rfl (by decide) v n xs hs hown sv m news hx hr h1 (by unfold maxLen; omega) (by omega) hbase h
theorem cloneB_any (v : Value) (n : Nat) (cs : List Value) (w : World) (h : Row w 1 v n cs) (h1 : ∀ u ∈ cs, u.oneCell' = true) (hn : n ≤ 1000) :
    Calls Try.prog 119 #[v] w (Cloned 4 n cs w) := by
  have he := fun (w : World) (a : Option Addr) (n c : Nat) => Lib.run_eql_slice_nil (P := Try.prog) w 69 4 a n c 0 0 Try.underlying69
  have hr := Lib.hid h
  obtain ⟨hl, A, c, rfl, hc, hcm, hcell⟩ := h
  cases A with
  | none =>
    have hn0 : n = 0 := by
      rcases Nat.eq_zero_or_pos n with h0 | h0
      · exact h0
      · obtain ⟨b, o, hx, -⟩ := hcell h0; cases hx
    subst hn0
    obtain rfl : cs = [] := List.eq_nil_of_length_eq_zero (by simpa using hl)
    clear hl hcell h1 hr
    go_enter Try.func119, Try.ntmps119
    go_wp2_with fail
    go_ret
    exact ⟨_, rfl, World.ownsRow_nil _ _ _ _, Below.refl _ _⟩
  | some p =>
    have Hown0 := Lib.hid (World.ownsRow_lit (base := w.heap.size) (e := 4) (size := 1) w #[] 0 (Nat.le_refl _) (by unfold maxLen; omega) rfl)
    have H1 := Lib.hid h1
    clear hl hcell h1
    go_enter Try.func119, Try.ntmps119
    go_wp2_with (at_builtin; refine append_bits rfl (.tmp 5) (.tmp 6) rfl w.heap.size _ 0 _ rfl Hown0.out _ n cs rfl (hr.out.alloc _) H1.out (by omega) (by simp) ?_; intro v5 w5 hown5 hg5 hat5; have Ho5 := Lib.hid hown5; have Hg5 := Lib.hid hg5; clear hown5 hg5 hat5)
    go_ret
    refine ⟨_, rfl, ?_, ((Below.refl _ _).alloc (Nat.le_refl _) _).grown Hg5.out (by simp) (own_ge0 Hown0.out)⟩
    have := Ho5.out
    simpa using this
theorem cloneSS_any (v : Value) (n : Nat) (cs : List Value) (w : World) (h : Row w 1 v n cs) (h1 : ∀ u ∈ cs, u.oneCell' = true) (hn : n ≤ 1000) :
    Calls Try.prog 118 #[v] w (Cloned 69 n cs w) := by
  have he := fun (w : World) (a : Option Addr) (n c : Nat) => Lib.run_eql_slice_nil (P := Try.prog) w 88 69 a n c 0 0 Try.underlying88
  have hr := Lib.hid h
  obtain ⟨hl, A, c, rfl, hc, hcm, hcell⟩ := h
  cases A with
  | none =>
    have hn0 : n = 0 := by
      rcases Nat.eq_zero_or_pos n with h0 | h0
      · exact h0
      · obtain ⟨b, o, hx, -⟩ := hcell h0; cases hx
    subst hn0
    obtain rfl : cs = [] := List.eq_nil_of_length_eq_zero (by simpa using hl)
    clear hl hcell h1 hr
    go_enter Try.func118, Try.ntmps118
    go_wp2_with fail
    go_ret
    exact ⟨_, rfl, World.ownsRow_nil _ _ _ _, Below.refl _ _⟩
  | some p =>
    have Hown0 := Lib.hid (World.ownsRow_lit (base := w.heap.size) (e := 69) (size := 1) w #[] 0 (Nat.le_refl _) (by unfold maxLen; omega) rfl)
    have H1 := Lib.hid h1
    clear hl hcell h1
    go_enter Try.func118, Try.ntmps118
    go_wp2_with (at_builtin; refine append_rows rfl (.tmp 5) (.tmp 6) rfl w.heap.size _ 0 _ rfl Hown0.out _ n cs rfl (hr.out.alloc _) H1.out (by omega) (by simp) ?_; intro v5 w5 hown5 hg5 hat5; have Ho5 := Lib.hid hown5; have Hg5 := Lib.hid hg5; clear hown5 hg5 hat5)
    go_ret
    refine ⟨_, rfl, ?_, ((Below.refl _ _).alloc (Nat.le_refl _) _).grown Hg5.out (by simp) (own_ge0 Hown0.out)⟩
    have := Ho5.out
    simpa using this
end Go.Proofs.Ytkkkjbinfdohpaa

namespace Go.Proofs.Ytkkkjbinfdohpaa
open Go.RowKit
set_option maxRecDepth 100000
/-! The next state and the outputs, by the reference; small searches in lists. -/
theorem step_field0 (A B : Option Addr) (n m c q : Nat) (w : World) : (Instr.field 138 (.agg #[.slice A n c, .slice B m q]) 0).run Try.prog w = .ok (.slice A n c) w := by kernel_rfl
theorem step_field1 (A B : Option Addr) (n m c q : Nat) (w : World) : (Instr.field 138 (.agg #[.slice A n c, .slice B m q]) 1).run Try.prog w = .ok (.slice B m q) w := by kernel_rfl
/-- l2Step, drawn: a struct of two rows. -/
def TStep (so st : List Bool) : Ty := fun w v => ∃ a b, v = .agg #[a, b] ∧ BoolsAt w a so ∧ BoolsAt w b st
theorem stb_step (so st : List Bool) : Stb (fun _ => False) (TStep so st) := by
  rintro v w w' ⟨a, b, rfl, h1, h2⟩ ho
  exact ⟨a, b, rfl, stb_bools _ _ _ _ h1 ho, stb_bools _ _ _ _ h2 ho⟩
set_option maxHeartbeats 4000000 in
theorem l16Next_any (v : Value) (d : Ci) (s x : Nat) (w : World) (h : CircAt w v (Cir.toCz d)) (hd : Cir.Ok d) (hs : s ≤ 1000) (hx : x ≤ 1000) :
    Calls Try.prog 75 #[v, .int .i64 s, .int .i64 x] w fun e w' => e = .returned (.int .i64 (Cir.nextOf d s x : Nat)) ∧ Below w.heap.size w w' := by
  have l1 := hd.ins
  have l2 := hd.nexts
  have HC := Lib.hid h
  obtain ⟨vn, vg, vo, rfl, r1, r2, r3⟩ := h
  obtain ⟨An, cn, rfl, hcn, hcmn⟩ := NatsAt.shape (xs := d.next) r1
  have hins : (Cir.toCz d).ins = (d.ins : Int) := rfl
  rw [hins] at HC ⊢
  have B0 := Lib.hid (bel_new w (.cells #[.int .i64 d.ins, .slice An d.next.length cn, vg, vo] 26))
  obtain ⟨z, p0, p1, p2, p3⟩ := PCells.boxed w d.ins (.slice An d.next.length cn) vg vo 26
  have HC := Lib.hid (HC.out.below B0.out)
  have Hd := Lib.hid hd
  have HNx : Hid (Cir.nextOf d s x = Cir.num (Cir.lits (Cir.vals d (Cir.bits s d.next.length) (Cir.bits x d.ins)) d.next)) := Lib.hid rfl
  clear r1 r2 r3 hd hins
  go_enter Try.func75, Try.ntmps75
  go_wp2_with fail
  generalize w.alloc (.cells #[.int .i64 d.ins, .slice An d.next.length cn, vg, vo] 26) = W at *
  refine wp_region_rs (quietRS Try.prog _ W _) quietRS_ok (by kernel_rfl) (by kernel_rfl) (by kernel_rfl) (Nat.le_of_ble_eq_true rfl) trivial trivial ?_
  apply rs_eq quietRS_ok quiet_any
  · intro ρ w' ho hK
    have ho : Only _ W w' := ho
    obtain ⟨h0, -⟩ := hK
    have h0' : ρ (.tmp 3) = _ := h0
    have hb := only_below ho
    have q0 := (hb.cell (p := ⟨w.heap.size, 0, none⟩) z).trans p0
    have q1 := (hb.cell (p := ⟨w.heap.size, 1, none⟩) z).trans p1
    have q2 := (hb.cell (p := ⟨w.heap.size, 2, none⟩) z).trans p2
    have q3 := (hb.cell (p := ⟨w.heap.size, 3, none⟩) z).trans p3
    go_simp
    try exact rfl
  refine rs_old quietRS_ok quiet_any _ (.inl rfl) _ rfl rfl ?_
  apply rs_eq quietRS_ok quiet_any
  · intro ρ w' ho hK
    have ho : Only _ W w' := ho
    obtain ⟨h0, -⟩ := hK
    have h0' : ρ (.tmp 3) = _ := h0
    go_simp
    try exact rfl
  apply rs_eq quietRS_ok quiet_any
  · intro ρ w' ho hK
    have ho : Only _ W w' := ho
    obtain ⟨h0, -⟩ := hK
    have h0' : ρ (.tmp 9) = _ := h0
    have hb := only_below ho
    have q0 := (hb.cell (p := ⟨w.heap.size, 0, none⟩) z).trans p0
    have q1 := (hb.cell (p := ⟨w.heap.size, 1, none⟩) z).trans p1
    have q2 := (hb.cell (p := ⟨w.heap.size, 2, none⟩) z).trans p2
    have q3 := (hb.cell (p := ⟨w.heap.size, 3, none⟩) z).trans p3
    go_simp
    try exact rfl
  apply rs_eq quietRS_ok quiet_any
  · intro ρ w' ho hK
    have ho : Only _ W w' := ho
    obtain ⟨h0, -⟩ := hK
    have h0' : ρ (.tmp 10) = _ := h0
    go_simp
    try exact rfl
  refine rs_call quietRS_ok quiet_any (TBools (Cir.bits s d.next.length)) (stb_bools _) 46 _ _ rfl (fun ρ w' ho hK => by
    have ho : Only _ W w' := ho
    obtain ⟨h0, h1, h2, -⟩ := hK
    have h0' : ρ (.func 46) = .func (.func 46) #[] #[] := h0
    have h1' : ρ (.tmp 8) = _ := h1
    have h2' : ρ (.tmp 11) = _ := h2
    refine ⟨#[ρ (.tmp 8), ρ (.tmp 11)], ?_, ?_⟩
    · go_simp
    · rw [h1', h2']
      refine (l4Bits_any s d.next.length w' (by omega) (by omega)).mono ?_
      rintro e w2 ⟨v2, rfl, hO, hb⟩
      exact ⟨v2, rfl, Row.of_own hO, hb⟩) ?_
  refine rs_old quietRS_ok quiet_any _ (.inl rfl) _ rfl rfl ?_
  apply rs_eq quietRS_ok quiet_any
  · intro ρ w' ho hK
    have ho : Only _ W w' := ho
    obtain ⟨h0, -⟩ := hK
    have h0' : ρ (.tmp 3) = _ := h0
    go_simp
    try exact rfl
  apply rs_eq quietRS_ok quiet_any
  · intro ρ w' ho hK
    have ho : Only _ W w' := ho
    obtain ⟨h0, -⟩ := hK
    have h0' : ρ (.tmp 14) = _ := h0
    have hb := only_below ho
    have q0 := (hb.cell (p := ⟨w.heap.size, 0, none⟩) z).trans p0
    have q1 := (hb.cell (p := ⟨w.heap.size, 1, none⟩) z).trans p1
    have q2 := (hb.cell (p := ⟨w.heap.size, 2, none⟩) z).trans p2
    have q3 := (hb.cell (p := ⟨w.heap.size, 3, none⟩) z).trans p3
    go_simp
    try exact rfl
  refine rs_call quietRS_ok quiet_any (TBools (Cir.bits x d.ins)) (stb_bools _) 46 _ _ rfl (fun ρ w' ho hK => by
    have ho : Only _ W w' := ho
    obtain ⟨h0, h1, h2, -⟩ := hK
    have h0' : ρ (.func 46) = .func (.func 46) #[] #[] := h0
    have h1' : ρ (.tmp 13) = _ := h1
    have h2' : ρ (.tmp 15) = _ := h2
    refine ⟨#[ρ (.tmp 13), ρ (.tmp 15)], ?_, ?_⟩
    · go_simp
    · rw [h1', h2']
      refine (l4Bits_any x d.ins w' (by omega) (by omega)).mono ?_
      rintro e w2 ⟨v2, rfl, hO, hb⟩
      exact ⟨v2, rfl, Row.of_own hO, hb⟩) ?_
  refine rs_call quietRS_ok quiet_any (TStep (Cir.outsOf d s x) (Cir.lits (Cir.vals d (Cir.bits s d.next.length) (Cir.bits x d.ins)) d.next)) (stb_step _ _) 111 _ _ rfl (fun ρ w' ho hK => by
    have ho : Only _ W w' := ho
    obtain ⟨h0, h1, h2, h3, -⟩ := hK
    have h0' : ρ (.func 111) = .func (.func 111) #[] #[] := h0
    have h1' : ρ (.tmp 7) = _ := h1
    have h2' : (TBools (Cir.bits s d.next.length)) w' (ρ (.tmp 12)) := h2
    have h3' : (TBools (Cir.bits x d.ins)) w' (ρ (.tmp 16)) := h3
    refine ⟨#[ρ (.tmp 7), ρ (.tmp 12), ρ (.tmp 16)], ?_, ?_⟩
    · go_simp
    · rw [h1']
      refine (l2Step_any _ _ _ d _ _ w' (HC.out.below (only_below ho)) Hd.out h2' h3' (Cir.bits_length _ _) (Cir.bits_length _ _)).mono ?_
      rintro e w2 ⟨a, b, rfl, oa, ob, hb⟩
      exact ⟨_, rfl, ⟨a, b, rfl, Row.of_own oa, Row.of_own ob⟩, hb⟩) ?_
  refine rs_look quietRS_ok quiet_any (TBools (Cir.lits (Cir.vals d (Cir.bits s d.next.length) (Cir.bits x d.ins)) d.next)) (stb_bools _) (fun ρ w' ho hK => by
    obtain ⟨h0, -⟩ := hK
    obtain ⟨a, b, e0, ha, hb⟩ : (TStep (Cir.outsOf d s x) (Cir.lits (Cir.vals d (Cir.bits s d.next.length) (Cir.bits x d.ins)) d.next)) w' (ρ (.tmp 17)) := h0
    obtain ⟨Aa, ca, rfl, -⟩ := Row.shape ha
    obtain ⟨Ab, cb, rfl, -⟩ := Row.shape hb
    have hf := fun n m => step_field1 Aa Ab n m ca cb w'
    refine ⟨_, ?_, hb⟩
    go_simp) ?_
  refine rs_call quietRS_ok quiet_any (TEq (.int .i64 (Cir.nextOf d s x : Nat))) (stb_eq _ _) 76 _ _ rfl (fun ρ w' ho hK => by
    have ho : Only _ W w' := ho
    obtain ⟨h0, h1, -⟩ := hK
    have h0' : ρ (.func 76) = .func (.func 76) #[] #[] := h0
    have h1' : (TBools (Cir.lits (Cir.vals d (Cir.bits s d.next.length) (Cir.bits x d.ins)) d.next)) w' (ρ (.tmp 18)) := h1
    refine ⟨#[ρ (.tmp 18)], ?_, ?_⟩
    · go_simp
    · skip
      refine (l16Number_any _ _ w' h1' (by rw [lits_length]; omega)).mono ?_
      rintro e w2 ⟨rfl, rfl⟩
      exact ⟨_, rfl, by rw [HNx.out]; rfl, Below.refl _ _⟩) ?_
  refine rs_same quietRS_ok quiet_any 19 12 (.inr rfl) rfl _ rfl ?_
  intro f w9 k9 hk9 hI9 ht9 hcp9
  have E0 : f 0 = _ := ht9 0 (Nat.le_of_ble_eq_true rfl)
  have E1 : f 1 = _ := ht9 1 (Nat.le_of_ble_eq_true rfl)
  conv at E1 => rhs; whnf
  have E2 : f 2 = _ := ht9 2 (Nat.le_of_ble_eq_true rfl)
  have E3 : f 3 = _ := ht9 3 (Nat.le_of_ble_eq_true rfl)
  have E4 : f 4 = _ := ht9 4 (Nat.le_of_ble_eq_true rfl)
  have E5 : (TBools (Cir.bits s d.next.length)) w9 (f 5) := ht9 5 (Nat.le_of_ble_eq_true rfl)
  have E6 : f 6 = _ := ht9 6 (Nat.le_of_ble_eq_true rfl)
  conv at E6 => rhs; whnf
  have E7 : f 7 = _ := ht9 7 (Nat.le_of_ble_eq_true rfl)
  have E8 : f 8 = _ := ht9 8 (Nat.le_of_ble_eq_true rfl)
  have E9 : (TBools (Cir.bits x d.ins)) w9 (f 9) := ht9 9 (Nat.le_of_ble_eq_true rfl)
  have E10 : (TStep (Cir.outsOf d s x) (Cir.lits (Cir.vals d (Cir.bits s d.next.length) (Cir.bits x d.ins)) d.next)) w9 (f 10) := ht9 10 (Nat.le_of_ble_eq_true rfl)
  have E11 : (TBools (Cir.lits (Cir.vals d (Cir.bits s d.next.length) (Cir.bits x d.ins)) d.next)) w9 (f 11) := ht9 11 (Nat.le_of_ble_eq_true rfl)
  have E12 : f 12 = _ := ht9 12 (Nat.le_of_ble_eq_true rfl)
  have E13 : f 13 = _ := ht9 13 (Nat.le_of_ble_eq_true rfl)
  have Ho9 : Only _ W w9 := hI9.2.1
  simp only [putAll, E0, E1, E2, E3, E4, E6, E7, E8, E12, E13, Nat.zero_add, Nat.reduceAdd, Act.put, List.setIfInBounds_toArray, List.set_cons_succ, List.set_cons_zero]
  clear E0 E1 E2 E3 E4 E6 E7 E8 E12 E13
  clear hI9 ht9 hcp9 hk9
  generalize f 5 = r5 at *
  generalize f 9 = r9 at *
  generalize f 10 = r10 at *
  generalize f 11 = r11 at *
  have B := Lib.hid (B0.out.trans ((only_below Ho9).mono B0.out.size))
  clear Ho9 E5 E9 E10 E11 p0 p1 p2 p3
  go_wp2_with fail
  go_ret
  exact ⟨rfl, B.out⟩
set_option maxHeartbeats 4000000 in
theorem l16Outs_any (v : Value) (d : Ci) (s x : Nat) (w : World) (h : CircAt w v (Cir.toCz d)) (hd : Cir.Ok d) (hs : s ≤ 1000) (hx : x ≤ 1000) :
    Calls Try.prog 77 #[v, .int .i64 s, .int .i64 x] w fun e w' => (∃ u, e = .returned u ∧ BoolsAt w' u (Cir.outsOf d s x)) ∧ Below w.heap.size w w' := by
  have l1 := hd.ins
  have l2 := hd.nexts
  have HC := Lib.hid h
  obtain ⟨vn, vg, vo, rfl, r1, r2, r3⟩ := h
  obtain ⟨An, cn, rfl, hcn, hcmn⟩ := NatsAt.shape (xs := d.next) r1
  have hins : (Cir.toCz d).ins = (d.ins : Int) := rfl
  rw [hins] at HC ⊢
  have B0 := Lib.hid (bel_new w (.cells #[.int .i64 d.ins, .slice An d.next.length cn, vg, vo] 26))
  obtain ⟨z, p0, p1, p2, p3⟩ := PCells.boxed w d.ins (.slice An d.next.length cn) vg vo 26
  have HC := Lib.hid (HC.out.below B0.out)
  have Hd := Lib.hid hd
  clear r1 r2 r3 hd hins
  go_enter Try.func77, Try.ntmps77
  go_wp2_with fail
  generalize w.alloc (.cells #[.int .i64 d.ins, .slice An d.next.length cn, vg, vo] 26) = W at *
  refine wp_region_rs (quietRS Try.prog _ W _) quietRS_ok (by kernel_rfl) (by kernel_rfl) (by kernel_rfl) (Nat.le_of_ble_eq_true rfl) trivial trivial ?_
  apply rs_eq quietRS_ok quiet_any
  · intro ρ w' ho hK
    have ho : Only _ W w' := ho
    obtain ⟨h0, -⟩ := hK
    have h0' : ρ (.tmp 3) = _ := h0
    have hb := only_below ho
    have q0 := (hb.cell (p := ⟨w.heap.size, 0, none⟩) z).trans p0
    have q1 := (hb.cell (p := ⟨w.heap.size, 1, none⟩) z).trans p1
    have q2 := (hb.cell (p := ⟨w.heap.size, 2, none⟩) z).trans p2
    have q3 := (hb.cell (p := ⟨w.heap.size, 3, none⟩) z).trans p3
    go_simp
    try exact rfl
  refine rs_old quietRS_ok quiet_any _ (.inl rfl) _ rfl rfl ?_
  apply rs_eq quietRS_ok quiet_any
  · intro ρ w' ho hK
    have ho : Only _ W w' := ho
    obtain ⟨h0, -⟩ := hK
    have h0' : ρ (.tmp 3) = _ := h0
    go_simp
    try exact rfl
  apply rs_eq quietRS_ok quiet_any
  · intro ρ w' ho hK
    have ho : Only _ W w' := ho
    obtain ⟨h0, -⟩ := hK
    have h0' : ρ (.tmp 9) = _ := h0
    have hb := only_below ho
    have q0 := (hb.cell (p := ⟨w.heap.size, 0, none⟩) z).trans p0
    have q1 := (hb.cell (p := ⟨w.heap.size, 1, none⟩) z).trans p1
    have q2 := (hb.cell (p := ⟨w.heap.size, 2, none⟩) z).trans p2
    have q3 := (hb.cell (p := ⟨w.heap.size, 3, none⟩) z).trans p3
    go_simp
    try exact rfl
  apply rs_eq quietRS_ok quiet_any
  · intro ρ w' ho hK
    have ho : Only _ W w' := ho
    obtain ⟨h0, -⟩ := hK
    have h0' : ρ (.tmp 10) = _ := h0
    go_simp
    try exact rfl
  refine rs_call quietRS_ok quiet_any (TBools (Cir.bits s d.next.length)) (stb_bools _) 46 _ _ rfl (fun ρ w' ho hK => by
    have ho : Only _ W w' := ho
    obtain ⟨h0, h1, h2, -⟩ := hK
    have h0' : ρ (.func 46) = .func (.func 46) #[] #[] := h0
    have h1' : ρ (.tmp 8) = _ := h1
    have h2' : ρ (.tmp 11) = _ := h2
    refine ⟨#[ρ (.tmp 8), ρ (.tmp 11)], ?_, ?_⟩
    · go_simp
    · rw [h1', h2']
      refine (l4Bits_any s d.next.length w' (by omega) (by omega)).mono ?_
      rintro e w2 ⟨v2, rfl, hO, hb⟩
      exact ⟨v2, rfl, Row.of_own hO, hb⟩) ?_
  refine rs_old quietRS_ok quiet_any _ (.inl rfl) _ rfl rfl ?_
  apply rs_eq quietRS_ok quiet_any
  · intro ρ w' ho hK
    have ho : Only _ W w' := ho
    obtain ⟨h0, -⟩ := hK
    have h0' : ρ (.tmp 3) = _ := h0
    go_simp
    try exact rfl
  apply rs_eq quietRS_ok quiet_any
  · intro ρ w' ho hK
    have ho : Only _ W w' := ho
    obtain ⟨h0, -⟩ := hK
    have h0' : ρ (.tmp 14) = _ := h0
    have hb := only_below ho
    have q0 := (hb.cell (p := ⟨w.heap.size, 0, none⟩) z).trans p0
    have q1 := (hb.cell (p := ⟨w.heap.size, 1, none⟩) z).trans p1
    have q2 := (hb.cell (p := ⟨w.heap.size, 2, none⟩) z).trans p2
    have q3 := (hb.cell (p := ⟨w.heap.size, 3, none⟩) z).trans p3
    go_simp
    try exact rfl
  refine rs_call quietRS_ok quiet_any (TBools (Cir.bits x d.ins)) (stb_bools _) 46 _ _ rfl (fun ρ w' ho hK => by
    have ho : Only _ W w' := ho
    obtain ⟨h0, h1, h2, -⟩ := hK
    have h0' : ρ (.func 46) = .func (.func 46) #[] #[] := h0
    have h1' : ρ (.tmp 13) = _ := h1
    have h2' : ρ (.tmp 15) = _ := h2
    refine ⟨#[ρ (.tmp 13), ρ (.tmp 15)], ?_, ?_⟩
    · go_simp
    · rw [h1', h2']
      refine (l4Bits_any x d.ins w' (by omega) (by omega)).mono ?_
      rintro e w2 ⟨v2, rfl, hO, hb⟩
      exact ⟨v2, rfl, Row.of_own hO, hb⟩) ?_
  refine rs_call quietRS_ok quiet_any (TStep (Cir.outsOf d s x) (Cir.lits (Cir.vals d (Cir.bits s d.next.length) (Cir.bits x d.ins)) d.next)) (stb_step _ _) 111 _ _ rfl (fun ρ w' ho hK => by
    have ho : Only _ W w' := ho
    obtain ⟨h0, h1, h2, h3, -⟩ := hK
    have h0' : ρ (.func 111) = .func (.func 111) #[] #[] := h0
    have h1' : ρ (.tmp 7) = _ := h1
    have h2' : (TBools (Cir.bits s d.next.length)) w' (ρ (.tmp 12)) := h2
    have h3' : (TBools (Cir.bits x d.ins)) w' (ρ (.tmp 16)) := h3
    refine ⟨#[ρ (.tmp 7), ρ (.tmp 12), ρ (.tmp 16)], ?_, ?_⟩
    · go_simp
    · rw [h1']
      refine (l2Step_any _ _ _ d _ _ w' (HC.out.below (only_below ho)) Hd.out h2' h3' (Cir.bits_length _ _) (Cir.bits_length _ _)).mono ?_
      rintro e w2 ⟨a, b, rfl, oa, ob, hb⟩
      exact ⟨_, rfl, ⟨a, b, rfl, Row.of_own oa, Row.of_own ob⟩, hb⟩) ?_
  refine rs_look quietRS_ok quiet_any (TBools (Cir.outsOf d s x)) (stb_bools _) (fun ρ w' ho hK => by
    obtain ⟨h0, -⟩ := hK
    obtain ⟨a, b, e0, ha, hb⟩ : (TStep (Cir.outsOf d s x) (Cir.lits (Cir.vals d (Cir.bits s d.next.length) (Cir.bits x d.ins)) d.next)) w' (ρ (.tmp 17)) := h0
    obtain ⟨Aa, ca, rfl, -⟩ := Row.shape ha
    obtain ⟨Ab, cb, rfl, -⟩ := Row.shape hb
    have hf := fun n m => step_field0 Aa Ab n m ca cb w'
    refine ⟨_, ?_, ha⟩
    go_simp) ?_
  refine rs_same quietRS_ok quiet_any 18 11 (.inr rfl) rfl _ rfl ?_
  intro f w9 k9 hk9 hI9 ht9 hcp9
  have E0 : f 0 = _ := ht9 0 (Nat.le_of_ble_eq_true rfl)
  have E1 : f 1 = _ := ht9 1 (Nat.le_of_ble_eq_true rfl)
  conv at E1 => rhs; whnf
  have E2 : f 2 = _ := ht9 2 (Nat.le_of_ble_eq_true rfl)
  have E3 : f 3 = _ := ht9 3 (Nat.le_of_ble_eq_true rfl)
  have E4 : f 4 = _ := ht9 4 (Nat.le_of_ble_eq_true rfl)
  have E5 : (TBools (Cir.bits s d.next.length)) w9 (f 5) := ht9 5 (Nat.le_of_ble_eq_true rfl)
  have E6 : f 6 = _ := ht9 6 (Nat.le_of_ble_eq_true rfl)
  conv at E6 => rhs; whnf
  have E7 : f 7 = _ := ht9 7 (Nat.le_of_ble_eq_true rfl)
  have E8 : f 8 = _ := ht9 8 (Nat.le_of_ble_eq_true rfl)
  have E9 : (TBools (Cir.bits x d.ins)) w9 (f 9) := ht9 9 (Nat.le_of_ble_eq_true rfl)
  have E10 : (TStep (Cir.outsOf d s x) (Cir.lits (Cir.vals d (Cir.bits s d.next.length) (Cir.bits x d.ins)) d.next)) w9 (f 10) := ht9 10 (Nat.le_of_ble_eq_true rfl)
  have E11 : (TBools (Cir.outsOf d s x)) w9 (f 11) := ht9 11 (Nat.le_of_ble_eq_true rfl)
  have E12 : (TBools (Cir.outsOf d s x)) w9 (f 12) := ht9 12 (Nat.le_of_ble_eq_true rfl)
  have Ho9 : Only _ W w9 := hI9.2.1
  have C12 : f 12 = f 11 := (hcp9 12 _ 18 11 rfl rfl rfl rfl).2
  simp only [putAll, E0, E1, E2, E3, E4, E6, E7, E8, C12, Nat.zero_add, Nat.reduceAdd, Act.put, List.setIfInBounds_toArray, List.set_cons_succ, List.set_cons_zero]
  clear E0 E1 E2 E3 E4 E6 E7 E8
  clear hI9 ht9 hcp9 hk9
  generalize f 5 = r5 at *
  generalize f 9 = r9 at *
  generalize f 10 = r10 at *
  generalize f 11 = r11 at *
  have B := Lib.hid (B0.out.trans ((only_below Ho9).mono B0.out.size))
  have HU := Lib.hid E11
  clear Ho9 E5 E9 E10 E11 p0 p1 p2 p3
  go_wp2_with fail
  go_ret
  exact ⟨⟨_, rfl, HU.out⟩, B.out⟩
theorem l16Has_any (v : Value) (xs : List Nat) (n : Nat) (w : World) (h : NatsAt w v xs) (hn : n ≤ 1000000) :
    Calls Try.prog 95 #[v, .int .i64 n] w fun e w' => e = .returned (.bool (Cir.memB xs n)) ∧ w = w' := by
  obtain ⟨A, c, rfl, hc, hcm⟩ := h.shape
  unfold maxLen at hcm
  have H := Lib.hid h
  have h0 : Hid (Cir.memB xs n = (xs.drop 0).contains n) := Lib.hid rfl
  generalize Cir.memB xs n = res at h0 ⊢
  clear h
  go_enter Try.func95, Try.ntmps95
  go_wp2_with fail
  go_loop [5] (fun i => ∃ k : Nat, k ≤ xs.length ∧ i = .int .i64 k ∧ Hid (res = (xs.drop k).contains n)) (fun i => xs.length - (intOf i).toNat)
  case atStart => exact ⟨0, Nat.zero_le _, rfl, h0⟩
  case round =>
    obtain ⟨k, hk, rfl, hres⟩ := hrel
    clear h0
    by_cases hlt : k < xs.length
    · obtain ⟨b, o, x, rfl, hbl, hx, hs1⟩ := nats_cell (nats_row H.out) rfl hlt
      have Hstep : Hid ((xs.drop k).contains n = (n == x || (xs.drop (k + 1)).contains n)) := Lib.hid (by
        obtain ⟨hk', e⟩ := List.getElem?_eq_some_iff.1 hx.out
        rw [List.drop_eq_getElem_cons hk', e, List.contains_cons])
      by_cases hxn : x = n
      · obtain rfl : res = true := by rw [hres.out, Hstep.out, hxn]; simp
        have hq : ((x : Int) == (n : Int)) = true := by simp [hxn]
        clear hxn
        go_wp2_with fail
        go_ret
        exact ⟨rfl, rfl⟩
      · have Hn : Hid (res = (xs.drop (k + 1)).contains n) := Lib.hid (by rw [hres.out, Hstep.out, show (n == x) = false from by simpa using fun e => hxn e.symm]; rfl)
        have hq : ((x : Int) == (n : Int)) = false := by simp; omega
        clear hxn
        go_wp2_with fail
        go_round
        case rel => exact ⟨k + 1, by omega, by go_num, Hn⟩
        case measure => simp [intOf] <;> omega
    · obtain rfl : res = false := by rw [hres.out, List.drop_eq_nil_of_le (by omega : xs.length ≤ k)]; rfl
      go_wp2_with fail
      go_ret
      exact ⟨rfl, rfl⟩
end Go.Proofs.Ytkkkjbinfdohpaa

namespace Go.Proofs.Ytkkkjbinfdohpaa
open Go.RowKit
set_option maxRecDepth 100000
namespace Cir
def evalOk (c : Cz) (st inp : List Int) : Bool := valid c && (decide (st.length = c.next.length) && (decide ((inp.length : Int) = c.ins) && (st.all tern && inp.all tern)))
/-- What EvalTernary answers. -/
def evalT (c : Cz) (st inp : List Int) : List Int := if evalOk c st inp = true then nats (tvals (nat c) (st.map Int.toNat) (inp.map Int.toNat)) else []
theorem tern_nats : ∀ {xs : List Int}, xs.all tern = true → xs = nats (xs.map Int.toNat) ∧ ∀ x ∈ xs.map Int.toNat, x ≤ 2
  | [], _ => ⟨rfl, by simp⟩
  | x :: xs, h => by
    rw [List.all_cons, Bool.and_eq_true] at h
    obtain ⟨h1, h2⟩ := tern_nats h.2
    have h0 : 0 ≤ x ∧ x ≤ 2 := by have := h.1; unfold tern at this; simpa using this
    refine ⟨?_, ?_⟩
    · rw [List.map_cons, nats, List.map_cons, ← nats, ← h1]
      congr 1
      simp; omega
    · intro y hy
      rw [List.map_cons] at hy
      rcases List.mem_cons.1 hy with rfl | hy
      · omega
      · exact h2 y hy
theorem evalT_no {c : Cz} {st inp : List Int} (h : evalOk c st inp = false) : evalT c st inp = [] := by unfold evalT; rw [h]; rfl
end Cir
theorem bel_al (w : World) (o : Obj) : Below w.heap.size w (w.alloc o) := (Below.refl _ _).alloc (Nat.le_refl _) o
end Go.Proofs.Ytkkkjbinfdohpaa
