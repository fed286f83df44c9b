import Derived.Test.YtlbfejdbfhgifaaS04
import Derived.Test.YtlbfejdbfhgifaaS05
import Derived.Test.YtlbfejdbfhgifaaS10
import Derived.Test.YtlbfejdbfhgifaaS02
import Derived.Test.YtlbfejdbfhgifaaS03
set_option linter.unusedVariables false
set_option linter.unusedSimpArgs false
namespace Go.Proofs.Ytlbfejdbfhgifaa
open Go.RowKit Go.Maps
set_option maxRecDepth 100000
/-! The round over a set, in whatever order. -/
/-- Block r runs over the set S in block b; L: what is still to come. -/
def RSet (w : World) (b r n : Nat) (S L : Nat → Bool) (cnt : Nat) : Prop :=
  ∃ (D : DataW Unit) (left : Lit → Bool), w.ranges Try.prog 3 (plainElem Try.prog 4) b r n D left cnt ∧ IsMap D ∧ (∀ x : Nat, D.atKey (.int .i64 (x : Int)) (.lit (.bool false)) = .lit (.bool (S x))) ∧ (∀ x : Nat, left (.int .i64 (x : Int)) = L x) ∧ (∀ kl, left kl = true → ∃ x : Nat, kl = .int .i64 (x : Int) ∧ S x = true ∧ (x : Int) ≤ 9223372036854775807)
theorem RSet.kept {w w' : World} {b r n : Nat} {S L : Nat → Bool} {cnt : Nat} {row : Option Nat} (h : RSet w b r n S L cnt) (hg : w.grownBy w' row) (hb : some b ≠ row) (hr : some r ≠ row) : RSet w' b r n S L cnt := by
  obtain ⟨D, left, h1, h2⟩ := h
  exact ⟨D, left, h1.kept hg hb hr, h2⟩
theorem RSet.below {w w' : World} {b r n : Nat} {S L : Nat → Bool} {cnt : Nat} (h : RSet w b r n S L cnt) (hb : Below w.heap.size w w') : RSet w' b r n S L cnt :=
  h.kept (row := none) ⟨hb.os, hb.tape, hb.output, hb.size, fun k hk _ => hb.block k hk⟩ (by simp) (by simp)
theorem RSet.left {w : World} {b r n : Nat} {S L : Nat → Bool} {cnt : Nat} (h : RSet w b r n S L cnt) : w.rangeLeft b r = cnt := by
  obtain ⟨D, left, h1, _⟩ := h
  exact h1.left_eq
theorem RSet.lt {w : World} {b r n : Nat} {S L : Nat → Bool} {cnt : Nat} (h : RSet w b r n S L cnt) : r < w.heap.size ∧ b < w.heap.size ∧ r ≠ b := by
  obtain ⟨D, left, h1, _⟩ := h
  exact ⟨h1.lt, h1.owns.lt, h1.ne⟩
section
variable {ops : Array Oper} {rest : List Oper} {o : Oper} {a : Act} {Q : Exit → Act → World → Prop} {w : World}
theorem wpList_range_set (hg : o.guard = none) (m : Operand) (hop : o.op = Op.range 138 m) (b n : Nat) (S : Nat → Bool) (hm : a.eval m = .map (some b)) (h : SetAt w b n S)
    (hK : ∀ w' cnt, RSet w' b w.heap.size n S S cnt → Below w.heap.size w w' → w'.heap.size = w.heap.size + 1 → wpList Try.prog ops Q rest (a.put o.dst (.pointer (some ⟨w.heap.size, 0, none⟩))) w') : wpList Try.prog ops Q (o :: rest) a w := by
  obtain ⟨D, h1, h2, h3, h4, h5⟩ := h
  refine wpList_range_own w hg m _ hop _ _ set_keyed Try.underlying138 _ b n D hm h1 fun w' r1 r2 r3 => hK w' _ ⟨D, _, r1, h2, h3, fun x => ?_, h4⟩ ⟨r2.os, r2.tape, r2.output, r2.size, fun k hk => r2.block k hk (by simp)⟩ r3
  cases hs : S x
  · cases hh : Maps.has D (.int .i64 (x : Int))
    · rfl
    · obtain ⟨y, e, hy, _⟩ := h4 _ hh
      injection e with _ e
      have : x = y := by omega
      subst this
      rw [hs] at hy; cases hy
  · exact h5 x hs
theorem wpList_next_set (hg : o.guard = none) (it : Operand) (hop : o.op = Op.next it false) (b r n : Nat) (S L : Nat → Bool) (cnt : Nat) (hit : a.eval it = .pointer (some ⟨r, 0, none⟩)) (h : RSet w b r n S L cnt)
    (hDone : (∀ x, L x = false) → wpList Try.prog ops Q rest (a.put o.dst (.tuple #[.bool false])) w)
    (hMore : ∀ (x : Nat) (c : Bool) (w' : World) (cnt' : Nat), S x = true → L x = true → RSet w' b r n S (fun z => L z && !(z == x)) cnt' → cnt' < cnt → w.grownBy w' (some r) → w'.heap.size = w.heap.size →
      (Instr.entry (.pointer (some ⟨r, 0, none⟩))).run Try.prog w' = .ok (.tuple #[.int .i64 (x : Int), .bool c]) w' → wpList Try.prog ops Q rest (a.put o.dst (.tuple #[.bool true, .int .i64 (x : Int), .bool c])) w') : wpList Try.prog ops Q (o :: rest) a w := by
  obtain ⟨D, left, h1, h2, h3, h4, h5⟩ := h
  refine wpList_next_ranges w hg it hop _ set_keyed (plainElem Try.prog 4) (Value.int .i64) Value.bool (fun key kl hkey => ?_) (fun v y hv => ?_) b r n D left cnt hit h1 (fun h0 hl => hDone fun x => by rw [← h4 x]; exact hl _) (fun x c kl y w' cnt' hkey hlk hv hat hrg hlt hgr hsz hen => ?_)
  · obtain ⟨x, rfl, _⟩ := Maps.keyOf_int_inv Try.underlying3 hkey; exact ⟨x, rfl⟩
  · unfold plainElem at hv
    rw [Try.underlying4] at hv
    cases v <;> simp at hv
    exact ⟨_, rfl⟩
  · obtain ⟨x', ex, rfl, hwx⟩ := Maps.keyOf_int_inv Try.underlying3 hkey
    cases ex
    obtain ⟨m, e, hm, hmx⟩ := h5 _ hlk
    injection e with _ e
    subst e
    refine hMore m c w' cnt' hm (by rw [← h4 m]; exact hlk) ⟨D, _, hrg, h2, h3, fun z => ?_, fun kl hk => h5 kl ((Bool.and_eq_true _ _).mp hk).1⟩ hlt hgr hsz hen
    rw [h4 z]
    congr 1
    simp only [Lit.sameKey]
    rw [Bool.eq_iff_iff]
    simp
    omega
end
end Go.Proofs.Ytlbfejdbfhgifaa

namespace Go.Proofs.Ytlbfejdbfhgifaa
open Go.RowKit
set_option maxRecDepth 100000
/-! slices.Clone of rows of booleans, and of rows of rows. -/
theorem info_bool2 : (Try.prog.info? 4).map (fun i => (i.zero, i.size, i.bytes)) = some (some (.bool false), 1, 1) := by kernel_rfl
theorem info_bools2 : (Try.prog.info? 62).map (fun i => (i.zero, i.size, i.bytes)) = some (some (.slice none 0 0), 1, 24) := by kernel_rfl
def Cloned (e : TypeId) (n : Nat) (cs : List Value) (w : World) (r : Ending) (w' : World) : Prop := ∃ v', r = .returned v' ∧ w'.ownsRow w.heap.size e 1 v' n cs ∧ Below w.heap.size w w'
/-! append -/
theorem append_bits {w : World} {ops : Array Oper} {rest : List Oper} {o : Oper} {a : Act} {Q : Exit → Act → World → Prop} (hgd : o.guard = none) (s x : Operand)
    (ho : o.op = .call { callee := .builtin .append, args := #[s, x], argTypes := #[62, 62] })
    (base : Nat) (v : Value) (n : Nat) (xs : List Value) (hs : a.eval s = v) (hown : w.ownsRow base 4 1 v n xs) (sv : Value) (m : Nat) (news : List Value) (hx : a.eval x = sv) (hr : Row w 1 sv m news) (h1 : ∀ u ∈ news, u.oneCell' = true)
    (h63 : n + m ≤ 1000000) (hbase : base ≤ w.heap.size)
    (h : ∀ v' w', w'.ownsRow base 4 1 v' (n + m) (xs ++ news) → w.grownBy w' v.ownBlock → (v'.ownBlock = v.ownBlock ∨ v'.ownBlock = some w.heap.size) → wpList Try.prog ops Q rest (a.put o.dst v') w') : wpList Try.prog ops Q (o :: rest) a w := by
  obtain ⟨i, hi, hz0, hz1, hz2⟩ := info_parts info_bool2
  exact wpList_append_at hgd s x 62 ho base 4 i _ 1 1 Try.underlying62 hi hz0 hz1 hz2 rfl (by decide) v n xs hs hown sv m news hx hr h1 (by unfold maxLen; omega) (by omega) hbase h
end Go.Proofs.Ytlbfejdbfhgifaa

namespace Go.Proofs.Ytlbfejdbfhgifaa
open Go.RowKit
set_option maxRecDepth 100000
/-! A breadth-first search under way: its queue, its paths, its set of seen states. -/
def rowsOf (ins : Nat) (p : List Nat) : List (List Bool) := p.map fun x => Cir.bits x ins
theorem rowsOf_snoc (ins : Nat) (p : List Nat) (x : Nat) : rowsOf ins (p ++ [x]) = rowsOf ins p ++ [Cir.bits x ins] := by unfold rowsOf; simp
theorem rowsOf_length (ins : Nat) (p : List Nat) : (rowsOf ins p).length = p.length := by unfold rowsOf; simp
open Go.Maps in
theorem run_look_set {w : World} {b n : Nat} {S : Nat → Bool} (h : SetAt w b n S) (k : Nat) (hk : (k : Int) ≤ 9223372036854775807) : (Instr.lookup 138 (.map (some b)) (.int .i64 (k : Int)) false).run Try.prog w = .ok (.bool (S k)) w := by
  obtain ⟨D, h1, h2, h3, -⟩ := h
  obtain ⟨v, ps, hrun, hv⟩ := h1.lookup set_keyed Try.underlying138 (zero_bool w) (plainElem_bool Try.underlying4 false) (keyOf_int_mk Try.underlying3 (i64_wf hk))
  rw [h3 k] at hv
  have hvb : v = .bool (S k) := by
    unfold plainElem at hv
    rw [Try.underlying4] at hv
    cases v <;> simp at hv
    rw [hv.1]
  subst hvb
  exact hrun
/-! The closure of FindViolation. -/
theorem num_bit : ∀ (l : List Bool) (o : Nat), (Cir.num l).testBit o = l.getD o false
  | [], o => by simp [Cir.num]
  | b :: l, 0 => by
    rw [Cir.num, Nat.testBit_zero]
    cases b <;> simp <;> omega
  | b :: l, o + 1 => by
    rw [Cir.num, Nat.testBit_succ]
    have : ((if b then 1 else 0) + 2 * Cir.num l) / 2 = Cir.num l := by split <;> omega
    rw [this, num_bit l o]
    simp
theorem outsOf_length (d : Ci) (s x : Nat) : (Cir.outsOf d s x).length = d.outs.length := by unfold Cir.outsOf; rw [lits_length]
end Go.Proofs.Ytlbfejdbfhgifaa

namespace Go.Proofs.Ytlbfejdbfhgifaa
open Go.RowKit
set_option maxRecDepth 100000
/-! The states behind a clock cycle, by the program. -/
namespace Cir
def reachJ (c : Ci) (o s j y : Nat) : Bool := (List.range j).any fun x => !bad c o s x && nextOf c s x == y
def goodJ (c : Ci) (o s j : Nat) : Bool := (List.range j).all fun x => !bad c o s x
theorem reachJ_succ (c : Ci) (o s j y : Nat) : reachJ c o s (j + 1) y = (reachJ c o s j y || (!bad c o s j && nextOf c s j == y)) := by
  unfold reachJ; rw [List.range_succ, List.any_append]; simp
theorem goodJ_succ (c : Ci) (o s j : Nat) : goodJ c o s (j + 1) = (goodJ c o s j && !bad c o s j) := by
  unfold goodJ; rw [List.range_succ, List.all_append]; simp
/-- What has been done of a set. -/
def done (S L : Nat → Bool) (s : Nat) : Bool := S s && !L s
theorem done_self (S : Nat → Bool) (s : Nat) : done S S s = false := by unfold done; cases S s <;> rfl
theorem done_strike {S L : Nat → Bool} {x : Nat} (hS : S x = true) (s : Nat) : done S (fun z => L z && !(z == x)) s = (done S L s || s == x) := by
  unfold done
  by_cases e : s = x
  · subst e; rw [hS]; simp
  · have : (s == x) = false := by simpa using e
    show (S s && !(L s && !(s == x))) = _
    rw [this]; cases S s <;> cases L s <;> rfl
theorem adv_congr {c : Ci} {o : Nat} {S S' : Nat → Bool} (h : ∀ s, S s = S' s) (y : Nat) : adv c o S y = adv c o S' y := by
  have : S = S' := funext h
  rw [this]
theorem good_congr {c : Ci} {o : Nat} {S S' : Nat → Bool} (h : ∀ s, S s = S' s) : good c o S = good c o S' := by
  have : S = S' := funext h
  rw [this]
theorem adv_none (c : Ci) (o : Nat) (y : Nat) : adv c o (fun _ => false) y = false := by
  unfold adv; simp
theorem good_none (c : Ci) (o : Nat) : good c o (fun _ => false) = true := by
  unfold good; simp
theorem adv_add {c : Ci} {o : Nat} {D : Nat → Bool} {x : Nat} (hx : x < 8) (y : Nat) : adv c o (fun s => D s || s == x) y = (adv c o D y || reachJ c o x (2 ^ c.ins) y) := by
  rw [Bool.eq_iff_iff, Bool.or_eq_true]
  unfold adv reachJ reaches
  simp only [List.any_eq_true, List.mem_range, Bool.and_eq_true, Bool.or_eq_true, beq_iff_eq]
  constructor
  · rintro ⟨s, hs, h1 | rfl, h2⟩
    · exact .inl ⟨s, hs, h1, h2⟩
    · exact .inr h2
  · rintro (⟨s, hs, h1, h2⟩ | h)
    · exact ⟨s, hs, .inl h1, h2⟩
    · exact ⟨x, hx, .inr rfl, h⟩
theorem good_add {c : Ci} {o : Nat} {D : Nat → Bool} {x : Nat} (hx : x < 8) : good c o (fun s => D s || s == x) = (good c o D && goodJ c o x (2 ^ c.ins)) := by
  rw [Bool.eq_iff_iff, Bool.and_eq_true]
  unfold good goodJ goodS
  simp only [List.all_eq_true, List.mem_range, Bool.or_eq_true, Bool.not_eq_true', beq_iff_eq]
  constructor
  · intro h
    refine ⟨fun s hs => ?_, fun y hy => ?_⟩
    · rcases h s hs with h1 | h1
      · left; rw [Bool.or_eq_false_iff] at h1; exact h1.1
      · exact .inr h1
    · rcases h x hx with h1 | h1
      · rw [Bool.or_eq_false_iff] at h1; simp at h1
      · exact h1 y hy
  · rintro ⟨h1, h2⟩ s hs
    by_cases e : s = x
    · subst e; exact .inr h2
    · rcases h1 s hs with h3 | h3
      · left; rw [h3]; simpa using e
      · exact .inr h3
theorem filter_strike : ∀ (l : List Nat) (L : Nat → Bool) (x : Nat), x ∈ l → L x = true → (l.filter (fun z => L z && !(z == x))).length + 1 ≤ (l.filter L).length
  | [], _, _, h, _ => by simp at h
  | a :: l, L, x, h, hL => by
    have mono : ∀ l : List Nat, (l.filter (fun z => L z && !(z == x))).length ≤ (l.filter L).length := fun l => by
      induction l with
      | nil => simp
      | cons b l ih =>
        simp only [List.filter_cons]
        cases hb : L b <;> cases hx : (b == x) <;> simp <;> omega
    by_cases e : a = x
    · subst e
      have h1 := mono l
      simp only [List.filter_cons, hL]
      simp
      omega
    · have h2 : x ∈ l := by
        rcases List.mem_cons.1 h with h3 | h3
        · exact absurd h3.symm e
        · exact h3
      have h1 := filter_strike l L x h2 hL
      have e' : (a == x) = false := by simpa using e
      simp only [List.filter_cons, e']
      cases hb : L a <;> simp <;> omega
def cntL (L : Nat → Bool) : Nat := ((List.range 8).filter L).length
theorem cntL_le (L : Nat → Bool) : cntL L ≤ 8 := by
  unfold cntL
  have := List.length_filter_le L (List.range 8)
  simpa using this
theorem cntL_strike {L : Nat → Bool} {x : Nat} (hx : x < 8) (hL : L x = true) : cntL (fun z => L z && !(z == x)) + 1 ≤ cntL L := filter_strike _ L x (List.mem_range.2 hx) hL
end Cir
def Adv (d : Ci) (o : Nat) (S : Nat → Bool) (w : World) (e : Ending) (w' : World) : Prop := ∃ mb n', e = .returned (.tuple #[.map (some mb), .bool (Cir.good d o S)]) ∧ SetAt w' mb n' (Cir.adv d o S) ∧ n' ≤ 200 ∧ Below w.heap.size w w'
end Go.Proofs.Ytlbfejdbfhgifaa

namespace Go.Proofs.Ytlbfejdbfhgifaa
open Go.RowKit
set_option maxRecDepth 100000
/-! What laws do with slices of slices of booleans. -/
theorem info_boolss : (Try.prog.info? 62).map (fun i => (i.zero, i.size, i.bytes)) = some (some (.slice none 0 0), 1, 24) := by kernel_rfl
def OwnBoolSS (B T : Nat) (w : World) (v : Value) (xss : List (List Bool)) : Prop := OwnSS bools 62 4 B T w v xss
theorem take_eq_getB {α : Type} {xs ys : List α} {k : Nat} {x : α} (h : xs.take k = ys.take k) (hx : xs[k]? = some x) (hy : ys[k]? = some x) : xs.take (k + 1) = ys.take (k + 1) := by
  rw [take_snoc hx, take_snoc hy, h]
end Go.Proofs.Ytlbfejdbfhgifaa

namespace Go.Proofs.Ytlbfejdbfhgifaa
open Go.RowKit
set_option maxRecDepth 100000
/-! The search of FindViolation. -/
def Searched (ins : Nat) (r : Option (List Nat)) (w : World) (e : Ending) (w' : World) : Prop :=
  match r with
  | none => e = .returned (.tuple #[.slice none 0 0, .bool false]) ∧ Below w.heap.size w w'
  | some p => ∃ v, e = .returned (.tuple #[v, .bool true]) ∧ OwnBoolSS w.heap.size w'.heap.size w' v (rowsOf ins p) ∧ Below w.heap.size w w'
theorem SSIn.one {F : Nat → Prop} {w : World} {xss : List (List Bool)} {vs : List Value} (h1 : vs.length = xss.length) (h3 : ∀ (i : Nat) (x : List Bool) (u : Value), xss[i]? = some x → vs[i]? = some u → RowIn F w 1 u x.length (bools x)) : ∀ u ∈ vs, u.oneCell' = true := fun u hu => by
  obtain ⟨i, hi, rfl⟩ := List.mem_iff_getElem.1 hu
  obtain ⟨_, A, c, hv, -⟩ := (h3 i _ _ (List.getElem?_eq_getElem (by omega)) (List.getElem?_eq_getElem hi)).1
  rw [hv]; rfl
end Go.Proofs.Ytlbfejdbfhgifaa

namespace Go.Proofs.Ytlbfejdbfhgifaa
open Go.RowKit
set_option maxRecDepth 100000
/-! FindViolation, by the program. -/
namespace Cir
def violI (c : Cz) (o : Int) : Option (List Nat) := if valid c = true ∧ 0 ≤ o ∧ o < c.outs.length then viol (nat c) o.toNat else none
end Cir
def vrows (ins : Nat) : Option (List Nat) → List (List Bool)
  | none => []
  | some p => rowsOf ins p
def OwnViol (ins : Nat) (r : Option (List Nat)) (w : World) (e : Ending) (w' : World) : Prop := ∃ v, e = .returned (.agg #[.bool r.isSome, v]) ∧ OwnBoolSS w.heap.size w'.heap.size w' v (vrows ins r) ∧ Below w.heap.size w w'
theorem OwnSS.set {α : Type} {enc : List α → List Value} {tO ti : TypeId} {B T : Nat} {w : World} {v : Value} {xss : List (List α)} {g i : Nat} {u : Value} (h : OwnSS enc tO ti B T w v xss) (hg : g < B) : OwnSS enc tO ti B T (w.setCell ⟨g, i, none⟩ u) v xss := by
  refine h.only (E := fun k => k = g) (Only.grown (set_grown w g i u) fun k hk => (Option.some.inj hk).symm) (fun k hk _ e => by omega)
theorem viol_cases {c : Cz} {o : Int} (h : ¬ (Cir.valid c = true ∧ 0 ≤ o ∧ o < c.outs.length)) : Cir.valid c = false ∨ (Cir.valid c = true ∧ o < 0) ∨ (Cir.valid c = true ∧ 0 ≤ o ∧ (c.outs.length : Int) ≤ o) := by
  cases hv : Cir.valid c
  · exact .inl rfl
  · rw [hv] at h
    rcases Int.lt_or_le o 0 with h1 | h1
    · exact .inr (.inl ⟨rfl, h1⟩)
    · rcases Int.lt_or_le o c.outs.length with h2 | h2
      · exact absurd ⟨rfl, h1, h2⟩ h
      · exact .inr (.inr ⟨rfl, h1, h2⟩)
set_option maxHeartbeats 4000000
end Go.Proofs.Ytlbfejdbfhgifaa

namespace Go.Proofs.Ytlbfejdbfhgifaa
open Go.RowKit
set_option maxRecDepth 100000
set_option maxHeartbeats 4000000
/-! FindViolation, by the program: no violation for arguments that are none; any arguments. -/
/-! The rows of inputs that lead to a violation, by the reference. -/
def TBits (B : Nat) (xs : List Bool) : Ty := fun w v => RowIn (From B) w 1 v xs.length (bools xs)
theorem stb_bits (B : Nat) (xs : List Bool) : Stb (fun _ => False) (TBits B xs) := fun _ _ _ h ho => RowIn.below h (only_below ho)
def TFront (B : Nat) (xs : List Bool) : Ty := fun w v => ∃ g u, v = .slice (some ⟨g, 0, none⟩) 1 1 ∧ B ≤ g ∧ g < w.heap.size ∧ w.cell? ⟨g, 0, none⟩ = some u ∧ RowIn (From B) w 1 u xs.length (bools xs)
theorem stb_front (B : Nat) (xs : List Bool) : Stb (fun _ => False) (TFront B xs) := by
  rintro v w w' ⟨g, u, rfl, hB, hg, hc, hb⟩ ho
  have hbl := only_below ho
  exact ⟨g, u, rfl, hB, Nat.lt_of_lt_of_le hg ho.size, (hbl.cell (p := ⟨g, 0, none⟩) hg).trans hc, hb.below hbl⟩
def TSS (B : Nat) (xss : List (List Bool)) : Ty := fun w v => SSIn bools (From B) w v xss
theorem stb_ss (B : Nat) (xss : List (List Bool)) : Stb (fun _ => False) (TSS B xss) := fun _ _ _ h ho => h.below (only_below ho)
end Go.Proofs.Ytlbfejdbfhgifaa

namespace Go.Proofs.Ytlbfejdbfhgifaa
open Go.RowKit
set_option maxRecDepth 100000
section
variable {S : RS} {Fin : List Ty → Prop} {o : Oper} {l : List Oper} {i : Nat} {τs : List Ty}
/-- A slice of one row, in a region. -/
theorem rs_front0 (hO : S.Ok) (hid : i ≠ S.d ∨ ∀ ov w, S.J ov w) (hE : S.E = fun _ => False) (B : Nat) (hB : B ≤ S.w0.heap.size) (xs : List Bool)
    (h : ∀ ρ w, Only S.E S.w0 w → Known S.ops (tys τs) S.a0 ρ w i o.op.operands.toList → ∃ u, RowIn (From B) w 1 u xs.length (bools xs) ∧ (execOp ρ o).run S.P w = .ok (.value (.slice (some ⟨w.heap.size, 0, none⟩) 1 1)) (w.alloc (.cells #[u] 62)))
    (rest : RSeq S Fin l (i + 1) (TFront B xs :: τs)) : RSeq S Fin (o :: l) i τs := by
  refine rs_alloc hO hid (TFront B xs) (by rw [hE]; exact stb_front B xs) (fun ρ w ho hK => ?_) rest
  obtain ⟨u, h1, h2⟩ := h ρ w ho hK
  exact ⟨_, _, h2, w.heap.size, u, rfl, Nat.le_trans hB ho.size, by simp, blk_cell (heap_alloc_new w _) 0, h1.below (bel_new _ _)⟩
end
end Go.Proofs.Ytlbfejdbfhgifaa

namespace Go.Proofs.Ytlbfejdbfhgifaa
open Go.RowKit
set_option maxRecDepth 100000
end Go.Proofs.Ytlbfejdbfhgifaa

namespace Go.Proofs.Ytlbfejdbfhgifaa
open Go.RowKit
set_option maxRecDepth 100000
/-! FindViolation, by the reference. -/
def SpecViol (ins : Nat) (r : Option (List Nat)) (w : World) (e : Ending) (w' : World) : Prop := (∃ v, e = .returned (.agg #[.bool r.isSome, v]) ∧ SSAt bools w' v (vrows ins r)) ∧ Below w.heap.size w w'
structure VT (B : Nat) (l : List (Nat × List Nat)) (fr how : List Nat) (vs vf vh : Value) (w : World) : Prop where
  s : w.ownsRow B 3 1 vs l.length (nints (Cir.vsts l))
  f : w.ownsRow B 3 1 vf l.length (nints fr)
  h : w.ownsRow B 3 1 vh l.length (nints how)
  a1 : Apart vs vf
  a2 : Apart vs vh
  a3 : Apart vf vh
theorem VT.below {B : Nat} {l : List (Nat × List Nat)} {fr how : List Nat} {vs vf vh : Value} {w w' : World} (h : VT B l fr how vs vf vh w) (hb : Below w.heap.size w w') : VT B l fr how vs vf vh w' :=
  ⟨own_below h.s hb, own_below h.f hb, own_below h.h hb, h.a1, h.a2, h.a3⟩
/-- A pointer to a boolean. -/
def TPB (b : Bool) : Ty := fun w v => ∃ g i, v = .pointer (some ⟨g, i, none⟩) ∧ g < w.heap.size ∧ w.cell? ⟨g, i, none⟩ = some (.bool b)
theorem stb_pb (b : Bool) : Stb (fun _ => False) (TPB b) := by
  rintro v w w' ⟨g, i, rfl, hg, hc⟩ ho
  exact ⟨g, i, rfl, Nat.lt_of_lt_of_le hg ho.size, ((only_below ho).cell (p := ⟨g, i, none⟩) hg).trans hc⟩
end Go.Proofs.Ytlbfejdbfhgifaa

namespace Go.Proofs.Ytlbfejdbfhgifaa
open Go.RowKit
set_option maxRecDepth 100000
set_option maxHeartbeats 4000000
theorem valid_outs {c : Cz} (h : Cir.valid c = true) : c.outs.length ≤ 3 := (valid_sizes h).2.2.2.2
/-! Invariants. -/
theorem inv_out {o : Int} {n : Nat} {b : Bool} (h : ¬ (0 ≤ o ∧ o < (n : Int))) : (true && (decide (0 ≤ o) && (decide (o < (n : Int)) && b))) = false := by
  by_cases h2 : 0 ≤ o
  · rw [decide_eq_true h2, decide_eq_false (show ¬ o < (n : Int) from fun hh => h ⟨h2, hh⟩)]; rfl
  · rw [decide_eq_false h2]; rfl
def Cir.invI (c : Cz) (o : Int) : Bool := Cir.valid c && (decide (0 ≤ o) && (decide (o < c.outs.length) && !(Cir.violI c o).isSome))
end Go.Proofs.Ytlbfejdbfhgifaa

namespace Go.Proofs.Ytlbfejdbfhgifaa
open Go.RowKit
set_option maxRecDepth 100000
/-! Inductive, by the program. -/
namespace Cir
def indOk (c : Cz) (o k : Int) : Prop := valid c = true ∧ (0 ≤ o ∧ o < c.outs.length) ∧ 1 ≤ k ∧ k ≤ 4
instance (c : Cz) (o k : Int) : Decidable (indOk c o k) := by unfold indOk; exact inferInstance
def indI (c : Cz) (o k : Int) : Bool := if indOk c o k then ind (nat c) o.toNat k.toNat else false
theorem indI_no {c : Cz} {o k : Int} (h : ¬ indOk c o k) : indI c o k = false := if_neg h
theorem indI_yes {c : Cz} {o k : Int} (h : indOk c o k) : indI c o k = ind (nat c) o.toNat k.toNat := if_pos h
theorem advN_lt {c : Ci} (hc : Ok c) {o : Nat} {S : Nat → Bool} (hS : ∀ x, S x = true → x < 8) : ∀ j x, advN c o S j x = true → x < 8
  | 0, x, h => hS x h
  | j + 1, x, h => by
    obtain ⟨s, _, _, y, _, _, rfl⟩ := adv_iff.1 h
    exact next_lt8 hc s y
theorem only0_lt (x : Nat) (h : only0 x = true) : x < 8 := by unfold only0 at h; have := eq_of_beq h; omega
theorem upTo_lt {n : Nat} (hn : n ≤ 8) (x : Nat) (h : upTo n x = true) : x < 8 := by unfold upTo at h; have := of_decide_eq_true h; omega
theorem upTo_succ (n x : Nat) : upTo (n + 1) x = (upTo n x || x == n) := by
  unfold upTo
  rw [Bool.eq_iff_iff, Bool.or_eq_true, decide_eq_true_iff, decide_eq_true_iff, beq_iff_eq]
  omega
end Cir
end Go.Proofs.Ytlbfejdbfhgifaa

namespace Go.Proofs.Ytlbfejdbfhgifaa
open Go.RowKit
set_option maxRecDepth 100000
/-! Inductive, by the reference. -/
namespace Cir
def safeJ (c : Ci) (o k s j : Nat) : Bool := (List.range j).all fun x => !bad c o s x && safe c o k (nextOf c s x)
theorem safeJ_succ (c : Ci) (o k s j : Nat) : safeJ c o k s (j + 1) = (safeJ c o k s j && (!bad c o s j && safe c o k (nextOf c s j))) := by
  unfold safeJ; rw [List.range_succ, List.all_append]; simp
def safes (c : Ci) (o k n : Nat) : List Bool := (List.range n).map (safe c o k)
theorem safes_succ (c : Ci) (o k n : Nat) : safes c o k (n + 1) = safes c o k n ++ [safe c o k n] := by
  unfold safes; rw [List.range_succ, List.map_append]; rfl
theorem safes_length (c : Ci) (o k n : Nat) : (safes c o k n).length = n := by unfold safes; simp
theorem safes_get {c : Ci} {o k n i : Nat} (h : i < n) : (safes c o k n)[i]? = some (safe c o k i) := by unfold safes; simp [h]
theorem stepB_hit {c : Ci} {o k s j : Nat} (hj : j < 2 ^ c.ins) (hb : bad c o s j = false) (h : stepB c o k (nextOf c s j) = false) : stepB c o (k + 1) s = false := by
  refine Bool.eq_false_iff.2 fun ht => ?_
  rcases stepB_succ.1 ht j hj with h1 | h1
  · rw [hb] at h1; cases h1
  · rw [h] at h1; cases h1
theorem stepB_hit0 {c : Ci} {o s j : Nat} (hj : j < 2 ^ c.ins) (hb : bad c o s j = true) : stepB c o 0 s = false := by
  refine Bool.eq_false_iff.2 fun ht => ?_
  have := stepB_zero.1 ht j hj
  rw [hb] at this; cases this
end Cir
theorem bad_get {d : Ci} {o s x : Nat} (ho : o < d.outs.length) : (Cir.outsOf d s x)[o]? = some (Cir.bad d o s x) := by
  unfold Cir.bad
  rw [List.getD_eq_getElem?_getD, List.getElem?_eq_getElem (by rw [outsOf_length]; exact ho)]
  rfl
end Go.Proofs.Ytlbfejdbfhgifaa
