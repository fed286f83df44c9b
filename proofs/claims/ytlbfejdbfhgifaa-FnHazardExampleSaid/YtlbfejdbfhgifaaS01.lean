import Derived.WalkKit
import Derived.WalkSpells
import Derived.BigQuiet
import Derived.Below
import Derived.OpenShut
import Derived.Laws.OwnMore
import Derived.OwnWalk
import Derived.Deep.OwnRows
import Derived.Deep.Draws
import Derived.Deep.QuietTactic
import Derived.Outline
import Derived.Lib.Hide
import Derived.Test.YtlbfejdbfhgifaaProg
import Derived.StillTailTactics
import Derived.Maps.AppendAt
import Derived.Deep.RegionLaw
set_option linter.unusedVariables false
set_option linter.unusedSimpArgs false
namespace Go.Proofs.Ytlbfejdbfhgifaa
/-! Bit operations on Go's int where both operands are not negative. -/
theorem ofInt64 (a : Nat) (ha : a < 18446744073709551616) : (BitVec.ofInt 64 (a : Int)).toNat = a := by
  rw [BitVec.ofInt_natCast, BitVec.toNat_ofNat]; exact Nat.mod_eq_of_lt (by omega)
theorem i64_and_nat (a b : Nat) (ha : a < 9223372036854775808) (hb : b < 9223372036854775808) : bits .and .i64 (a : Int) (b : Int) = ((a &&& b : Nat) : Int) := by
  have hx : a &&& b < 2 ^ 63 := Nat.and_lt_two_pow _ (by omega)
  show IntKind.i64.wrap ((BitVec.ofInt 64 (a : Int) &&& BitVec.ofInt 64 (b : Int)).toNat : Int) = _
  rw [BitVec.toNat_and, ofInt64 a (by omega), ofInt64 b (by omega), IntWalk.i64_in _ (by omega)]
theorem i64_or_nat (a b : Nat) (ha : a < 9223372036854775808) (hb : b < 9223372036854775808) : bits .or .i64 (a : Int) (b : Int) = ((a ||| b : Nat) : Int) := by
  have hx : a ||| b < 2 ^ 63 := Nat.or_lt_two_pow (by omega) (by omega)
  show IntKind.i64.wrap ((BitVec.ofInt 64 (a : Int) ||| BitVec.ofInt 64 (b : Int)).toNat : Int) = _
  rw [BitVec.toNat_or, ofInt64 a (by omega), ofInt64 b (by omega), IntWalk.i64_in _ (by omega)]
theorem i64_xor_nat (a b : Nat) (ha : a < 9223372036854775808) (hb : b < 9223372036854775808) : bits .xor .i64 (a : Int) (b : Int) = ((a ^^^ b : Nat) : Int) := by
  have hx : a ^^^ b < 2 ^ 63 := Nat.xor_lt_two_pow (by omega) (by omega)
  show IntKind.i64.wrap ((BitVec.ofInt 64 (a : Int) ^^^ BitVec.ofInt 64 (b : Int)).toNat : Int) = _
  rw [BitVec.toNat_xor, ofInt64 a (by omega), ofInt64 b (by omega), IntWalk.i64_in _ (by omega)]
theorem i64_and (a b : Int) (h1 : 0 ≤ a) (h2 : a < 9223372036854775808) (h3 : 0 ≤ b) (h4 : b < 9223372036854775808) : bits .and .i64 a b = ((a.toNat &&& b.toNat : Nat) : Int) := by
  obtain ⟨A, rfl⟩ := Int.eq_ofNat_of_zero_le h1
  obtain ⟨B, rfl⟩ := Int.eq_ofNat_of_zero_le h3
  simpa using i64_and_nat A B (by omega) (by omega)
theorem i64_or (a b : Int) (h1 : 0 ≤ a) (h2 : a < 9223372036854775808) (h3 : 0 ≤ b) (h4 : b < 9223372036854775808) : bits .or .i64 a b = ((a.toNat ||| b.toNat : Nat) : Int) := by
  obtain ⟨A, rfl⟩ := Int.eq_ofNat_of_zero_le h1
  obtain ⟨B, rfl⟩ := Int.eq_ofNat_of_zero_le h3
  simpa using i64_or_nat A B (by omega) (by omega)
theorem i64_xor (a b : Int) (h1 : 0 ≤ a) (h2 : a < 9223372036854775808) (h3 : 0 ≤ b) (h4 : b < 9223372036854775808) : bits .xor .i64 a b = ((a.toNat ^^^ b.toNat : Nat) : Int) := by
  obtain ⟨A, rfl⟩ := Int.eq_ofNat_of_zero_le h1
  obtain ⟨B, rfl⟩ := Int.eq_ofNat_of_zero_le h3
  simpa using i64_xor_nat A B (by omega) (by omega)
theorem i64_and_one (a : Int) (h1 : 0 ≤ a) (h2 : a < 9223372036854775808) : bits .and .i64 a 1 = a % 2 := by
  obtain ⟨A, rfl⟩ := Int.eq_ofNat_of_zero_le h1
  have h := i64_and_nat A 1 (by omega) (by omega)
  rw [Nat.and_one_is_mod] at h
  exact h
theorem two_pow (k : Nat) : (2 : Int) ^ k = ((2 ^ k : Nat) : Int) := (Int.natCast_pow 2 k).symm
theorem i64_and_mask (a : Nat) (k : Nat) (h2 : a < 9223372036854775808) (hk : 2 ^ k ≤ 9223372036854775808) : bits .and .i64 (a : Int) (2 ^ k - 1) = ((a % 2 ^ k : Nat) : Int) := by
  have h1 : 1 ≤ 2 ^ k := Nat.one_le_two_pow
  have h := i64_and_nat a (2 ^ k - 1) (by omega) (by omega)
  rw [Nat.and_two_pow_sub_one_eq_mod, Int.ofNat_sub h1] at h
  simpa using h
theorem ret_int {k : IntKind} {a b : Int} (h : a = b) : Ending.returned (.int k a) = .returned (.int k b) := by rw [h]
theorem ret_bool {a b : Bool} (h : a = b) : Ending.returned (.bool a) = .returned (.bool b) := by rw [h]
end Go.Proofs.Ytlbfejdbfhgifaa

namespace Go.Proofs.Ytlbfejdbfhgifaa
open Go.RowKit

/-! Memory: a slice value that reads as a row of cells; a row of the call's own. -/

theorem quietS {P : Program} {f : FuncId} {args : Array Value} {w : World} {n : Nat} {v : Value}
    (h : Calls P f args (w.drewN n) fun e w' => e = .returned v ∧ w.drewN n = w') : Calls P f args (w.drewN n) fun e w'' => e = .returned v ∧ ∃ m, w'' = w.drewN m :=
  h.mono fun _ _ ⟨he, hm⟩ => ⟨he, n, hm.symm⟩

/-- w' is w but for the count of what was drawn. -/
def Drew (w w' : World) : Prop := ∃ m, w' = w.drewN m
theorem Drew.refl (w : World) : Drew w w := ⟨0, rfl⟩
theorem Drew.by (w : World) (m : Nat) : Drew w (w.drewN m) := ⟨m, rfl⟩
theorem Drew.more {w a : World} (h : Drew w a) (n : Nat) : Drew w (a.drewN n) := by
  obtain ⟨m, rfl⟩ := h
  exact ⟨m + n, World.drewN_drewN _ _ _⟩
theorem Drew.trans {w a b : World} (h : Drew w a) (h' : Drew a b) : Drew w b := by
  obtain ⟨n, rfl⟩ := h'
  exact h.more n
theorem Drew.cell {w a : World} (h : Drew w a) (p : Addr) : a.cell? p = w.cell? p := by
  obtain ⟨m, rfl⟩ := h
  rfl
theorem Drew.size {w a : World} (h : Drew w a) : a.heap.size = w.heap.size := by
  obtain ⟨m, rfl⟩ := h
  rfl
theorem Drew.below {w a : World} (h : Drew w a) (B : Nat) : Below B w a := by
  obtain ⟨m, rfl⟩ := h
  exact ⟨rfl, rfl, rfl, Nat.le_refl _, fun _ _ => rfl⟩
theorem quietD {P : Program} {f : FuncId} {args : Array Value} {w : World} {n : Nat} {v : Value}
    (h : Calls P f args (w.drewN n) fun e w' => e = .returned v ∧ Drew (w.drewN n) w') : Calls P f args (w.drewN n) fun e w'' => e = .returned v ∧ ∃ m, w'' = w.drewN m :=
  h.mono fun _ _ ⟨he, m, hm⟩ => ⟨he, n + m, by rw [hm, World.drewN_drewN]⟩

/-- The slice value v has n elements of size cells each, and reads as the cells cs. -/
def Row (w : World) (size : Nat) (v : Value) (n : Nat) (cs : List Value) : Prop :=
  cs.length = n * size ∧ ∃ A c, v = .slice A n c ∧ n ≤ c ∧ c ≤ maxLen ∧
    (0 < n → ∃ b o, A = some ⟨b, o, none⟩ ∧ b < w.heap.size ∧ ∀ j u, cs[j]? = some u → w.cell? ⟨b, o + j, none⟩ = some u)

section
variable {w w' : World} {size n : Nat} {v : Value} {cs : List Value}
theorem Row.len (h : Row w size v n cs) : cs.length = n * size := h.1
theorem Row.shape (h : Row w size v n cs) : ∃ A c, v = .slice A n c ∧ n ≤ c ∧ c ≤ maxLen := by
  obtain ⟨_, A, c, hv, h1, h2, _⟩ := h
  exact ⟨A, c, hv, h1, h2⟩
theorem Row.open (h : Row w size v n cs) (hn : 0 < n) : ∃ b o c, v = .slice (some ⟨b, o, none⟩) n c ∧ n ≤ c ∧ c ≤ maxLen ∧ b < w.heap.size ∧ ∀ j u, cs[j]? = some u → w.cell? ⟨b, o + j, none⟩ = some u := by
  obtain ⟨_, A, c, hv, h1, h2, h3⟩ := h
  obtain ⟨b, o, rfl, hb, hc⟩ := h3 hn
  exact ⟨b, o, c, hv, h1, h2, hb, hc⟩
theorem Row.keep (h : Row w size v n cs) (hs : w.heap.size ≤ w'.heap.size) (hk : ∀ p : Addr, p.block < w.heap.size → w'.cell? p = w.cell? p) : Row w' size v n cs := by
  obtain ⟨h0, A, c, hv, h1, h2, h3⟩ := h
  refine ⟨h0, A, c, hv, h1, h2, fun hn => ?_⟩
  obtain ⟨b, o, hA, hb, hc⟩ := h3 hn
  exact ⟨b, o, hA, by omega, fun j u hu => (hk _ hb).trans (hc j u hu)⟩
theorem Row.below (h : Row w size v n cs) (hb : Below w.heap.size w w') : Row w' size v n cs := h.keep hb.size fun _ hp => hb.cell hp
theorem Row.drew (h : Row w size v n cs) (hd : Drew w w') : Row w' size v n cs := h.below (hd.below _)
theorem Row.drewN (h : Row w size v n cs) (m : Nat) : Row (w.drewN m) size v n cs := h
theorem Row.alloc (h : Row w size v n cs) (o : Obj) : Row (w.alloc o) size v n cs := h.below ((Below.refl _ _).alloc (Nat.le_refl _) o)
theorem Row.of_own {base : Nat} {e : TypeId} (h : w.ownsRow base e size v n cs) : Row w size v n cs := by
  refine ⟨h.1, ?_⟩
  rcases h.2 with ⟨rfl, rfl⟩ | ⟨g, cap, cur, rfl, _, hh, h1, h2, _⟩
  · exact ⟨none, 0, rfl, Nat.le_refl _, Nat.zero_le _, fun h => absurd h (by omega)⟩
  · refine ⟨_, cap, rfl, h1, h2, fun _ => ⟨g, 0, rfl, ?_, fun j u hu => ?_⟩⟩
    · rcases Nat.lt_or_ge g w.heap.size with hl | hl
      · exact hl
      · rw [Array.getElem?_eq_none hl] at hh; cases hh
    · have := h.cells (g := g) rfl j u hu
      rw [Nat.zero_add]
      by_cases hj : j = 0
      · subst hj; exact this
      · simpa [Addr.add, hj] using this
theorem Row.nil (w : World) (size : Nat) : Row w size (.slice none 0 0) 0 [] :=
  ⟨by simp, none, 0, rfl, Nat.le_refl _, Nat.zero_le _, fun h => absurd h (by omega)⟩
end

/-- The numbers as cells. -/
def ints (xs : List Int) : List Value := xs.map (Value.int .i64)
def IntsAt (w : World) (v : Value) (xs : List Int) : Prop := Row w 1 v xs.length (ints xs)
theorem ints_length (xs : List Int) : (ints xs).length = xs.length := List.length_map _
theorem ints_at {xs : List Int} {i : Nat} (h : i < xs.length) : ∃ x, xs[i]? = some x ∧ (ints xs)[i]? = some (.int .i64 x) :=
  ⟨xs[i], List.getElem?_eq_getElem h, by simp [ints, h]⟩
theorem ints_get {xs : List Int} {i : Nat} (h : i < xs.length) : (ints xs)[i]? = some (.int .i64 (xs.getD i 0)) := by
  simp [ints, h, List.getD_eq_getElem?_getD]

/-- An argument that is a slice of integers. -/
theorem Row.given {w : World} {k : IntKind} {a : Option Addr} {len cap : Nat} {zs : List Int}
    (h : (a = none ∧ len = 0 ∧ cap = 0 ∧ zs = []) ∨
      ∃ x, a = some x ∧ len ≤ cap ∧ cap ≤ maxLen ∧ zs.length = cap ∧ (∀ i, i < zs.length → w.cell? (x.add i) = some (.int k (zs.getD i 0))) ∧ ∀ n ∈ zs, (Lit.int k n).wf = true) :
    ∃ xs : List Int, xs.length = len ∧ (∀ n ∈ xs, (Lit.int k n).wf = true) ∧ Row w 1 (.slice a len cap) len (xs.map (Value.int k)) := by
  rcases h with ⟨rfl, rfl, rfl, rfl⟩ | ⟨x, rfl, h1, h2, h3, h4, h5⟩
  · exact ⟨[], rfl, by simp, Row.nil w 1⟩
  · refine ⟨zs.take len, by simp; omega, fun n hn => h5 n (List.mem_of_mem_take hn), by simp; omega, some x, cap, rfl, h1, h2, fun hp => ?_⟩
    obtain ⟨b, off, spot⟩ := x
    have h0 := h4 0 (by omega)
    have hspot : spot = none := by simpa [Addr.add] using World.cell?_spot h0
    subst hspot
    refine ⟨b, off, rfl, ?_, fun j u hu => ?_⟩
    · rcases Nat.lt_or_ge b w.heap.size with hl | hl
      · exact hl
      · simp [World.cell?, Addr.add, Array.getElem?_eq_none hl] at h0
    · have hj : j < len := by
        obtain ⟨hj, _⟩ := List.getElem?_eq_some_iff.1 hu
        simp at hj; omega
      rw [← Go.WideShapes.add_plain, h4 j (by omega), ← hu]
      simp [List.getElem?_take, hj, List.getD_eq_getElem?_getD, show j < zs.length from by omega]

/-- A row of the call's own that is not empty. -/
theorem own_open {w : World} {base : Nat} {e : TypeId} {size n : Nat} {v : Value} {cs : List Value} (h : w.ownsRow base e size v n cs) (hn : 0 < n) :
    ∃ g c, v = .slice (some ⟨g, 0, none⟩) n c ∧ base ≤ g ∧ g < w.heap.size ∧ n ≤ c ∧ c ≤ maxLen := by
  rcases h.2 with ⟨rfl, rfl⟩ | ⟨g, cap, cur, rfl, hb, hh, h1, h2, _⟩
  · omega
  · refine ⟨g, cap, rfl, hb, ?_, h1, h2⟩
    rcases Nat.lt_or_ge g w.heap.size with hl | hl
    · exact hl
    · rw [Array.getElem?_eq_none hl] at hh; cases hh

theorem own_slot {w : World} {base : Nat} {e : TypeId} {size n cap g : Nat} {cs : List Value} (h : w.ownsRow base e size (.slice (some ⟨g, 0, none⟩) n cap) n cs) {j : Nat} (hj : j < n * size) :
    ∃ u, cs[j]? = some u ∧ w.cell? ⟨g, j, none⟩ = some u ∧ w.frozen? ⟨g, j, none⟩ = false := by
  have hl := h.1
  refine ⟨cs[j]'(by omega), List.getElem?_eq_getElem _, ?_, h.frozenAt j⟩
  rw [h.cellAt j hj, List.getElem?_eq_getElem]
/-- A cell of a slice literal of numbers between lo and hi. -/
theorem lit_cell (w : World) (L : List Int) (t : TypeId) (lo hi : Int) (hL : ∀ x ∈ L, lo ≤ x ∧ x ≤ hi) (i : Nat) (h : i < L.length) :
    ∃ v : Int, lo ≤ v ∧ v ≤ hi ∧ (w.alloc (.cells (L.map (Value.int .i64)).toArray t)).cell? ⟨w.heap.size, i, none⟩ = some (.int .i64 v) := by
  have hm := hL L[i] (List.getElem_mem h)
  refine ⟨L[i], hm.1, hm.2, ?_⟩
  rw [cell_of_row _ _ i _ t (0, 0) (heap_alloc_new w _)]
  simp [h]
/-- A row of the call's own below what changes. -/
theorem own_below {w w' : World} {base : Nat} {e : TypeId} {size n : Nat} {v : Value} {cs : List Value} (h : w.ownsRow base e size v n cs) (hb : Below w.heap.size w w') : w'.ownsRow base e size v n cs := by
  refine h.kept (row := none) ⟨hb.os, hb.tape, hb.output, hb.size, fun k hk _ => hb.block k hk⟩ ?_
  cases hv : v.ownBlock with
  | none => exact .inl rfl
  | some q => exact .inr (by simp)
theorem take_set_succ {α : Type} {cs L : List α} {k : Nat} {u : α} (hk : k < cs.length) (h : cs.take k = L.take k) (hu : L[k]? = some u) : (cs.set k u).take (k + 1) = L.take (k + 1) := by
  apply List.ext_getElem?
  intro j
  have hj := congrArg (fun l => l[j]?) h
  simp only [List.getElem?_take, List.getElem?_set] at hj ⊢
  by_cases h1 : j < k
  · simpa [h1, Nat.lt_succ_of_lt h1, Nat.ne_of_gt h1] using hj
  · by_cases h2 : j = k
    · subst h2; simp [hk, hu]
    · simp [show ¬ j < k + 1 from by omega]
theorem take_snoc {α : Type} {xs : List α} {k : Nat} {x : α} (h : xs[k]? = some x) : xs.take (k + 1) = xs.take k ++ [x] := by
  rw [List.take_add_one, h]; rfl
theorem take_ne {α : Type} {xs ys : List α} {k : Nat} {x y : α} (h : xs[k]? = some x) (h' : ys[k]? = some y) (hn : x ≠ y) : xs ≠ ys := by
  rintro rfl
  rw [h] at h'
  exact hn (Option.some.inj h')
section
variable {P : Program}
/-- append to a row of the call's own, whatever the source: nil, empty or not. -/
theorem run_append_row (w : World) (base : Nat) (t ty e : TypeId) (i : TypeInfo) (z : Value) (size bytes : Nat) (ht : P.underlying t = some (.slice e)) (hi : P.info? e = some i) (hz : i.zero = some z)
    (hsize : i.size = size) (hby : i.bytes = bytes) (hzs : z.cells.size = size) (hsz : 0 < size)
    (v : Value) (n : Nat) (xs : List Value) (hown : w.ownsRow base e size v n xs) (sv : Value) (m : Nat) (news : List Value) (hr : Row w size sv m news) (h1 : ∀ u ∈ news, u.oneCell' = true)
    (h63 : n + m ≤ maxLen) (hbytes : (n + m) * bytes ≤ 140737488355328) (hbase : base ≤ w.heap.size) :
    ∃ v' w', (Builtin.append_ #[t, t] ty #[v, sv]).run P w = .ok v' w' ∧ w'.ownsRow base e size v' (n + m) (xs ++ news) ∧ w.grownBy w' v.ownBlock := by
  obtain ⟨hl, A, c, rfl, hc1, hc2, hcell⟩ := hr
  cases A with
  | none =>
    have hm : m = 0 := by
      rcases Nat.eq_zero_or_pos m with h0 | h0
      · exact h0
      · obtain ⟨b, o, h, _⟩ := hcell h0
        cases h
    subst hm
    have hn : news = [] := List.eq_nil_of_length_eq_zero (by simpa using hl)
    subst hn
    refine ⟨v, w, ?_, by simpa using hown, World.grownBy.refl w _⟩
    rcases hown.2 with ⟨rfl, rfl⟩ | ⟨g, cap, cur, rfl, _, _, hnc, _⟩
    · simp [Builtin.append_, run_underlying ht, sizeOf, typeInfo, hi, Builtin.lenOf, Builtin.firstCells]
    · simp [Builtin.append_, run_underlying ht, sizeOf, typeInfo, hi, Builtin.lenOf, Builtin.firstCells, hnc, storeCells]
  | some ad =>
    obtain ⟨v', w', hrun, hown', hgr, _⟩ := run_append_own (P := P) w base t ty e i z size bytes ht hi hz hsize hby hzs hsz v n xs hown ad m c news hl (fun j u hj => by
      have hm : 0 < m := by
        obtain ⟨hj', _⟩ := List.getElem?_eq_some_iff.1 hj
        rcases Nat.eq_zero_or_pos m with h0 | h0
        · subst h0; omega
        · exact h0
      obtain ⟨b, o, hA, _, hc⟩ := hcell hm
      obtain rfl := Option.some.inj hA
      rw [Go.WideShapes.add_plain]
      exact hc j u hj) h1 h63 hbytes hbase
    exact ⟨v', w', hrun, hown', hgr⟩
theorem wpList_append_row {w : World} {ops : Array Oper} {rest : List Oper} {o : Oper} {a : Act} {Q : Exit → Act → World → Prop} (hgd : o.guard = none) (s x : Operand) (t : TypeId)
    (ho : o.op = .call { callee := .builtin .append, args := #[s, x], argTypes := #[t, t] })
    (base : Nat) (e : TypeId) (i : TypeInfo) (z : Value) (size bytes : Nat) (ht : P.underlying t = some (.slice e)) (hi : P.info? e = some i) (hz : i.zero = some z)
    (hsize : i.size = size) (hby : i.bytes = bytes) (hzs : z.cells.size = size) (hsz : 0 < size)
    (v : Value) (n : Nat) (xs : List Value) (hs : a.eval s = v) (hown : w.ownsRow base e size v n xs) (sv : Value) (m : Nat) (news : List Value) (hx : a.eval x = sv) (hr : Row w size sv m news) (h1 : ∀ u ∈ news, u.oneCell' = true)
    (h63 : n + m ≤ maxLen) (hbytes : (n + m) * bytes ≤ 140737488355328) (hbase : base ≤ w.heap.size)
    (h : ∀ v' w', w'.ownsRow base e size v' (n + m) (xs ++ news) → w.grownBy w' v.ownBlock → wpList P ops Q rest (a.put o.dst v') w') : wpList P ops Q (o :: rest) a w := by
  obtain ⟨v', w', hrun, h2, h3⟩ := run_append_row (P := P) w base t o.type e i z size bytes ht hi hz hsize hby hzs hsz v n xs hown sv m news hr h1 h63 hbytes hbase
  refine wpList_plain hgd fun K hK => ?_
  unfold Oper.wp execOp
  simp only [ho, resolve, invoke, builtin, Sem.run_bind, Sem.run_pure, Result.andThen_ok, List.map_toArray, List.map_cons, List.map_nil, hs, hx, hrun]
  exact hK _ _ (h v' w' h2 h3)
end
theorem blk_cell {w : World} {g : Nat} {cs : Array Value} {t : TypeId} (h : w.heap[g]? = some (.cells cs t (0, 0))) (i : Nat) : w.cell? ⟨g, i, none⟩ = cs[i]? := cell_of_row w g i cs t (0, 0) h
theorem blk_free {w : World} {g : Nat} {cs : Array Value} {t : TypeId} (h : w.heap[g]? = some (.cells cs t (0, 0))) (i : Nat) : w.frozen? ⟨g, i, none⟩ = false := by simp [World.frozen?, h]
theorem bel_drewN {B : Nat} {a w : World} (h : Below B a w) (n : Nat) : Below B a (w.drewN n) := ⟨h.os, h.tape, h.output, h.size, h.block⟩
theorem below_cell {W w1 : World} (hb : Below W.heap.size W w1) : (∀ b o, b < W.heap.size → w1.cell? ⟨b, o, none⟩ = W.cell? ⟨b, o, none⟩) ∧ (∀ b o, b < W.heap.size → w1.frozen? ⟨b, o, none⟩ = W.frozen? ⟨b, o, none⟩) :=
  ⟨fun b o h => hb.cell (p := ⟨b, o, none⟩) h, fun b o h => hb.frozen (p := ⟨b, o, none⟩) h⟩
end Go.Proofs.Ytlbfejdbfhgifaa

namespace Go.Proofs.Ytlbfejdbfhgifaa
open Go.RowKit
/-! Slices whose elements are pairs of ints. -/
/-- The cubes as cells. -/
def cubes (ks : List (Int × Int)) : List Value := ks.flatMap fun k => [.int .i64 k.1, .int .i64 k.2]
theorem cubes_length (ks : List (Int × Int)) : (cubes ks).length = ks.length * 2 := by
  induction ks with
  | nil => rfl
  | cons k ks ih => simp [cubes] at ih ⊢; omega
theorem cubes_append (a b : List (Int × Int)) : cubes (a ++ b) = cubes a ++ cubes b := by simp [cubes]
theorem cubes_get {ks : List (Int × Int)} {i : Nat} {k : Int × Int} (h : ks[i]? = some k) : (cubes ks)[i * 2]? = some (.int .i64 k.1) ∧ (cubes ks)[i * 2 + 1]? = some (.int .i64 k.2) := by
  induction ks generalizing i with
  | nil => simp at h
  | cons a ks ih =>
    cases i with
    | zero =>
      have : a = k := by simpa using h
      subst this
      simp [cubes]
    | succ i =>
      have := ih (i := i) (by simpa using h)
      have e : (i + 1) * 2 = i * 2 + 1 + 1 := by omega
      rw [e]
      simpa [cubes] using this
def CubesAt (w : World) (v : Value) (ks : List (Int × Int)) : Prop := Row w 2 v ks.length (cubes ks)
theorem at_some {α : Type} {xs : List α} {i : Nat} (h : i < xs.length) : ∃ x, xs[i]? = some x := ⟨xs[i], List.getElem?_eq_getElem h⟩
/-- A cube of a slice, where it lies. -/
theorem cubes_open {w wr : World} {A : Option Addr} {n c : Nat} {ks : List (Int × Int)} (h : Row w 2 (.slice A n c) n (cubes ks)) (hb : Below w.heap.size w wr) {i : Nat} (hn : n = ks.length) (hi : i < ks.length) :
    ∃ b o k, A = some ⟨b, o, none⟩ ∧ b < w.heap.size ∧ Hid (ks[i]? = some k) ∧ wr.cell? ⟨b, o + i * 2, none⟩ = some (.int .i64 k.1) ∧ wr.cell? ⟨b, o + i * 2 + 1, none⟩ = some (.int .i64 k.2) := by
  subst hn
  obtain ⟨b, o, c', hv, _, _, hbl, hcell⟩ := h.open (by omega)
  obtain ⟨rfl, _⟩ : A = some ⟨b, o, none⟩ ∧ True := by injection hv with e1; exact ⟨e1, trivial⟩
  obtain ⟨k, hk⟩ := at_some hi
  obtain ⟨h1, h2⟩ := cubes_get hk
  refine ⟨b, o, k, rfl, hbl, Lib.hid hk, (hb.cell (p := ⟨b, _, none⟩) hbl).trans (hcell _ _ h1), ?_⟩
  rw [Nat.add_assoc]
  exact (hb.cell (p := ⟨b, _, none⟩) hbl).trans (hcell _ _ h2)

theorem run_make_any {P : Program} (t e : TypeId) (z : Value) (size bytes : Nat) (ht : P.underlying t = some (.slice e)) (hinfo : (P.info? e).map (fun i => (i.zero, i.size, i.bytes)) = some (some z, size, bytes))
    (kl kc : IntKind) (n : Nat) (hbytes : bytes * n ≤ 281474976710656) (h63 : n ≤ 9223372036854775807) (w : World) :
    (Instr.makeSlice t (.int kl (n : Int)) (.int kc (n : Int))).run P w = .ok (.slice (some ⟨w.heap.size, 0, none⟩) n n) (w.alloc (.cells (madeCells z.cells (n * size)) e)) := by
  obtain ⟨i, hi, hzz⟩ := Option.map_eq_some_iff.1 hinfo
  simp only [Prod.mk.injEq] at hzz
  obtain ⟨hz, hs, hb⟩ := hzz
  have hb' : (i.bytes : Int) * (n : Int) ≤ 281474976710656 := by
    have h : ((i.bytes * n : Nat) : Int) ≤ 281474976710656 := by rw [hb]; omega
    rwa [Int.natCast_mul] at h
  have hr := run_make (P := P) w t e i z ht hi hz kl kc n n (by omega) (Int.le_refl _) hb' (by omega)
  simp only [Int.toNat_natCast, hs] at hr
  exact hr
theorem take_set2 {α : Type} {cs L : List α} {k : Nat} {u v : α} (hk : k * 2 + 1 < cs.length) (h : cs.take (k * 2) = L.take (k * 2)) (hu : L[k * 2]? = some u) (hv : L[k * 2 + 1]? = some v) : ((cs.set (k * 2) u).set (k * 2 + 1) v).take ((k + 1) * 2) = L.take ((k + 1) * 2) := by
  have h1 := take_set_succ (by omega) h hu
  have h2 := take_set_succ (cs := cs.set (k * 2) u) (by simp; omega) h1 hv
  rw [show (k + 1) * 2 = k * 2 + 1 + 1 from by omega]
  exact h2

def bools (xs : List Bool) : List Value := xs.map Value.bool
def BoolsAt (w : World) (v : Value) (xs : List Bool) : Prop := Row w 1 v xs.length (bools xs)
theorem bools_length (xs : List Bool) : (bools xs).length = xs.length := List.length_map _
theorem bools_at {xs : List Bool} {i : Nat} (h : i < xs.length) : ∃ x, xs[i]? = some x ∧ (bools xs)[i]? = some (.bool x) :=
  ⟨xs[i], List.getElem?_eq_getElem h, by simp [bools, h]⟩
end Go.Proofs.Ytlbfejdbfhgifaa

namespace Go.Proofs.Ytlbfejdbfhgifaa
open Go.RowKit
/-! What laws do with slices of gates. -/
theorem toGate_any (c v : Int) (w : World) :
    Calls Try.prog 101 #[.agg #[.int .i64 c, .int .i64 v]] w
      fun e w' => e = .returned (.agg #[.int .i64 c, .int .i64 v]) ∧ Below w.heap.size w w' := by
  go_enter Try.func101, Try.ntmps101
  go_wp2
  refine bodyPost_ret (v := .agg #[.int .i64 c, .int .i64 v]) (by simp [results, Try.results101, go_sem]) rfl ⟨rfl, ?_⟩
  exact (((Below.refl _ _).alloc (Nat.le_refl _) _).alloc (by simp) _).alloc (by simp; omega) _
theorem info_gate : (Try.prog.info? 55).map (fun i => (i.zero, i.size, i.bytes)) = some (some (.agg #[.int .i64 0, .int .i64 0]), 2, 16) := by kernel_rfl
theorem toGateS_any (v : Value) (ks : List (Int × Int)) (w : World) (h : CubesAt w v ks) (hlen : ks.length ≤ 1048576) :
    Calls Try.prog 46 #[v] w
      fun e w' => ∃ v', e = .returned v' ∧ w'.ownsRow w.heap.size 55 2 v' ks.length (cubes ks) ∧ Below w.heap.size w w' := by
  have hmk := run_make_any (P := Try.prog) 29 55 _ 2 16 Try.underlying29 info_gate .i64 .i64 ks.length (by omega) (by omega)
  obtain ⟨A, c, hv, hc, hcm⟩ := h.shape
  subst hv
  go_enter Try.func46, Try.ntmps46
  go_wp2
  have hown0 := World.ownsRow_lit (base := w.heap.size) (e := 55) (size := 2) w (madeCells (Value.agg #[.int .i64 0, .int .i64 0]).cells (ks.length * 2)) ks.length (Nat.le_refl _) (by unfold maxLen; omega) (by simp [madeCells])
  have hb0 : Below w.heap.size w (w.alloc (.cells (madeCells (Value.agg #[.int .i64 0, .int .i64 0]).cells (ks.length * 2)) 55)) := (Below.refl _ _).alloc (Nat.le_refl _) _
  go_loopw [4] (fun i wr => ∃ (k : Nat) (cs : List Value), k ≤ ks.length ∧ i = .int .i64 k ∧ wr.ownsRow w.heap.size 55 2 (.slice (some ⟨w.heap.size, 0, none⟩) ks.length ks.length) ks.length cs ∧ cs.take (k * 2) = (cubes ks).take (k * 2) ∧ Below w.heap.size w wr)
    (fun i _ => ks.length - (intOf i).toNat)
  case atStart => exact ⟨0, _, Nat.zero_le _, rfl, hown0, rfl, hb0⟩
  case round =>
    obtain ⟨k, cs, hk, rfl, hown, htk, hb⟩ := hrel
    clear hmk hown0 hb0
    by_cases hlt : k < ks.length
    · obtain ⟨b, o, x, rfl, hbl, hx, hs1, hs2⟩ := cubes_open h hb rfl hlt
      have hl := hown.1
      have Hb := Lib.hid hb
      have Hown := Lib.hid hown
      have Htk := Lib.hid htk
      clear h hb hown htk
      go_wp2_with fail
      refine (toGate_any _ _ _).mono ?_
      rintro e w2 ⟨rfl, hb2⟩
      have ho2 := own_below Hown.out hb2
      obtain ⟨u0, _, hd0, hf0⟩ := own_slot ho2 (j := k * 2) (by omega)
      obtain ⟨u1, _, hd1, hf1⟩ := own_slot ho2 (j := k * 2 + 1) (by omega)
      obtain ⟨g1, g2⟩ := cubes_get hx.out
      have st := (ho2.stored (k * 2) (.int .i64 x.1)).1
      have st2 := Lib.hid (st.stored (k * 2 + 1) (.int .i64 x.2)).1
      have tk2 := Lib.hid (take_set2 (by omega) Htk.out g1 g2)
      have hbb := Lib.hid ((Hb.out.trans (hb2.mono Hb.out.size)))
      clear hb2 ho2 st g1 g2 hl
      go_wp2
      go_roundw
      case rel => exact ⟨k + 1, _, by omega, by go_num, st2.out, tk2.out, (hbb.out.setCell (Nat.le_refl _) _).setCell (Nat.le_refl _) _⟩
      case measure => simp [intOf]; omega
    · go_wp2
      go_ret
      have e : cs = cubes ks := by
        have hl := hown.1
        rw [List.take_of_length_le (by omega), List.take_of_length_le (by rw [cubes_length]; omega)] at htk
        exact htk
      exact ⟨_, rfl, e ▸ hown, hb⟩

theorem szGateS_ok (v : Value) (n : Nat) (cs : List Value) (w : World) (left : Int) (h : Row w 2 v n cs) (hl : left ≤ 1048576) (hn : (n : Int) ≤ left) :
    Calls Try.prog 38 #[v, .int .i64 left] w
      fun e w' => e = .returned (.int .i64 (left - n)) ∧ w = w' := by
  obtain ⟨A, c, hv, hc, hcm⟩ := h.shape
  subst hv
  unfold maxLen at hcm
  have h0 : 0 ≤ left - n := by omega
  go_enter Try.func38, Try.ntmps38
  go_wp2
  go_ret
  exact ⟨rfl, rfl⟩
theorem szGateS_no (v : Value) (n : Nat) (cs : List Value) (w : World) (left : Int) (h : Row w 2 v n cs) (hl : 0 ≤ left) (hn : left < n) :
    Calls Try.prog 38 #[v, .int .i64 left] w
      fun e w' => e = .returned (.int .i64 (-1)) ∧ w = w' := by
  obtain ⟨A, c, hv, hc, hcm⟩ := h.shape
  subst hv
  unfold maxLen at hcm
  have h0 : left - n < 0 := by omega
  go_enter Try.func38, Try.ntmps38
  go_wp2
  go_ret
  exact ⟨rfl, rfl⟩
theorem eqGate_any (a b c d : Int) (w : World) :
    Calls Try.prog 106 #[.agg #[.int .i64 a, .int .i64 b], .agg #[.int .i64 c, .int .i64 d]] w
      fun e w' => e = .returned (.bool (decide ((a, b) = (c, d)))) ∧ Below w.heap.size w w' := by
  by_cases h1 : a = c
  · by_cases h2 : b = d
    · subst h1 h2
      have d1 : (a != a) = false := by simp
      have d2 : (b != b) = false := by simp
      go_enter Try.func106, Try.ntmps106
      go_wp2
      go_ret
      exact ⟨ret_bool (by simp), ((Below.refl _ _).alloc (Nat.le_refl _) _).alloc (by simp) _⟩
    · subst h1
      have d1 : (a != a) = false := by simp
      have d2 : (b != d) = true := by simpa using h2
      go_enter Try.func106, Try.ntmps106
      go_wp2
      go_ret
      exact ⟨ret_bool (by simp [h2]), ((Below.refl _ _).alloc (Nat.le_refl _) _).alloc (by simp) _⟩
  · have d1 : (a != c) = true := by simpa using h1
    go_enter Try.func106, Try.ntmps106
    go_wp2
    go_ret
    exact ⟨ret_bool (by simp [h1]), ((Below.refl _ _).alloc (Nat.le_refl _) _).alloc (by simp) _⟩

set_option maxRecDepth 100000 in
theorem eqGateS_any (v v2 : Value) (xs ys : List (Int × Int)) (w : World) (h : CubesAt w v xs) (h2 : CubesAt w v2 ys) :
    Calls Try.prog 57 #[v, v2] w
      fun e w' => e = .returned (.bool (decide (xs = ys))) ∧ Below w.heap.size w w' := by
  obtain ⟨A, c, hv, hc, hcm⟩ := h.shape
  obtain ⟨A2, c2, hv2, hc2, hcm2⟩ := h2.shape
  subst hv hv2
  unfold maxLen at hcm hcm2
  by_cases he : xs.length = ys.length
  · have hb := Lib.hid he
    have he1 : ((xs.length : Int) != (ys.length : Int)) = false := by rw [he]; simp
    have he2 : xs.length ≤ ys.length := by omega
    clear he
    go_enter Try.func57, Try.ntmps57
    go_wp2
    go_loopw [5] (fun i wr => ∃ (k : Nat), k ≤ xs.length ∧ i = .int .i64 k ∧ xs.take k = ys.take k ∧ Below w.heap.size w wr)
      (fun i _ => xs.length - (intOf i).toNat)
    case atStart => exact ⟨0, Nat.zero_le _, rfl, rfl, Below.refl _ _⟩
    case round =>
      obtain ⟨k, hk, rfl, htk, hd⟩ := hrel
      by_cases hlt : k < xs.length
      · obtain ⟨b, o, x, rfl, hbl, hx, hs1, hs2⟩ := cubes_open h hd rfl hlt
        obtain ⟨b2, o2, y, rfl, hbl2, hy, ht1, ht2⟩ := cubes_open h2 hd rfl (show k < ys.length by omega)
        have hlt2 : k < ys.length := by omega
        have Ht := Lib.hid htk
        have Hd := Lib.hid hd
        clear htk h h2 hd
        go_wp2
        go_still_tail 8, (by kernel_rfl)
        change wpList _ _ _ _ _ wr.drew
        have Hd' := Lib.hid Hd.out.drew
        generalize wr.drew = w1 at *
        by_cases hxy : x = y
        · have Hxy := Lib.hid hxy
          have hdec : decide ((x.1, x.2) = (y.1, y.2)) = true := decide_eq_true hxy
          clear hxy
          go_wp2_with (go_at_call 106; refine (eqGate_any _ _ _ _ _).mono ?_; rintro e w2 ⟨rfl, hb2⟩; rw [hdec])
          go_roundw
          case rel => exact ⟨k + 1, by omega, by go_num, by rw [take_snoc hx.out, take_snoc hy.out, Ht.out, Hxy.out], Hd'.out.trans (hb2.mono Hd'.out.size)⟩
          case measure => simp [intOf]; omega
        · have hdec : decide ((x.1, x.2) = (y.1, y.2)) = false := decide_eq_false hxy
          have Hxy := Lib.hid hxy
          clear hxy
          go_wp2_with (go_at_call 106; refine (eqGate_any _ _ _ _ _).mono ?_; rintro e w2 ⟨rfl, hb2⟩; rw [hdec])
          go_ret
          exact ⟨ret_bool (decide_eq_false (take_ne hx.out hy.out Hxy.out)).symm, Hd'.out.trans (hb2.mono Hd'.out.size)⟩
      · go_wp2
        go_ret
        have e : xs = ys := by
          rw [List.take_of_length_le (by omega), List.take_of_length_le (by have := hb.out; omega)] at htk
          exact htk
        exact ⟨ret_bool (decide_eq_true e).symm, hd⟩
  · have hn : xs ≠ ys := fun e => he (by rw [e])
    have Hn := Lib.hid hn
    have he1 : ((xs.length : Int) != (ys.length : Int)) = true := by rw [bne_iff_ne]; omega
    clear he hn
    go_enter Try.func57, Try.ntmps57
    go_wp2
    go_ret
    exact ⟨ret_bool (decide_eq_false Hn.out).symm, Below.refl _ _⟩
end Go.Proofs.Ytlbfejdbfhgifaa

namespace Go.Proofs.Ytlbfejdbfhgifaa
/-! Circuits, plainly. -/
/-- A circuit whose numbers are natural. -/
structure Ci where
  ins : Nat
  next : List Nat
  gates : List (Nat × Nat)
  outs : List Nat
/-- A circuit as it lies in memory. -/
structure Cz where
  ins : Int
  next : List Int
  gates : List (Int × Int)
  outs : List Int
namespace Cir
def isLit (l v : Int) : Bool := decide (0 ≤ l ∧ l < 2 * v)
/-- Every gate from place k on refers to variables before its own. -/
def gatesOk (first : Int) : Nat → List (Int × Int) → Bool
  | _, [] => true
  | k, g :: gs => isLit g.1 (first + k) && isLit g.2 (first + k) && gatesOk first (k + 1) gs
def first (c : Cz) : Int := 1 + c.ins + c.next.length
def vars (c : Cz) : Int := first c + c.gates.length
def sizes (c : Cz) : Bool := decide (0 ≤ c.ins ∧ c.ins ≤ 4 ∧ c.next.length ≤ 3 ∧ c.gates.length ≤ 14 ∧ c.outs.length ≤ 3)
def valid (c : Cz) : Bool := sizes c && gatesOk (first c) 0 c.gates && (c.next ++ c.outs).all (isLit · (vars c))
def toCz (c : Ci) : Cz := { ins := c.ins, next := c.next.map Int.ofNat, gates := c.gates.map fun g => ((g.1 : Int), (g.2 : Int)), outs := c.outs.map Int.ofNat }
def nfirst (c : Ci) : Nat := 1 + c.ins + c.next.length
def nvars (c : Ci) : Nat := nfirst c + c.gates.length
/-- The circuits that are valid. -/
structure Ok (c : Ci) : Prop where
  ins : c.ins ≤ 4
  nexts : c.next.length ≤ 3
  gatess : c.gates.length ≤ 14
  outss : c.outs.length ≤ 3
  gate : ∀ (k : Nat) (g : Nat × Nat), c.gates[k]? = some g → g.1 < 2 * (nfirst c + k) ∧ g.2 < 2 * (nfirst c + k)
  next : ∀ l ∈ c.next, l < 2 * nvars c
  out : ∀ l ∈ c.outs, l < 2 * nvars c
theorem gatesOk_get {f : Int} : ∀ {gs : List (Int × Int)} {k : Nat}, gatesOk f k gs = true → ∀ (i : Nat) (g : Int × Int), gs[i]? = some g → isLit g.1 (f + (k + i : Nat)) = true ∧ isLit g.2 (f + (k + i : Nat)) = true
  | [], _, _, i, g, hg => by simp at hg
  | a :: gs, k, h, i, g, hg => by
    rw [gatesOk, Bool.and_eq_true, Bool.and_eq_true] at h
    cases i with
    | zero =>
      have : a = g := by simpa using hg
      subst this
      exact h.1
    | succ i =>
      have := gatesOk_get h.2 i g (by simpa using hg)
      rw [show k + (i + 1) = k + 1 + i from by omega]
      exact this
theorem gatesOk_drop {f : Int} {gs : List (Int × Int)} {k : Nat} {g : Int × Int} (h : gs[k]? = some g) : gatesOk f k (gs.drop k) = (isLit g.1 (f + k) && isLit g.2 (f + k) && gatesOk f (k + 1) (gs.drop (k + 1))) := by
  obtain ⟨hk, rfl⟩ := List.getElem?_eq_some_iff.1 h
  rw [List.drop_eq_getElem_cons hk, gatesOk]
theorem nat_list : ∀ {l : List Int}, (∀ x ∈ l, 0 ≤ x) → ∃ m : List Nat, l = m.map Int.ofNat
  | [], _ => ⟨[], rfl⟩
  | x :: l, h => by
    obtain ⟨m, rfl⟩ := nat_list fun y hy => h y (List.mem_cons_of_mem _ hy)
    obtain ⟨n, rfl⟩ := Int.eq_ofNat_of_zero_le (h x (by simp))
    exact ⟨n :: m, rfl⟩
theorem nat_pairs : ∀ {l : List (Int × Int)}, (∀ x ∈ l, 0 ≤ x.1 ∧ 0 ≤ x.2) → ∃ m : List (Nat × Nat), l = m.map fun g => ((g.1 : Int), (g.2 : Int))
  | [], _ => ⟨[], rfl⟩
  | (a, b) :: l, h => by
    obtain ⟨m, rfl⟩ := nat_pairs fun y hy => h y (List.mem_cons_of_mem _ hy)
    have := h (a, b) (by simp)
    obtain ⟨n, rfl⟩ := Int.eq_ofNat_of_zero_le this.1
    obtain ⟨n', rfl⟩ := Int.eq_ofNat_of_zero_le this.2
    exact ⟨(n, n') :: m, rfl⟩
/-- A valid circuit is one of natural numbers. -/
theorem valid_nat {c : Cz} (h : valid c = true) : ∃ d : Ci, c = toCz d ∧ Ok d := by
  unfold valid at h
  rw [Bool.and_eq_true, Bool.and_eq_true] at h
  obtain ⟨⟨h1, h2⟩, h3⟩ := h
  unfold sizes at h1
  rw [decide_eq_true_eq] at h1
  obtain ⟨h4, h5, h6, h7, h8⟩ := h1
  have hall : ∀ l ∈ c.next ++ c.outs, 0 ≤ l ∧ l < 2 * vars c := fun l hl => by
    have := List.all_eq_true.1 h3 l hl
    unfold isLit at this
    simpa using this
  obtain ⟨i, hi⟩ := Int.eq_ofNat_of_zero_le h4
  obtain ⟨n, hn⟩ := nat_list (l := c.next) fun x hx => (hall x (by simp [hx])).1
  obtain ⟨o, ho⟩ := nat_list (l := c.outs) fun x hx => (hall x (by simp [hx])).1
  have hg : ∀ (k : Nat) (g : Int × Int), c.gates[k]? = some g → (0 ≤ g.1 ∧ g.1 < 2 * (first c + k)) ∧ 0 ≤ g.2 ∧ g.2 < 2 * (first c + k) := fun k g hk => by
    have := gatesOk_get h2 k g hk
    unfold isLit at this
    simpa using this
  obtain ⟨gs, hgs⟩ := nat_pairs (l := c.gates) fun x hx => by
    obtain ⟨k, hk, rfl⟩ := List.mem_iff_getElem.1 hx
    have := hg k _ (List.getElem?_eq_getElem hk)
    exact ⟨this.1.1, this.2.1⟩
  refine ⟨⟨i, n, gs, o⟩, ?_, ?_⟩
  · cases c
    simp only [toCz] at *
    subst hi hn ho hgs
    rfl
  · have e1 : first c = (nfirst ⟨i, n, gs, o⟩ : Nat) := by simp [first, nfirst, hi, hn]
    have e2 : vars c = (nvars ⟨i, n, gs, o⟩ : Nat) := by
      rw [vars, e1, nvars, hgs]; simp
    refine ⟨by simp only; omega, by have := congrArg List.length hn; simp at this; simp only; omega, by have := congrArg List.length hgs; simp at this; simp only; omega, by have := congrArg List.length ho; simp at this; simp only; omega, fun k g hk => ?_, fun l hl => ?_, fun l hl => ?_⟩
    · have := hg k ((g.1 : Int), (g.2 : Int)) (by rw [hgs, List.getElem?_map]; simp only at hk; rw [hk]; rfl)
      rw [e1] at this
      simp only at this
      omega
    · have := hall (l : Int) (by rw [hn]; exact List.mem_append_left _ (List.mem_map.2 ⟨l, hl, rfl⟩))
      rw [e2] at this
      omega
    · have := hall (l : Int) (by rw [ho]; exact List.mem_append_right _ (List.mem_map.2 ⟨l, hl, rfl⟩))
      rw [e2] at this
      omega
/-! ### Values -/
def lit (v : List Bool) (l : Nat) : Bool := v.getD (l / 2) false != (l % 2 == 1)
def gval (v : List Bool) (g : Nat × Nat) : Bool := lit v g.1 && lit v g.2
def evalG (gs : List (Nat × Nat)) (v : List Bool) : List Bool := gs.foldl (fun v g => v ++ [gval v g]) v
/-- The values of all variables. -/
def vals (c : Ci) (st inp : List Bool) : List Bool := evalG c.gates (false :: (inp ++ st))
def lits (v : List Bool) (ls : List Nat) : List Bool := ls.map (lit v)
theorem evalG_length : ∀ (gs : List (Nat × Nat)) (v : List Bool), (evalG gs v).length = v.length + gs.length
  | [], v => rfl
  | g :: gs, v => by
    rw [evalG, List.foldl_cons]
    have := evalG_length gs (v ++ [gval v g])
    rw [evalG] at this
    rw [this]
    simp
    omega
theorem evalG_take_snoc {gs : List (Nat × Nat)} {k : Nat} {g : Nat × Nat} (h : gs[k]? = some g) (v : List Bool) : evalG (gs.take (k + 1)) v = evalG (gs.take k) v ++ [gval (evalG (gs.take k) v) g] := by
  unfold evalG
  rw [List.take_add_one, h, List.foldl_append]
  rfl
theorem vals_length (c : Ci) {st inp : List Bool} (h1 : inp.length = c.ins) (h2 : st.length = c.next.length) : (vals c st inp).length = nvars c := by
  rw [vals, evalG_length]
  simp [nvars, nfirst, h1, h2]
  omega
/-- The lowest n bits. -/
def bits (x n : Nat) : List Bool := (List.range n).map fun i => x.testBit i
/-- The number of some bits, the lowest first. -/
def num : List Bool → Nat
  | [] => 0
  | b :: l => (if b then 1 else 0) + 2 * num l
theorem num_lt : ∀ l : List Bool, num l < 2 ^ l.length
  | [] => by simp [num]
  | b :: l => by
    have := num_lt l
    rw [num, List.length_cons, Nat.pow_succ]
    split <;> omega
def nextOf (c : Ci) (s x : Nat) : Nat := num (lits (vals c (bits s c.next.length) (bits x c.ins)) c.next)
def outsOf (c : Ci) (s x : Nat) : List Bool := lits (vals c (bits s c.next.length) (bits x c.ins)) c.outs
theorem nextOf_lt (c : Ci) (s x : Nat) : nextOf c s x < 2 ^ c.next.length := by
  have := num_lt (lits (vals c (bits s c.next.length) (bits x c.ins)) c.next)
  unfold nextOf
  simpa [lits] using this
end Cir
end Go.Proofs.Ytlbfejdbfhgifaa

namespace Go.Proofs.Ytlbfejdbfhgifaa
/-! Circuits, plainly: the natural circuit of a valid one; ternary values; what the functions answer, as Lean functions. -/
namespace Cir
def nat (c : Cz) : Ci := { ins := c.ins.toNat, next := c.next.map Int.toNat, gates := c.gates.map fun g => (g.1.toNat, g.2.toNat), outs := c.outs.map Int.toNat }
theorem nat_toCz (d : Ci) : nat (toCz d) = d := by
  have e1 : ∀ l : List Nat, (l.map Int.ofNat).map Int.toNat = l := fun l => by
    rw [List.map_map]
    exact (List.map_congr_left fun x _ => (by simp : (Int.toNat ∘ Int.ofNat) x = id x)).trans (List.map_id l)
  have e2 : ∀ l : List (Nat × Nat), (l.map fun g => ((g.1 : Int), (g.2 : Int))).map (fun g => (g.1.toNat, g.2.toNat)) = l := fun l => by
    rw [List.map_map]
    exact (List.map_congr_left fun x _ => (by simp : ((fun g : Int × Int => (g.1.toNat, g.2.toNat)) ∘ fun g : Nat × Nat => ((g.1 : Int), (g.2 : Int))) x = id x)).trans (List.map_id l)
  unfold nat toCz
  simp only [e1, e2, Int.toNat_natCast]
theorem nat_ok {c : Cz} (h : valid c = true) : c = toCz (nat c) ∧ Ok (nat c) := by
  obtain ⟨d, rfl, hd⟩ := valid_nat h
  rw [nat_toCz]
  exact ⟨rfl, hd⟩
theorem vars_toCz (d : Ci) : vars (toCz d) = (nvars d : Nat) := by
  simp [vars, first, toCz, nvars, nfirst]
theorem first_toCz (d : Ci) : first (toCz d) = (nfirst d : Nat) := by
  simp [first, toCz, nfirst]
theorem bits_length (x n : Nat) : (bits x n).length = n := by simp [bits]
/-! ### Ternary values: 0, 1, and 2 for unknown -/
def tlit (v : List Nat) (l : Nat) : Nat := if v.getD (l / 2) 0 = 2 ∨ l % 2 = 0 then v.getD (l / 2) 0 else 1 - v.getD (l / 2) 0
def tand (a b : Nat) : Nat := if a = 0 ∨ b = 0 then 0 else if a = 1 ∧ b = 1 then 1 else 2
def tgval (v : List Nat) (g : Nat × Nat) : Nat := tand (tlit v g.1) (tlit v g.2)
def tevalG (gs : List (Nat × Nat)) (v : List Nat) : List Nat := gs.foldl (fun v g => v ++ [tgval v g]) v
def tvals (c : Ci) (st inp : List Nat) : List Nat := tevalG c.gates (0 :: (inp ++ st))
theorem tevalG_length : ∀ (gs : List (Nat × Nat)) (v : List Nat), (tevalG gs v).length = v.length + gs.length
  | [], v => rfl
  | g :: gs, v => by
    rw [tevalG, List.foldl_cons]
    have := tevalG_length gs (v ++ [tgval v g])
    rw [tevalG] at this
    rw [this]
    simp
    omega
theorem tevalG_take_snoc {gs : List (Nat × Nat)} {k : Nat} {g : Nat × Nat} (h : gs[k]? = some g) (v : List Nat) : tevalG (gs.take (k + 1)) v = tevalG (gs.take k) v ++ [tgval (tevalG (gs.take k) v) g] := by
  unfold tevalG
  rw [List.take_add_one, h, List.foldl_append]
  rfl
theorem tvals_length (c : Ci) {st inp : List Nat} (h1 : inp.length = c.ins) (h2 : st.length = c.next.length) : (tvals c st inp).length = nvars c := by
  rw [tvals, tevalG_length]
  simp [nvars, nfirst, h1, h2]
  omega
theorem tand_le (a b : Nat) : tand a b ≤ 2 := by unfold tand; split <;> (try split) <;> omega
theorem tlit_le {v : List Nat} (h : ∀ x ∈ v, x ≤ 2) (l : Nat) : tlit v l ≤ 2 := by
  have hx : v.getD (l / 2) 0 ≤ 2 := by
    rw [List.getD_eq_getElem?_getD]
    cases hi : v[l / 2]? with
    | none => simp
    | some x => exact h x (List.mem_of_getElem? hi)
  unfold tlit
  split <;> omega
theorem tevalG_le : ∀ (gs : List (Nat × Nat)) {v : List Nat}, (∀ x ∈ v, x ≤ 2) → ∀ x ∈ tevalG gs v, x ≤ 2
  | [], v, h => h
  | g :: gs, v, h => by
    have : tevalG (g :: gs) v = tevalG gs (v ++ [tgval v g]) := rfl
    rw [this]
    refine tevalG_le gs fun x hx => ?_
    rcases List.mem_append.1 hx with h1 | h1
    · exact h x h1
    · rw [List.mem_singleton.1 h1]; exact tand_le _ _
theorem tvals_le (c : Ci) {st inp : List Nat} (h1 : ∀ x ∈ st, x ≤ 2) (h2 : ∀ x ∈ inp, x ≤ 2) : ∀ x ∈ tvals c st inp, x ≤ 2 := by
  refine tevalG_le _ fun x hx => ?_
  rcases List.mem_cons.1 hx with rfl | hx
  · omega
  · rcases List.mem_append.1 hx with h | h
    · exact h2 x h
    · exact h1 x h
def tnext (c : Ci) (v : List Nat) : List Nat := c.next.map (tlit v)
/-- A ternary value that is right for a bit. -/
def Rt (t : Nat) (b : Bool) : Prop := t = 2 ∨ t = b.toNat
theorem rt_lit {v : List Nat} {u : List Bool} (hl : v.length = u.length) (h : ∀ (i t : Nat) (b : Bool), v[i]? = some t → u[i]? = some b → Rt t b) (l : Nat) (hlt : l / 2 < v.length) : Rt (tlit v l) (lit u l) := by
  have hv : v[l / 2]? = some (v[l / 2]'hlt) := List.getElem?_eq_getElem hlt
  have hu : u[l / 2]? = some (u[l / 2]'(by omega)) := List.getElem?_eq_getElem (by omega)
  have := h _ _ _ hv hu
  unfold tlit lit
  rw [List.getD_eq_getElem?_getD, List.getD_eq_getElem?_getD, hv, hu]
  generalize v[l / 2]'hlt = t at this
  generalize u[l / 2]'(by omega) = b at this
  simp only [Option.getD_some]
  unfold Rt at this ⊢
  rcases this with rfl | rfl
  · simp
  · right
    rcases Nat.mod_two_eq_zero_or_one l with h0 | h0
    · rw [h0]; cases b <;> simp
    · rw [h0]; cases b <;> simp
theorem rt_and {a b : Nat} {x y : Bool} (h1 : Rt a x) (h2 : Rt b y) : Rt (tand a b) (x && y) := by
  unfold Rt at *
  rcases h1 with rfl | rfl <;> rcases h2 with rfl | rfl <;> (try cases x) <;> (try cases y) <;> simp [tand]
def RtAll (v : List Nat) (u : List Bool) : Prop := v.length = u.length ∧ ∀ (i t : Nat) (b : Bool), v[i]? = some t → u[i]? = some b → Rt t b
theorem RtAll.snoc {v : List Nat} {u : List Bool} (h : RtAll v u) {t : Nat} {b : Bool} (ht : Rt t b) : RtAll (v ++ [t]) (u ++ [b]) := by
  refine ⟨by simp [h.1], fun i t' b' h1 h2 => ?_⟩
  rcases Nat.lt_or_ge i v.length with hi | hi
  · rw [List.getElem?_append_left hi] at h1
    rw [List.getElem?_append_left (by have := h.1; omega)] at h2
    exact h.2 i _ _ h1 h2
  · rw [List.getElem?_append_right hi] at h1
    rw [List.getElem?_append_right (by have := h.1; omega)] at h2
    have e : u.length = v.length := h.1.symm
    rw [e] at h2
    rcases hj : i - v.length with _ | j
    · rw [hj] at h1 h2
      simp at h1 h2
      subst h1 h2
      exact ht
    · rw [hj] at h1
      simp at h1
theorem rt_eval : ∀ (gs : List (Nat × Nat)) (f : Nat) {v : List Nat} {u : List Bool}, RtAll v u → v.length = f → (∀ (k : Nat) (g : Nat × Nat), gs[k]? = some g → g.1 < 2 * (f + k) ∧ g.2 < 2 * (f + k)) → RtAll (tevalG gs v) (evalG gs u)
  | [], f, v, u, h, _, _ => h
  | g :: gs, f, v, u, h, hf, hg => by
    have e1 : tevalG (g :: gs) v = tevalG gs (v ++ [tgval v g]) := rfl
    have e2 : evalG (g :: gs) u = evalG gs (u ++ [gval u g]) := rfl
    rw [e1, e2]
    have h0 := hg 0 g rfl
    refine rt_eval gs (f + 1) (h.snoc (rt_and (rt_lit h.1 h.2 _ (by omega)) (rt_lit h.1 h.2 _ (by omega)))) (by simp [hf]) fun k g' hk => ?_
    have := hg (k + 1) g' (by simpa using hk)
    omega
theorem rtAll_cons {v : List Nat} {u : List Bool} (h : RtAll v u) {t : Nat} {b : Bool} (ht : Rt t b) : RtAll (t :: v) (b :: u) := by
  refine ⟨by simp [h.1], fun i t' b' h1 h2 => ?_⟩
  cases i with
  | zero => simp at h1 h2; subst h1 h2; exact ht
  | succ i => simp at h1 h2; exact h.2 i _ _ h1 h2
theorem rtAll_append {v v' : List Nat} {u u' : List Bool} (h : RtAll v u) (h' : RtAll v' u') : RtAll (v ++ v') (u ++ u') := by
  refine ⟨by simp [h.1, h'.1], fun i t b h1 h2 => ?_⟩
  rcases Nat.lt_or_ge i v.length with hi | hi
  · rw [List.getElem?_append_left hi] at h1
    rw [List.getElem?_append_left (by have := h.1; omega)] at h2
    exact h.2 i _ _ h1 h2
  · rw [List.getElem?_append_right hi] at h1
    rw [List.getElem?_append_right (by have := h.1; omega)] at h2
    rw [← h.1] at h2
    exact h'.2 _ _ _ h1 h2
/-- A known ternary value is right for all completions. -/
theorem rt_vals (c : Ci) (hc : Ok c) {st inp : List Nat} {st' inp' : List Bool} (h1 : RtAll inp inp') (h2 : RtAll st st') (l1 : inp.length = c.ins) (l2 : st.length = c.next.length) : RtAll (tvals c st inp) (vals c st' inp') := by
  refine rt_eval c.gates (nfirst c) (rtAll_cons (rtAll_append h1 h2) (.inr rfl)) (by simp [nfirst, l1, l2]; omega) fun k g hk => ?_
  exact hc.gate k g hk
end Cir
end Go.Proofs.Ytlbfejdbfhgifaa

namespace Go.Proofs.Ytlbfejdbfhgifaa
namespace Cir
/-! Static hazards, plainly. -/
def tbits (x n : Nat) : List Nat := (bits x n).map Bool.toNat
/-- The ternary values of all variables for assignment x with input k unknown. -/
def hzV (c : Ci) (x k : Nat) : List Nat := tvals c (tbits (x / 2 ^ c.ins) c.next.length) ((tbits x c.ins).set k 2)
/-- The outputs for an assignment. -/
def outsA (c : Ci) (x : Nat) : List Bool := lits (vals c (bits (x / 2 ^ c.ins) c.next.length) (bits x c.ins)) c.outs
def hz (c : Ci) (x k o : Nat) : Bool := (outsA c x).getD o false == (outsA c (x + 2 ^ k)).getD o false && tlit (hzV c x k) (c.outs.getD o 0) == 2
def hzO (c : Ci) (x k : Nat) : Nat → List (Nat × Nat × Nat)
  | 0 => []
  | o + 1 => hzO c x k o ++ if hz c x k o then [(x, x + 2 ^ k, o)] else []
def hzK (c : Ci) (x : Nat) : Nat → List (Nat × Nat × Nat)
  | 0 => []
  | k + 1 => hzK c x k ++ if x.testBit k then [] else hzO c x k c.outs.length
def hzX (c : Ci) : Nat → List (Nat × Nat × Nat)
  | 0 => []
  | x + 1 => hzX c x ++ hzK c x c.ins
def hazards (c : Ci) : List (Nat × Nat × Nat) := hzX c (2 ^ (c.ins + c.next.length))
theorem hzO_len (c : Ci) (x k : Nat) : ∀ o, (hzO c x k o).length ≤ o
  | 0 => by simp [hzO]
  | o + 1 => by
    have := hzO_len c x k o
    rw [hzO, List.length_append]
    split <;> simp <;> omega
theorem hzK_len (c : Ci) (hc : Ok c) (x : Nat) : ∀ k, (hzK c x k).length ≤ 3 * k
  | 0 => by simp [hzK]
  | k + 1 => by
    have := hzK_len c hc x k
    have h2 := hzO_len c x k c.outs.length
    have h3 := hc.outss
    rw [hzK, List.length_append]
    split <;> simp <;> omega
theorem hzX_len (c : Ci) (hc : Ok c) : ∀ x, (hzX c x).length ≤ 12 * x
  | 0 => by simp [hzX]
  | x + 1 => by
    have := hzX_len c hc x
    have h2 := hzK_len c hc x c.ins
    have h3 := hc.ins
    rw [hzX, List.length_append]
    omega
theorem or_bit_small : ∀ x, x < 128 → ∀ k, k < 4 → x.testBit k = false → x ||| 2 ^ k = x + 2 ^ k := by decide +kernel
theorem or_bit {x k : Nat} (hx : x < 128) (hk : k < 4) (h : x.testBit k = false) : x ||| 2 ^ k = x + 2 ^ k := or_bit_small x hx k hk h
end Cir
theorem hz_no1 {p q r : Bool} (h : r = (p && q)) (hp : p = false) : r = false := by rw [h, hp]; rfl
theorem hz_no2 {p q r : Bool} (h : r = (p && q)) (hq : q = false) : r = false := by rw [h, hq]; cases p <;> rfl
theorem hz_yes {p q r : Bool} (h : r = (p && q)) (hp : p = true) (hq : q = true) : r = true := by rw [h, hp, hq]; rfl
end Go.Proofs.Ytlbfejdbfhgifaa

namespace Go.Proofs.Ytlbfejdbfhgifaa
open Go.RowKit
/-- The numbers from k on, as cells. -/
def runI (k m : Nat) : List Value := (List.range m).map fun i => Value.int .i64 ((k + i : Nat) : Int)
theorem runI_length (k m : Nat) : (runI k m).length = m := by simp [runI]
theorem runI_get {k m i : Nat} (h : i < m) : (runI k m)[i]? = some (.int .i64 ((k + i : Nat) : Int)) := by simp [runI, h]
theorem runI_take {k m j : Nat} (h : j ≤ m) : (runI k m).take j = runI k j := by
  unfold runI
  rw [← List.map_take, List.take_range, Nat.min_eq_left h]
theorem set_run {cs : List Value} {k m j : Nat} (hl : cs.length = m) (hj : j < m) (h : cs.take j = runI k j) : (cs.set j (.int .i64 ((k + j : Nat) : Int))).take (j + 1) = runI k (j + 1) := by
  rw [← runI_take (m := m) (show j + 1 ≤ m by omega)]
  exact take_set_succ (by omega) (by rw [h, runI_take (by omega)]) (runI_get hj)
theorem set_run_at {cs : List Value} {k m j : Nat} {x : Int} (hx : x = ((k + j : Nat) : Int)) (hl : cs.length = m) (hj : j < m) (h : cs.take j = runI k j) : (cs.set j (.int .i64 x)).take (j + 1) = runI k (j + 1) := by
  subst hx
  exact set_run hl hj h
theorem grownBy_comp {a b c : World} {r : Option Nat} (h : a.grownBy b r) (h' : b.grownBy c r) : a.grownBy c r :=
  ⟨h'.os.trans h.os, h'.tape.trans h.tape, h'.output.trans h.output, Nat.le_trans h.size h'.size,
    fun k hk hr => (h'.block k (Nat.lt_of_lt_of_le hk h.size) hr).trans (h.block k hk hr)⟩
theorem own_of_take {w : World} {B n size : Nat} {e : TypeId} {v : Value} {cs : List Value} {k : Nat} (h : w.ownsRow B e size v n cs) (ht : cs.take (n * size) = runI k (n * size)) : w.ownsRow B e size v n (runI k (n * size)) := by
  rw [← ht, List.take_of_length_le (by rw [h.1]; exact Nat.le_refl _)]
  exact h
end Go.Proofs.Ytlbfejdbfhgifaa

namespace Go.Proofs.Ytlbfejdbfhgifaa
open Go.RowKit
set_option maxRecDepth 100000
/-! Slices of hazards (three ints). -/
def trips (ks : List (Nat × Nat × Nat)) : List Value := ks.flatMap fun k => [.int .i64 k.1, .int .i64 k.2.1, .int .i64 k.2.2]
theorem trips_length (ks : List (Nat × Nat × Nat)) : (trips ks).length = ks.length * 3 := by
  induction ks with
  | nil => rfl
  | cons k ks ih => simp [trips] at ih ⊢; omega
theorem trips_append (a b : List (Nat × Nat × Nat)) : trips (a ++ b) = trips a ++ trips b := by simp [trips]
theorem trips_snoc' (Y Z : List (Nat × Nat × Nat)) (q : Nat × Nat × Nat) : trips (Y ++ (Z ++ [q])) = trips (Y ++ Z) ++ [.int .i64 q.1, .int .i64 q.2.1, .int .i64 q.2.2] := by simp [trips]
theorem len_snoc' (Y Z : List (Nat × Nat × Nat)) (q : Nat × Nat × Nat) : (Y ++ (Z ++ [q])).length = (Y ++ Z).length + 1 := by simp; omega
theorem trips_get {ks : List (Nat × Nat × Nat)} {i : Nat} {k : Nat × Nat × Nat} (h : ks[i]? = some k) : (trips ks)[i * 3]? = some (.int .i64 k.1) ∧ (trips ks)[i * 3 + 1]? = some (.int .i64 k.2.1) ∧ (trips ks)[i * 3 + 2]? = some (.int .i64 k.2.2) := by
  induction ks generalizing i with
  | nil => simp at h
  | cons a ks ih =>
    cases i with
    | zero =>
      have : a = k := by simpa using h
      subst this
      simp [trips]
    | succ i =>
      have := ih (i := i) (by simpa using h)
      have e : (i + 1) * 3 = i * 3 + 1 + 1 + 1 := by omega
      rw [e]
      simpa [trips] using this
def TripsAt (w : World) (v : Value) (ks : List (Nat × Nat × Nat)) : Prop := Row w 3 v ks.length (trips ks)
theorem trips_open {w wr : World} {A : Option Addr} {n c : Nat} {ks : List (Nat × Nat × Nat)} (h : Row w 3 (.slice A n c) n (trips ks)) (hb : Below w.heap.size w wr) {i : Nat} (hn : n = ks.length) (hi : i < ks.length) :
    ∃ b o k, A = some ⟨b, o, none⟩ ∧ b < w.heap.size ∧ Hid (ks[i]? = some k) ∧ wr.cell? ⟨b, o + i * 3, none⟩ = some (.int .i64 k.1) ∧ wr.cell? ⟨b, o + i * 3 + 1, none⟩ = some (.int .i64 k.2.1) ∧ wr.cell? ⟨b, o + i * 3 + 2, none⟩ = some (.int .i64 k.2.2) := by
  subst hn
  obtain ⟨b, o, c', hv, _, _, hbl, hcell⟩ := h.open (by omega)
  obtain ⟨rfl, _⟩ : A = some ⟨b, o, none⟩ ∧ True := by injection hv with e1; exact ⟨e1, trivial⟩
  obtain ⟨k, hk⟩ := at_some hi
  obtain ⟨h1, h2, h3⟩ := trips_get hk
  refine ⟨b, o, k, rfl, hbl, Lib.hid hk, (hb.cell (p := ⟨b, _, none⟩) hbl).trans (hcell _ _ h1), ?_, ?_⟩
  · rw [Nat.add_assoc]
    exact (hb.cell (p := ⟨b, _, none⟩) hbl).trans (hcell _ _ h2)
  · rw [Nat.add_assoc]
    exact (hb.cell (p := ⟨b, _, none⟩) hbl).trans (hcell _ _ h3)
theorem info_haz : (Try.prog.info? 57).map (fun i => (i.zero, i.size, i.bytes)) = some (some (.agg #[.int .i64 0, .int .i64 0, .int .i64 0]), 3, 24) := by kernel_rfl
theorem eqHazard_same (a b c : Nat) (w : World) :
    Calls Try.prog 55 #[.agg #[.int .i64 a, .int .i64 b, .int .i64 c], .agg #[.int .i64 a, .int .i64 b, .int .i64 c]] w
      fun e w' => e = .returned (.bool true) ∧ Below w.heap.size w w' := by
  have d1 : ((a : Int) != (a : Int)) = false := by simp
  have d2 : ((b : Int) != (b : Int)) = false := by simp
  have d3 : ((c : Int) != (c : Int)) = false := by simp
  go_enter Try.func55, Try.ntmps55
  go_wp2
  go_ret
  exact ⟨rfl, ((Below.refl _ _).alloc (Nat.le_refl _) _).alloc (by simp) _⟩
theorem eqHazardS_same (v v2 : Value) (xs : List (Nat × Nat × Nat)) (w : World) (h : TripsAt w v xs) (h2 : TripsAt w v2 xs) :
    Calls Try.prog 14 #[v, v2] w
      fun e w' => e = .returned (.bool true) ∧ Below w.heap.size w w' := by
  obtain ⟨A, c, hv, hc, hcm⟩ := h.shape
  obtain ⟨A2, c2, hv2, hc2, hcm2⟩ := h2.shape
  subst hv hv2
  unfold maxLen at hcm hcm2
  have he1 : ((xs.length : Int) != (xs.length : Int)) = false := by simp
  go_enter Try.func14, Try.ntmps14
  go_wp2
  go_loopw [5] (fun i wr => ∃ (k : Nat), k ≤ xs.length ∧ i = .int .i64 k ∧ Below w.heap.size w wr)
    (fun i _ => xs.length - (intOf i).toNat)
  case atStart => exact ⟨0, Nat.zero_le _, rfl, Below.refl _ _⟩
  case round =>
    obtain ⟨k, hk, rfl, hd⟩ := hrel
    by_cases hlt : k < xs.length
    · obtain ⟨b, o, x, rfl, hbl, hx, hs1, hs2, hs3⟩ := trips_open h hd rfl hlt
      obtain ⟨b2, o2, y, rfl, hbl2, hy, ht1, ht2, ht3⟩ := trips_open h2 hd rfl hlt
      obtain rfl : x = y := Option.some.inj (hx.out.symm.trans hy.out)
      have Hd := Lib.hid hd
      clear h h2 hd hx hy
      go_wp2
      go_still_tail 8, (by kernel_rfl)
      change wpList _ _ _ _ _ wr.drew
      have Hd' := Lib.hid Hd.out.drew
      generalize wr.drew = w1 at *
      go_wp2_with (go_at_call 55; refine (eqHazard_same _ _ _ _).mono ?_; rintro e w2 ⟨rfl, hb2⟩)
      go_roundw
      case rel => exact ⟨k + 1, by omega, by go_num, Hd'.out.trans (hb2.mono Hd'.out.size)⟩
      case measure => simp [intOf]; omega
    · go_wp2
      go_ret
      exact ⟨rfl, hd⟩
/-- What marking a slice comes to. -/
def MarkedHaz (B : Nat) (v : Value) (n k : Nat) (w : World) (e : Ending) (w' : World) : Prop :=
  e = .returned (.int .i64 ((k + n * 3 : Nat) : Int)) ∧ w'.ownsRow B 57 3 v n (runI k (n * 3)) ∧ w.grownBy w' v.ownBlock
theorem markHazardS_any (B : Nat) (v : Value) (n k : Nat) (cs : List Value) (w : World) (h : w.ownsRow B 57 3 v n cs) (hn : n ≤ 1048576) (hk : k ≤ 100000000) :
    Calls Try.prog 17 #[v, .int .i64 k] w (MarkedHaz B v n k w) := by
  have hlc := h.1
  obtain ⟨A, c, hv, hc, hcm⟩ := (Row.of_own h).shape
  subst hv
  have H := Lib.hid h
  clear h
  go_enter Try.func17, Try.ntmps17
  go_wp2_with fail
  go_loopw [1, 5] (fun q i wr => ∃ (j : Nat) (ds : List Value), j ≤ n ∧ i = .int .i64 j ∧ q = .int .i64 ((k + j * 3 : Nat) : Int) ∧ wr.ownsRow B 57 3 (.slice A n c) n ds ∧ ds.take (j * 3) = runI k (j * 3) ∧ w.grownBy wr (Value.slice A n c).ownBlock) (fun _ i _ => n - (intOf i).toNat)
  case atStart => exact ⟨0, cs, Nat.zero_le _, rfl, rfl, H.out, rfl, World.grownBy.refl w _⟩
  case round =>
    obtain ⟨j, ds, hj, rfl, rfl, hown, htk, hg⟩ := hrel
    by_cases hlt : j < n
    · obtain ⟨g, c', hv, _, hgl, _⟩ := own_open hown (by omega)
      injection hv with hA _ hcc
      subst hA hcc
      have hl := hown.1
      obtain ⟨u0, _, hd0, hf0⟩ := own_slot hown (j := j * 3) (by omega)
      obtain ⟨u1, _, hd1, hf1⟩ := own_slot hown (j := j * 3 + 1) (by omega)
      obtain ⟨u2, _, hd2, hf2⟩ := own_slot hown (j := j * 3 + 2) (by omega)
      have s1 := hown.stored (j * 3) (.int .i64 ((k : Int) + (j : Int) * 3))
      have s2 := s1.1.stored (j * 3 + 1) (.int .i64 ((k : Int) + (j : Int) * 3 + 1))
      have s3 := Lib.hid (s2.1.stored (j * 3 + 2) (.int .i64 ((k : Int) + (j : Int) * 3 + 2)))
      have t1 := set_run_at (m := n * 3) (x := (k : Int) + (j : Int) * 3) (by omega) hl (by omega) htk
      have t2 := set_run_at (m := n * 3) (j := j * 3 + 1) (x := (k : Int) + (j : Int) * 3 + 1) (by omega) (by simp [hl]) (by omega) t1
      have t3 := Lib.hid (set_run_at (m := n * 3) (j := j * 3 + 2) (x := (k : Int) + (j : Int) * 3 + 2) (by omega) (by simp [hl]) (by omega) t2)
      have G := Lib.hid (grownBy_comp (grownBy_comp hg s1.2) s2.2)
      clear hown htk hl hg s1 s2 t1 t2 H
      go_wp2_with fail
      go_roundw
      case rel => exact ⟨j + 1, _, by omega, by go_num, by rw [show k + (j + 1) * 3 = k + j * 3 + 3 from by omega]; go_num, s3.out.1, by rw [show (j + 1) * 3 = j * 3 + 2 + 1 from by omega]; exact t3.out, grownBy_comp G.out s3.out.2⟩
      case measure => simp [intOf]; omega
    · obtain rfl : j = n := by omega
      go_wp2
      go_ret
      exact ⟨rfl, own_of_take hown htk, hg⟩
theorem heldHazardS_any (v : Value) (n k : Nat) (w : World) (h : Row w 3 v n (runI k (n * 3))) (hn : n ≤ 1048576) (hk : k ≤ 100000000) :
    Calls Try.prog 18 #[v, .int .i64 k] w fun e w' => e = .returned (.int .i64 ((k + n * 3 : Nat) : Int)) ∧ w = w' := by
  obtain ⟨A, c, hv, hc, hcm⟩ := h.shape
  subst hv
  go_enter Try.func18, Try.ntmps18
  go_wp2_with fail
  go_loop [1, 5] (fun q i => ∃ (j : Nat), j ≤ n ∧ i = .int .i64 j ∧ q = .int .i64 ((k + j * 3 : Nat) : Int)) (fun _ i => n - (intOf i).toNat)
  case atStart => exact ⟨0, Nat.zero_le _, rfl, rfl⟩
  case round =>
    obtain ⟨j, hj, rfl, rfl⟩ := hrel
    by_cases hlt : j < n
    · obtain ⟨b, o, c', hv, _, _, hbl, hcell⟩ := h.open (by omega)
      injection hv with hA _ hcc
      subst hA hcc
      have c0 := hcell (j * 3) _ (runI_get (by omega))
      have c1 := hcell (j * 3 + 1) _ (runI_get (by omega))
      have c2 := hcell (j * 3 + 2) _ (runI_get (by omega))
      rw [← Nat.add_assoc] at c1 c2
      clear hcell h
      have d0 : (((k + (j * 3 + 1) : Nat) : Int) != ((k + j * 3 : Nat) : Int) + 1) = false := by simp; omega
      have d1 : (((k + (j * 3 + 2) : Nat) : Int) != ((k + j * 3 : Nat) : Int) + 1 + 1) = false := by simp; omega
      have d2 : (((k + (j * 3 + 2) : Nat) : Int) != ((k + j * 3 : Nat) : Int) + 2) = false := by simp; omega
      go_wp2_with fail
      go_round
      case rel => exact ⟨j + 1, by omega, by go_num, by rw [show k + (j + 1) * 3 = k + j * 3 + 3 from by omega]; go_num⟩
      case measure => simp [intOf]; omega
    · obtain rfl : j = n := by omega
      go_wp2
      go_ret
      exact ⟨rfl, rfl⟩
end Go.Proofs.Ytlbfejdbfhgifaa

namespace Go.Proofs.Ytlbfejdbfhgifaa
open Go.RowKit
/-! What laws do with slices of ints. -/
theorem info_int : (Try.prog.info? 3).map (fun i => (i.zero, i.size, i.bytes)) = some (some (.int .i64 0), 1, 8) := by kernel_rfl

theorem toIntS_any (v : Value) (xs : List Int) (w : World) (h : IntsAt w v xs) (hlen : xs.length ≤ 1048576) :
    Calls Try.prog 45 #[v] w
      fun e w' => ∃ v', e = .returned v' ∧ w'.ownsRow w.heap.size 3 1 v' xs.length (ints xs) ∧ Below w.heap.size w w' := by
  have hmk := run_make_row' (P := Try.prog) 22 3 (.int .i64 0) 8 Try.underlying22 info_int rfl .i64 .i64 xs.length (by omega) (by omega)
  obtain ⟨A, c, hv, hc, hcm⟩ := h.shape
  subst hv
  go_enter Try.func45, Try.ntmps45
  go_wp2
  have hr0 := h.alloc (.cells (madeCells #[Value.int .i64 0] xs.length) 3)
  have hown0 := World.ownsRow_lit (base := w.heap.size) (e := 3) (size := 1) w (madeCells #[Value.int .i64 0] xs.length) xs.length (Nat.le_refl _) (by unfold maxLen; omega) (by simp [madeCells])
  have hb0 : Below w.heap.size w (w.alloc (.cells (madeCells #[Value.int .i64 0] xs.length) 3)) := (Below.refl _ _).alloc (Nat.le_refl _) _
  go_loopw [4] (fun i wr => ∃ (k : Nat) (cs : List Value), k ≤ xs.length ∧ i = .int .i64 k ∧ wr.ownsRow w.heap.size 3 1 (.slice (some ⟨w.heap.size, 0, none⟩) xs.length xs.length) xs.length cs ∧ cs.take k = (ints xs).take k ∧ Below w.heap.size w wr)
    (fun i _ => xs.length - (intOf i).toNat)
  case atStart => exact ⟨0, _, Nat.zero_le _, rfl, hown0, rfl, hb0⟩
  case round =>
    obtain ⟨k, cs, hk, rfl, hown, htk, hb⟩ := hrel
    clear hmk hr0 hown0 hb0
    by_cases hlt : k < xs.length
    · obtain ⟨b, o, c', hv, _, _, hbl, hcell⟩ := h.open (by omega)
      obtain ⟨rfl, _⟩ : A = some ⟨b, o, none⟩ ∧ True := by injection hv with e1; exact ⟨e1, trivial⟩
      obtain ⟨x, hx, hs⟩ := ints_at hlt
      have hsrc : wr.cell? ⟨b, o + k, none⟩ = some (.int .i64 x) := (hb.cell (p := ⟨b, o + k, none⟩) hbl).trans (hcell k _ hs)
      have hl := hown.1
      obtain ⟨u0, _, hd, hf⟩ := own_slot hown (j := k) (by omega)
      have Hown := Lib.hid (hown.stored k (.int .i64 x)).1
      have Hstep := Lib.hid (take_set_succ (by omega) htk hs)
      clear hcell hv hx hs hl htk hown h
      go_wp2
      go_roundw
      case rel => exact ⟨k + 1, _, by omega, by go_num, Hown.out, Hstep.out, hb.setCell (Nat.le_refl _) _⟩
      case measure => simp [intOf]; omega
    · go_wp2
      go_ret
      have e : cs = ints xs := by
        have hl := hown.1
        rw [List.take_of_length_le (by omega), List.take_of_length_le (by rw [ints_length]; omega)] at htk
        exact htk
      exact ⟨_, rfl, e ▸ hown, hb⟩

theorem eqIntS_any (v v2 : Value) (xs ys : List Int) (w : World) (h : IntsAt w v xs) (h2 : IntsAt w v2 ys) (hlen : xs.length ≤ 1048576) :
    Calls Try.prog 56 #[v, v2] w
      fun e w' => e = .returned (.bool (decide (xs = ys))) ∧ Drew w w' := by
  obtain ⟨A, c, hv, hc, hcm⟩ := h.shape
  obtain ⟨A2, c2, hv2, hc2, hcm2⟩ := h2.shape
  subst hv hv2
  by_cases he : xs.length = ys.length
  · have hb := Lib.hid he
    have he1 : ((xs.length : Int) != (ys.length : Int)) = false := by rw [he]; simp
    have he2 : xs.length ≤ ys.length := by omega
    clear he
    go_enter Try.func56, Try.ntmps56
    go_wp2
    go_loopw [5] (fun i wr => ∃ (k : Nat), k ≤ xs.length ∧ i = .int .i64 k ∧ xs.take k = ys.take k ∧ Drew w wr)
      (fun i _ => xs.length - (intOf i).toNat)
    case atStart => exact ⟨0, Nat.zero_le _, rfl, rfl, Drew.refl _⟩
    case round =>
      obtain ⟨k, hk, rfl, htk, hd⟩ := hrel
      by_cases hlt : k < xs.length
      · obtain ⟨b, o, c', hv, _, _, hbl, hcell⟩ := h.open (by omega)
        obtain ⟨rfl, _⟩ : A = some ⟨b, o, none⟩ ∧ True := by injection hv with e1; exact ⟨e1, trivial⟩
        obtain ⟨b2, o2, c2', hv2, _, _, hbl2, hcell2⟩ := h2.open (by omega)
        obtain ⟨rfl, _⟩ : A2 = some ⟨b2, o2, none⟩ ∧ True := by injection hv2 with e1; exact ⟨e1, trivial⟩
        obtain ⟨x, hx, hs⟩ := ints_at hlt
        obtain ⟨y, hy, hs2⟩ := ints_at (xs := ys) (i := k) (by omega)
        have hsrc : wr.cell? ⟨b, o + k, none⟩ = some (.int .i64 x) := (hd.cell _).trans (hcell k _ hs)
        have hsrc2 : wr.cell? ⟨b2, o2 + k, none⟩ = some (.int .i64 y) := (hd.cell _).trans (hcell2 k _ hs2)
        have Hx := Lib.hid hx
        have Hy := Lib.hid hy
        have Ht := Lib.hid htk
        clear hcell hcell2 hv hv2 hs hs2 hx hy htk h h2
        go_wp2
        go_quiet (fail)
        go_wp2
        · go_ret
          have hn : x ≠ y := bne_iff_ne.1 (by assumption)
          exact ⟨ret_bool (decide_eq_false (take_ne Hx.out Hy.out hn)).symm, hd.more _⟩
        · go_roundw
          case rel =>
            have hn : x = y := by have hz : (x != y) = false := by assumption
                                  simpa using hz
            exact ⟨k + 1, by omega, by go_num, by rw [take_snoc Hx.out, take_snoc Hy.out, Ht.out, hn], hd.more _⟩
          case measure => simp [intOf]; omega
      · go_wp2
        go_ret
        have e : xs = ys := by
          rw [List.take_of_length_le (by omega), List.take_of_length_le (by have := hb.out; omega)] at htk
          exact htk
        exact ⟨ret_bool (decide_eq_true e).symm, hd⟩
  · have hn : xs ≠ ys := fun e => he (by rw [e])
    have Hn := Lib.hid hn
    have he1 : ((xs.length : Int) != (ys.length : Int)) = true := by rw [bne_iff_ne]; omega
    clear he hn
    go_enter Try.func56, Try.ntmps56
    go_wp2
    go_ret
    exact ⟨ret_bool (decide_eq_false Hn.out).symm, Drew.refl _⟩
theorem szIntS_ok (v : Value) (n : Nat) (cs : List Value) (w : World) (left : Int) (h : Row w 1 v n cs) (hl : left ≤ 1048576) (hn : (n : Int) ≤ left) :
    Calls Try.prog 37 #[v, .int .i64 left] w
      fun e w' => e = .returned (.int .i64 (left - n)) ∧ w = w' := by
  obtain ⟨A, c, hv, hc, hcm⟩ := h.shape
  subst hv
  unfold maxLen at hcm
  have h0 : 0 ≤ left - n := by omega
  go_enter Try.func37, Try.ntmps37
  go_wp2
  go_ret
  exact ⟨rfl, rfl⟩
theorem szIntS_no (v : Value) (n : Nat) (cs : List Value) (w : World) (left : Int) (h : Row w 1 v n cs) (hl : 0 ≤ left) (hl2 : left ≤ 1048576) (hn : left < n) :
    Calls Try.prog 37 #[v, .int .i64 left] w
      fun e w' => e = .returned (.int .i64 (-1)) ∧ w = w' := by
  obtain ⟨A, c, hv, hc, hcm⟩ := h.shape
  subst hv
  unfold maxLen at hcm
  have h0 : left - n < 0 := by omega
  go_enter Try.func37, Try.ntmps37
  go_wp2
  go_ret
  exact ⟨rfl, rfl⟩
end Go.Proofs.Ytlbfejdbfhgifaa

namespace Go.Proofs.Ytlbfejdbfhgifaa
open Go.RowKit
/-! append to a row of the call's own: where the new row lies. -/
section
variable {P : Program}
theorem run_append_row_at (w : World) (base : Nat) (t ty e : TypeId) (i : TypeInfo) (z : Value) (size bytes : Nat) (ht : P.underlying t = some (.slice e)) (hi : P.info? e = some i) (hz : i.zero = some z)
    (hsize : i.size = size) (hby : i.bytes = bytes) (hzs : z.cells.size = size) (hsz : 0 < size)
    (v : Value) (n : Nat) (xs : List Value) (hown : w.ownsRow base e size v n xs) (sv : Value) (m : Nat) (news : List Value) (hr : Row w size sv m news) (h1 : ∀ u ∈ news, u.oneCell' = true)
    (h63 : n + m ≤ maxLen) (hbytes : (n + m) * bytes ≤ 140737488355328) (hbase : base ≤ w.heap.size) :
    ∃ v' w', (Builtin.append_ #[t, t] ty #[v, sv]).run P w = .ok v' w' ∧ w'.ownsRow base e size v' (n + m) (xs ++ news) ∧ w.grownBy w' v.ownBlock ∧ (v'.ownBlock = v.ownBlock ∨ v'.ownBlock = some w.heap.size) := by
  obtain ⟨hl, A, c, rfl, hc1, hc2, hcell⟩ := hr
  cases A with
  | none =>
    have hm : m = 0 := by
      rcases Nat.eq_zero_or_pos m with h0 | h0
      · exact h0
      · obtain ⟨b, o, h, _⟩ := hcell h0
        cases h
    subst hm
    have hn : news = [] := List.eq_nil_of_length_eq_zero (by simpa using hl)
    subst hn
    refine ⟨v, w, ?_, by simpa using hown, World.grownBy.refl w _, .inl rfl⟩
    rcases hown.2 with ⟨rfl, rfl⟩ | ⟨g, cap, cur, rfl, _, _, hnc, _⟩
    · simp [Builtin.append_, run_underlying ht, sizeOf, typeInfo, hi, Builtin.lenOf, Builtin.firstCells]
    · simp [Builtin.append_, run_underlying ht, sizeOf, typeInfo, hi, Builtin.lenOf, Builtin.firstCells, hnc, storeCells]
  | some ad =>
    obtain ⟨v', w', hrun, hown', hgr, _, hat⟩ := run_append_own_at (P := P) w base t ty e i z size bytes ht hi hz hsize hby hzs hsz v n xs hown ad m c news hl (fun j u hj => by
      have hm : 0 < m := by
        obtain ⟨hj', _⟩ := List.getElem?_eq_some_iff.1 hj
        rcases Nat.eq_zero_or_pos m with h0 | h0
        · subst h0; omega
        · exact h0
      obtain ⟨b, o, hA, _, hc⟩ := hcell hm
      obtain rfl := Option.some.inj hA
      rw [Go.WideShapes.add_plain]
      exact hc j u hj) h1 h63 hbytes hbase
    exact ⟨v', w', hrun, hown', hgr, hat⟩
theorem wpList_append_at {w : World} {ops : Array Oper} {rest : List Oper} {o : Oper} {a : Act} {Q : Exit → Act → World → Prop} (hgd : o.guard = none) (s x : Operand) (t : TypeId)
    (ho : o.op = .call { callee := .builtin .append, args := #[s, x], argTypes := #[t, t] })
    (base : Nat) (e : TypeId) (i : TypeInfo) (z : Value) (size bytes : Nat) (ht : P.underlying t = some (.slice e)) (hi : P.info? e = some i) (hz : i.zero = some z)
    (hsize : i.size = size) (hby : i.bytes = bytes) (hzs : z.cells.size = size) (hsz : 0 < size)
    (v : Value) (n : Nat) (xs : List Value) (hs : a.eval s = v) (hown : w.ownsRow base e size v n xs) (sv : Value) (m : Nat) (news : List Value) (hx : a.eval x = sv) (hr : Row w size sv m news) (h1 : ∀ u ∈ news, u.oneCell' = true)
    (h63 : n + m ≤ maxLen) (hbytes : (n + m) * bytes ≤ 140737488355328) (hbase : base ≤ w.heap.size)
    (h : ∀ v' w', w'.ownsRow base e size v' (n + m) (xs ++ news) → w.grownBy w' v.ownBlock → (v'.ownBlock = v.ownBlock ∨ v'.ownBlock = some w.heap.size) → wpList P ops Q rest (a.put o.dst v') w') : wpList P ops Q (o :: rest) a w := by
  obtain ⟨v', w', hrun, h2, h3, h4⟩ := run_append_row_at (P := P) w base t o.type e i z size bytes ht hi hz hsize hby hzs hsz v n xs hown sv m news hr h1 h63 hbytes hbase
  refine wpList_plain hgd fun K hK => ?_
  unfold Oper.wp execOp
  simp only [ho, resolve, invoke, builtin, Sem.run_bind, Sem.run_pure, Result.andThen_ok, List.map_toArray, List.map_cons, List.map_nil, hs, hx, hrun]
  exact hK _ _ (h v' w' h2 h3 h4)
end
theorem own_mono {w : World} {base base' n size : Nat} {e : TypeId} {v : Value} {xs : List Value} (h : w.ownsRow base e size v n xs) (hb : base' ≤ base) : w.ownsRow base' e size v n xs :=
  ⟨h.1, h.2.imp id fun ⟨g, cap, cur, h1, h2, h3⟩ => ⟨g, cap, cur, h1, Nat.le_trans hb h2, h3⟩⟩
theorem own_kept {w w' : World} {base n size : Nat} {e : TypeId} {v : Value} {xs : List Value} {row : Option Nat} (h : w.ownsRow base e size v n xs) (hg : w.grownBy w' row) (hne : ∀ g, v.ownBlock = some g → row ≠ some g) : w'.ownsRow base e size v n xs :=
  h.kept hg (by
    cases hv : v.ownBlock with
    | none => exact .inl rfl
    | some g => exact .inr fun e => hne g hv e.symm)
end Go.Proofs.Ytlbfejdbfhgifaa

namespace Go.Proofs.Ytlbfejdbfhgifaa
open Go.RowKit
section
variable {P : Program}
theorem step_append_at {w : World} {ops : Array Oper} {o : Oper} {a : Act} {K : Act → World → Prop} {Q : Exit → Act → World → Prop} {E : Prop} (hgd : o.guard = none) (s x : Operand) (t : TypeId)
    (ho : o.op = .call { callee := .builtin .append, args := #[s, x], argTypes := #[t, t] })
    (base : Nat) (e : TypeId) (i : TypeInfo) (z : Value) (size bytes : Nat) (ht : P.underlying t = some (.slice e)) (hi : P.info? e = some i) (hz : i.zero = some z)
    (hsize : i.size = size) (hby : i.bytes = bytes) (hzs : z.cells.size = size) (hsz : 0 < size)
    (v : Value) (n : Nat) (xs : List Value) (hs : a.eval s = v) (hown : w.ownsRow base e size v n xs) (sv : Value) (m : Nat) (news : List Value) (hx : a.eval x = sv) (hr : Row w size sv m news) (h1 : ∀ u ∈ news, u.oneCell' = true)
    (h63 : n + m ≤ maxLen) (hbytes : (n + m) * bytes ≤ 140737488355328) (hbase : base ≤ w.heap.size)
    (h : ∀ v' w', w'.ownsRow base e size v' (n + m) (xs ++ news) → w.grownBy w' v.ownBlock → K (a.put o.dst v') w') : if Region.wanted o (yielded ops a.tmps) = true then Oper.wp P o a w K Q else E := by
  have hw : Region.wanted o (yielded ops a.tmps) = true := by simp [Region.wanted, hgd]
  rw [if_pos hw]
  obtain ⟨v', w', hrun, h2, h3, h4⟩ := run_append_row_at (P := P) w base t o.type e i z size bytes ht hi hz hsize hby hzs hsz v n xs hown sv m news hr h1 h63 hbytes hbase
  unfold Oper.wp execOp
  simp only [ho, resolve, invoke, builtin, Sem.run_bind, Sem.run_pure, Result.andThen_ok, List.map_toArray, List.map_cons, List.map_nil, hs, hx, hrun]
  exact h v' w' h2 h3
end
end Go.Proofs.Ytlbfejdbfhgifaa

namespace Go.Proofs.Ytlbfejdbfhgifaa
open Go.RowKit
set_option maxRecDepth 100000
/-! Slices of ints of the call's own; small lemmas. -/
theorem append_ints {w : World} {ops : Array Oper} {rest : List Oper} {o : Oper} {a : Act} {Q : Exit → Act → World → Prop} (hgd : o.guard = none) (s x : Operand)
    (ho : o.op = .call { callee := .builtin .append, args := #[s, x], argTypes := #[22, 22] })
    (base : Nat) (v : Value) (n : Nat) (xs : List Value) (hs : a.eval s = v) (hown : w.ownsRow base 3 1 v n xs) (sv : Value) (m : Nat) (news : List Value) (hx : a.eval x = sv) (hr : Row w 1 sv m news) (h1 : ∀ u ∈ news, u.oneCell' = true)
    (h63 : n + m ≤ 10000000) (hbase : base ≤ w.heap.size)
    (h : ∀ v' w', w'.ownsRow base 3 1 v' (n + m) (xs ++ news) → w.grownBy w' v.ownBlock → (v'.ownBlock = v.ownBlock ∨ v'.ownBlock = some w.heap.size) → wpList Try.prog ops Q rest (a.put o.dst v') w') : wpList Try.prog ops Q (o :: rest) a w := by
  obtain ⟨i, hi, hz0, hz1, hz2⟩ := info_parts info_int
  exact wpList_append_at hgd s x 22 ho base 3 i _ 1 8 Try.underlying22 hi hz0 hz1 hz2 rfl (by decide) v n xs hs hown sv m news hx hr h1 (by unfold maxLen; omega) (by omega) hbase h
theorem ints_one (xs : List Int) : ∀ u ∈ ints xs, u.oneCell' = true := by
  intro u hu
  obtain ⟨x, _, rfl⟩ := List.mem_map.1 hu
  rfl
theorem own_ge0 {w : World} {base n size : Nat} {e : TypeId} {v : Value} {xs : List Value} (h : w.ownsRow base e size v n xs) : ∀ k, v.ownBlock = some k → base ≤ k := fun k hk => (h.lt k hk).1
def OwnInts (xs : List Int) (w : World) (e : Ending) (w' : World) : Prop := ∃ v, e = .returned v ∧ w'.ownsRow w.heap.size 3 1 v xs.length (ints xs) ∧ Below w.heap.size w w'
def nats (xs : List Nat) : List Int := xs.map Int.ofNat
theorem nats_length (xs : List Nat) : (nats xs).length = xs.length := List.length_map _
def NatsAt (w : World) (v : Value) (xs : List Nat) : Prop := IntsAt w v (nats xs)
theorem nats_cell {w : World} {A : Option Addr} {n c : Nat} {xs : List Nat} (h : Row w 1 (.slice A n c) n (ints (nats xs))) (hn : n = xs.length) {i : Nat} (hi : i < xs.length) : ∃ b o x, A = some ⟨b, o, none⟩ ∧ b < w.heap.size ∧ Hid (xs[i]? = some x) ∧ w.cell? ⟨b, o + i, none⟩ = some (.int .i64 (x : Nat)) := by
  subst hn
  obtain ⟨b, o, c', hv, _, _, hbl, hcell⟩ := h.open (by omega)
  injection hv with hv1
  obtain ⟨x, hx⟩ := at_some hi
  exact ⟨b, o, x, hv1, hbl, Lib.hid hx, hcell i _ (by unfold ints nats; rw [List.getElem?_map, List.getElem?_map, hx]; rfl)⟩
def nints (xs : List Nat) : List Value := ints (nats xs)
theorem nints_length (xs : List Nat) : (nints xs).length = xs.length := by unfold nints; rw [ints_length, nats_length]
theorem nints_one (xs : List Nat) : ∀ u ∈ nints xs, u.oneCell' = true := ints_one _
theorem nints_rep (m : Nat) : nints (List.replicate m 0) = List.replicate m (Value.int .i64 0) := by
  unfold nints ints nats
  rw [List.map_replicate, List.map_replicate]
  rfl
theorem nats_own {w : World} {b n : Nat} {v : Value} {xs : List Nat} (h : w.ownsRow b 3 1 v n (nints xs)) (hn : xs.length = n) : NatsAt w v xs := by
  have := Row.of_own h
  unfold NatsAt IntsAt
  rw [nats_length, hn]
  exact this
theorem own_nil (w : World) (w' : World) (hb : Below w.heap.size w w') : OwnInts [] w (.returned (.slice none 0 0)) w' := ⟨_, rfl, World.ownsRow_nil _ _ _ _, hb⟩
theorem nints_append (a b : List Nat) : nints (a ++ b) = nints a ++ nints b := by unfold nints ints nats; rw [List.map_append, List.map_append]
theorem own_lit0 (w w' : World) (hb : Below w.heap.size w w') (t : TypeId) : OwnInts [] w (.returned (.slice (some ⟨w'.heap.size, 0, none⟩) 0 0)) (w'.alloc (.cells #[] 3)) :=
  ⟨_, rfl, World.ownsRow_lit (base := w.heap.size) (e := 3) (size := 1) w' #[] 0 hb.size (by unfold maxLen; omega) rfl, hb.alloc hb.size _⟩
theorem set_grown (w : World) (g i : Nat) (v : Value) : w.grownBy (w.setCell ⟨g, i, none⟩ v) (some g) :=
  ⟨rfl, rfl, rfl, by simp [World.setCell], fun k _ hk => heap_setCell_other w ⟨g, i, none⟩ k _ (fun e => hk (by simp [e]))⟩
theorem own_set {w : World} {base n size : Nat} {e : TypeId} {v : Value} {xs : List Value} {g i : Nat} {u : Value} (h : w.ownsRow base e size v n xs) (hg : g < base) : (w.setCell ⟨g, i, none⟩ u).ownsRow base e size v n xs :=
  own_kept h (set_grown w g i u) fun q hq e => by
    have h1 := (h.lt q hq).1
    have h2 := Option.some.inj e
    omega
theorem run_make_cap {P : Program} (t e : TypeId) (z : Value) (size bytes : Nat) (ht : P.underlying t = some (.slice e)) (hinfo : (P.info? e).map (fun i => (i.zero, i.size, i.bytes)) = some (some z, size, bytes))
    (kl kc : IntKind) (n : Nat) (hbytes : bytes * n ≤ 281474976710656) (h63 : n ≤ 9223372036854775807) (w : World) :
    (Instr.makeSlice t (.int kl 0) (.int kc (n : Int))).run P w = .ok (.slice (some ⟨w.heap.size, 0, none⟩) 0 n) (w.alloc (.cells (madeCells z.cells (n * size)) e)) := by
  obtain ⟨i, hi, hzz⟩ := Option.map_eq_some_iff.1 hinfo
  simp only [Prod.mk.injEq] at hzz
  obtain ⟨hz, hs, hb⟩ := hzz
  have hb' : (i.bytes : Int) * (n : Int) ≤ 281474976710656 := by
    have h : ((i.bytes * n : Nat) : Int) ≤ 281474976710656 := by rw [hb]; omega
    rwa [Int.natCast_mul] at h
  have hr := run_make (P := P) w t e i z ht hi hz kl kc 0 n (by omega) (by omega) hb' (by omega)
  simp only [Int.toNat_natCast, Int.toNat_zero, hs] at hr
  exact hr
theorem bel_new (w : World) (o : Obj) : Below w.heap.size w (w.alloc o) := (Below.refl _ _).alloc (Nat.le_refl _) o
theorem nats_row {w : World} {A : Option Addr} {c : Nat} {xs : List Nat} (h : NatsAt w (.slice A xs.length c) xs) : Row w 1 (.slice A xs.length c) xs.length (ints (nats xs)) := by
  have := h; unfold NatsAt IntsAt at this; rwa [nats_length] at this
theorem NatsAt.shape {w : World} {v : Value} {xs : List Nat} (h : NatsAt w v xs) : ∃ A c, v = .slice A xs.length c ∧ xs.length ≤ c ∧ c ≤ maxLen := by
  have := Row.shape h
  rwa [nats_length] at this
theorem NatsAt.below {w w' : World} {v : Value} {xs : List Nat} (h : NatsAt w v xs) (hb : Below w.heap.size w w') : NatsAt w' v xs := Row.below h hb
theorem slice_of_own {w : World} {B n size : Nat} {e : TypeId} {v : Value} {cs : List Value} (h : w.ownsRow B e size v n cs) : ∃ A c, v = .slice A n c := by
  obtain ⟨A, c, hv, -⟩ := (Row.of_own h).shape
  exact ⟨A, c, hv⟩
theorem heap_lt {w : World} {g : Nat} {o : Obj} (h : w.heap[g]? = some o) : g < w.heap.size := by
  rcases Nat.lt_or_ge g w.heap.size with hl | hl
  · exact hl
  · rw [Array.getElem?_eq_none hl] at h; cases h
theorem nints_snoc (l : List Nat) (n : Nat) : nints (l ++ [n]) = nints l ++ [.int .i64 (n : Int)] := by unfold nints ints nats; rw [List.map_append, List.map_append]; rfl
theorem own_nats {w : World} {B : Nat} {v : Value} {xs : List Nat} (h : w.ownsRow B 3 1 v xs.length (nints xs)) : NatsAt w v xs := nats_own h rfl
theorem ints_snoc (l : List Int) (n : Int) : ints (l ++ [n]) = ints l ++ [.int .i64 n] := by unfold ints; rw [List.map_append]; rfl
/-- An int of a slice, where it lies. -/
theorem ints_open {w wr : World} {A : Option Addr} {n c : Nat} {xs : List Int} (h : Row w 1 (.slice A n c) n (ints xs)) (hb : Below w.heap.size w wr) {i : Nat} (hn : n = xs.length) (hi : i < xs.length) :
    ∃ b o x, A = some ⟨b, o, none⟩ ∧ b < w.heap.size ∧ Hid (xs[i]? = some x) ∧ wr.cell? ⟨b, o + i, none⟩ = some (.int .i64 x) := by
  subst hn
  obtain ⟨b, o, c', hv, _, _, hbl, hcell⟩ := h.open (by omega)
  obtain ⟨rfl, _⟩ : A = some ⟨b, o, none⟩ ∧ True := by injection hv with e1; exact ⟨e1, trivial⟩
  obtain ⟨x, hx, hs⟩ := ints_at hi
  exact ⟨b, o, x, rfl, hbl, Lib.hid hx, (hb.cell (p := ⟨b, _, none⟩) hbl).trans (hcell _ _ hs)⟩
end Go.Proofs.Ytlbfejdbfhgifaa

namespace Go.Proofs.Ytlbfejdbfhgifaa
open Go.RowKit
theorem l1In_any (n lo hi : Int) (w : World) :
    Calls Try.prog 94 #[.int .i64 n, .int .i64 lo, .int .i64 hi] w
      fun e w' => e = .returned (.bool (decide (lo ≤ n ∧ n ≤ hi))) ∧ w = w' := by
  go_enter Try.func94, Try.ntmps94
  go_wp2
  all_goals
    go_ret
    refine ⟨ret_bool ?_, rfl⟩
    simp
    try omega
end Go.Proofs.Ytlbfejdbfhgifaa
