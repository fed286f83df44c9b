import Derived.WalkKit
import Derived.WalkSpells
import Derived.BigQuiet
import Derived.Below
import Derived.OpenShut
import Derived.Laws.OwnMore
import Derived.OwnWalk
import Derived.Deep.OwnRows
import Derived.Deep.Draws
import Derived.Deep.QuietTactic
import Derived.Outline
import Derived.Lib.Hide
import Derived.Maps.AppendAt
import Derived.Test.YtlbfejdbfhgifaaProg
import Derived.Lib.SmallJoins
import Derived.ProofKit
import Derived.Deep.Slices
import Derived.Deep.Fields
import Derived.ChangeSame
import Derived.Deep.RegionLaw
set_option linter.unusedVariables false
set_option linter.unusedSimpArgs false
namespace Go.Proofs.Ytlbfejdbfhgifaa
open Go.RowKit

/-! Memory: a slice value that reads as a row of cells; a row of the call's own. -/

theorem quietS {P : Program} {f : FuncId} {args : Array Value} {w : World} {n : Nat} {v : Value}
    (h : Calls P f args (w.drewN n) fun e w' => e = .returned v ∧ w.drewN n = w') : Calls P f args (w.drewN n) fun e w'' => e = .returned v ∧ ∃ m, w'' = w.drewN m :=
  h.mono fun _ _ ⟨he, hm⟩ => ⟨he, n, hm.symm⟩

/-- w' is w but for the count of what was drawn. -/
def Drew (w w' : World) : Prop := ∃ m, w' = w.drewN m
theorem Drew.refl (w : World) : Drew w w := ⟨0, rfl⟩
theorem Drew.by (w : World) (m : Nat) : Drew w (w.drewN m) := ⟨m, rfl⟩
theorem Drew.more {w a : World} (h : Drew w a) (n : Nat) : Drew w (a.drewN n) := by
  obtain ⟨m, rfl⟩ := h
  exact ⟨m + n, World.drewN_drewN _ _ _⟩
theorem Drew.trans {w a b : World} (h : Drew w a) (h' : Drew a b) : Drew w b := by
  obtain ⟨n, rfl⟩ := h'
  exact h.more n
theorem Drew.cell {w a : World} (h : Drew w a) (p : Addr) : a.cell? p = w.cell? p := by
  obtain ⟨m, rfl⟩ := h
  rfl
theorem Drew.size {w a : World} (h : Drew w a) : a.heap.size = w.heap.size := by
  obtain ⟨m, rfl⟩ := h
  rfl
theorem Drew.below {w a : World} (h : Drew w a) (B : Nat) : Below B w a := by
  obtain ⟨m, rfl⟩ := h
  exact ⟨rfl, rfl, rfl, Nat.le_refl _, fun _ _ => rfl⟩
theorem quietD {P : Program} {f : FuncId} {args : Array Value} {w : World} {n : Nat} {v : Value}
    (h : Calls P f args (w.drewN n) fun e w' => e = .returned v ∧ Drew (w.drewN n) w') : Calls P f args (w.drewN n) fun e w'' => e = .returned v ∧ ∃ m, w'' = w.drewN m :=
  h.mono fun _ _ ⟨he, m, hm⟩ => ⟨he, n + m, by rw [hm, World.drewN_drewN]⟩

/-- The slice value v has n elements of size cells each, and reads as the cells cs. -/
def Row (w : World) (size : Nat) (v : Value) (n : Nat) (cs : List Value) : Prop :=
  cs.length = n * size ∧ ∃ A c, v = .slice A n c ∧ n ≤ c ∧ c ≤ maxLen ∧
    (0 < n → ∃ b o, A = some ⟨b, o, none⟩ ∧ b < w.heap.size ∧ ∀ j u, cs[j]? = some u → w.cell? ⟨b, o + j, none⟩ = some u)

section
variable {w w' : World} {size n : Nat} {v : Value} {cs : List Value}
theorem Row.len (h : Row w size v n cs) : cs.length = n * size := h.1
theorem Row.shape (h : Row w size v n cs) : ∃ A c, v = .slice A n c ∧ n ≤ c ∧ c ≤ maxLen := by
  obtain ⟨_, A, c, hv, h1, h2, _⟩ := h
  exact ⟨A, c, hv, h1, h2⟩
theorem Row.open (h : Row w size v n cs) (hn : 0 < n) : ∃ b o c, v = .slice (some ⟨b, o, none⟩) n c ∧ n ≤ c ∧ c ≤ maxLen ∧ b < w.heap.size ∧ ∀ j u, cs[j]? = some u → w.cell? ⟨b, o + j, none⟩ = some u := by
  obtain ⟨_, A, c, hv, h1, h2, h3⟩ := h
  obtain ⟨b, o, rfl, hb, hc⟩ := h3 hn
  exact ⟨b, o, c, hv, h1, h2, hb, hc⟩
theorem Row.keep (h : Row w size v n cs) (hs : w.heap.size ≤ w'.heap.size) (hk : ∀ p : Addr, p.block < w.heap.size → w'.cell? p = w.cell? p) : Row w' size v n cs := by
  obtain ⟨h0, A, c, hv, h1, h2, h3⟩ := h
  refine ⟨h0, A, c, hv, h1, h2, fun hn => ?_⟩
  obtain ⟨b, o, hA, hb, hc⟩ := h3 hn
  exact ⟨b, o, hA, by omega, fun j u hu => (hk _ hb).trans (hc j u hu)⟩
theorem Row.below (h : Row w size v n cs) (hb : Below w.heap.size w w') : Row w' size v n cs := h.keep hb.size fun _ hp => hb.cell hp
theorem Row.drew (h : Row w size v n cs) (hd : Drew w w') : Row w' size v n cs := h.below (hd.below _)
theorem Row.drewN (h : Row w size v n cs) (m : Nat) : Row (w.drewN m) size v n cs := h
theorem Row.alloc (h : Row w size v n cs) (o : Obj) : Row (w.alloc o) size v n cs := h.below ((Below.refl _ _).alloc (Nat.le_refl _) o)
theorem Row.of_own {base : Nat} {e : TypeId} (h : w.ownsRow base e size v n cs) : Row w size v n cs := by
  refine ⟨h.1, ?_⟩
  rcases h.2 with ⟨rfl, rfl⟩ | ⟨g, cap, cur, rfl, _, hh, h1, h2, _⟩
  · exact ⟨none, 0, rfl, Nat.le_refl _, Nat.zero_le _, fun h => absurd h (by omega)⟩
  · refine ⟨_, cap, rfl, h1, h2, fun _ => ⟨g, 0, rfl, ?_, fun j u hu => ?_⟩⟩
    · rcases Nat.lt_or_ge g w.heap.size with hl | hl
      · exact hl
      · rw [Array.getElem?_eq_none hl] at hh; cases hh
    · have := h.cells (g := g) rfl j u hu
      rw [Nat.zero_add]
      by_cases hj : j = 0
      · subst hj; exact this
      · simpa [Addr.add, hj] using this
theorem Row.nil (w : World) (size : Nat) : Row w size (.slice none 0 0) 0 [] :=
  ⟨by simp, none, 0, rfl, Nat.le_refl _, Nat.zero_le _, fun h => absurd h (by omega)⟩
end

/-- The numbers as cells. -/
def ints (xs : List Int) : List Value := xs.map (Value.int .i64)
def IntsAt (w : World) (v : Value) (xs : List Int) : Prop := Row w 1 v xs.length (ints xs)
theorem ints_length (xs : List Int) : (ints xs).length = xs.length := List.length_map _
theorem ints_at {xs : List Int} {i : Nat} (h : i < xs.length) : ∃ x, xs[i]? = some x ∧ (ints xs)[i]? = some (.int .i64 x) :=
  ⟨xs[i], List.getElem?_eq_getElem h, by simp [ints, h]⟩
theorem ints_get {xs : List Int} {i : Nat} (h : i < xs.length) : (ints xs)[i]? = some (.int .i64 (xs.getD i 0)) := by
  simp [ints, h, List.getD_eq_getElem?_getD]

/-- An argument that is a slice of integers. -/
theorem Row.given {w : World} {k : IntKind} {a : Option Addr} {len cap : Nat} {zs : List Int}
    (h : (a = none ∧ len = 0 ∧ cap = 0 ∧ zs = []) ∨
      ∃ x, a = some x ∧ len ≤ cap ∧ cap ≤ maxLen ∧ zs.length = cap ∧ (∀ i, i < zs.length → w.cell? (x.add i) = some (.int k (zs.getD i 0))) ∧ ∀ n ∈ zs, (Lit.int k n).wf = true) :
    ∃ xs : List Int, xs.length = len ∧ (∀ n ∈ xs, (Lit.int k n).wf = true) ∧ Row w 1 (.slice a len cap) len (xs.map (Value.int k)) := by
  rcases h with ⟨rfl, rfl, rfl, rfl⟩ | ⟨x, rfl, h1, h2, h3, h4, h5⟩
  · exact ⟨[], rfl, by simp, Row.nil w 1⟩
  · refine ⟨zs.take len, by simp; omega, fun n hn => h5 n (List.mem_of_mem_take hn), by simp; omega, some x, cap, rfl, h1, h2, fun hp => ?_⟩
    obtain ⟨b, off, spot⟩ := x
    have h0 := h4 0 (by omega)
    have hspot : spot = none := by simpa [Addr.add] using World.cell?_spot h0
    subst hspot
    refine ⟨b, off, rfl, ?_, fun j u hu => ?_⟩
    · rcases Nat.lt_or_ge b w.heap.size with hl | hl
      · exact hl
      · simp [World.cell?, Addr.add, Array.getElem?_eq_none hl] at h0
    · have hj : j < len := by
        obtain ⟨hj, _⟩ := List.getElem?_eq_some_iff.1 hu
        simp at hj; omega
      rw [← Go.WideShapes.add_plain, h4 j (by omega), ← hu]
      simp [List.getElem?_take, hj, List.getD_eq_getElem?_getD, show j < zs.length from by omega]

/-- A row of the call's own that is not empty. -/
theorem own_open {w : World} {base : Nat} {e : TypeId} {size n : Nat} {v : Value} {cs : List Value} (h : w.ownsRow base e size v n cs) (hn : 0 < n) :
    ∃ g c, v = .slice (some ⟨g, 0, none⟩) n c ∧ base ≤ g ∧ g < w.heap.size ∧ n ≤ c ∧ c ≤ maxLen := by
  rcases h.2 with ⟨rfl, rfl⟩ | ⟨g, cap, cur, rfl, hb, hh, h1, h2, _⟩
  · omega
  · refine ⟨g, cap, rfl, hb, ?_, h1, h2⟩
    rcases Nat.lt_or_ge g w.heap.size with hl | hl
    · exact hl
    · rw [Array.getElem?_eq_none hl] at hh; cases hh

theorem own_slot {w : World} {base : Nat} {e : TypeId} {size n cap g : Nat} {cs : List Value} (h : w.ownsRow base e size (.slice (some ⟨g, 0, none⟩) n cap) n cs) {j : Nat} (hj : j < n * size) :
    ∃ u, cs[j]? = some u ∧ w.cell? ⟨g, j, none⟩ = some u ∧ w.frozen? ⟨g, j, none⟩ = false := by
  have hl := h.1
  refine ⟨cs[j]'(by omega), List.getElem?_eq_getElem _, ?_, h.frozenAt j⟩
  rw [h.cellAt j hj, List.getElem?_eq_getElem]
/-- A cell of a slice literal of numbers between lo and hi. -/
theorem lit_cell (w : World) (L : List Int) (t : TypeId) (lo hi : Int) (hL : ∀ x ∈ L, lo ≤ x ∧ x ≤ hi) (i : Nat) (h : i < L.length) :
    ∃ v : Int, lo ≤ v ∧ v ≤ hi ∧ (w.alloc (.cells (L.map (Value.int .i64)).toArray t)).cell? ⟨w.heap.size, i, none⟩ = some (.int .i64 v) := by
  have hm := hL L[i] (List.getElem_mem h)
  refine ⟨L[i], hm.1, hm.2, ?_⟩
  rw [cell_of_row _ _ i _ t (0, 0) (heap_alloc_new w _)]
  simp [h]
/-- A row of the call's own below what changes. -/
theorem own_below {w w' : World} {base : Nat} {e : TypeId} {size n : Nat} {v : Value} {cs : List Value} (h : w.ownsRow base e size v n cs) (hb : Below w.heap.size w w') : w'.ownsRow base e size v n cs := by
  refine h.kept (row := none) ⟨hb.os, hb.tape, hb.output, hb.size, fun k hk _ => hb.block k hk⟩ ?_
  cases hv : v.ownBlock with
  | none => exact .inl rfl
  | some q => exact .inr (by simp)
theorem take_set_succ {α : Type} {cs L : List α} {k : Nat} {u : α} (hk : k < cs.length) (h : cs.take k = L.take k) (hu : L[k]? = some u) : (cs.set k u).take (k + 1) = L.take (k + 1) := by
  apply List.ext_getElem?
  intro j
  have hj := congrArg (fun l => l[j]?) h
  simp only [List.getElem?_take, List.getElem?_set] at hj ⊢
  by_cases h1 : j < k
  · simpa [h1, Nat.lt_succ_of_lt h1, Nat.ne_of_gt h1] using hj
  · by_cases h2 : j = k
    · subst h2; simp [hk, hu]
    · simp [show ¬ j < k + 1 from by omega]
theorem take_snoc {α : Type} {xs : List α} {k : Nat} {x : α} (h : xs[k]? = some x) : xs.take (k + 1) = xs.take k ++ [x] := by
  rw [List.take_add_one, h]; rfl
theorem take_ne {α : Type} {xs ys : List α} {k : Nat} {x y : α} (h : xs[k]? = some x) (h' : ys[k]? = some y) (hn : x ≠ y) : xs ≠ ys := by
  rintro rfl
  rw [h] at h'
  exact hn (Option.some.inj h')
section
variable {P : Program}
/-- append to a row of the call's own, whatever the source: nil, empty or not. -/
theorem run_append_row (w : World) (base : Nat) (t ty e : TypeId) (i : TypeInfo) (z : Value) (size bytes : Nat) (ht : P.underlying t = some (.slice e)) (hi : P.info? e = some i) (hz : i.zero = some z)
    (hsize : i.size = size) (hby : i.bytes = bytes) (hzs : z.cells.size = size) (hsz : 0 < size)
    (v : Value) (n : Nat) (xs : List Value) (hown : w.ownsRow base e size v n xs) (sv : Value) (m : Nat) (news : List Value) (hr : Row w size sv m news) (h1 : ∀ u ∈ news, u.oneCell' = true)
    (h63 : n + m ≤ maxLen) (hbytes : (n + m) * bytes ≤ 140737488355328) (hbase : base ≤ w.heap.size) :
    ∃ v' w', (Builtin.append_ #[t, t] ty #[v, sv]).run P w = .ok v' w' ∧ w'.ownsRow base e size v' (n + m) (xs ++ news) ∧ w.grownBy w' v.ownBlock := by
  obtain ⟨hl, A, c, rfl, hc1, hc2, hcell⟩ := hr
  cases A with
  | none =>
    have hm : m = 0 := by
      rcases Nat.eq_zero_or_pos m with h0 | h0
      · exact h0
      · obtain ⟨b, o, h, _⟩ := hcell h0
        cases h
    subst hm
    have hn : news = [] := List.eq_nil_of_length_eq_zero (by simpa using hl)
    subst hn
    refine ⟨v, w, ?_, by simpa using hown, World.grownBy.refl w _⟩
    rcases hown.2 with ⟨rfl, rfl⟩ | ⟨g, cap, cur, rfl, _, _, hnc, _⟩
    · simp [Builtin.append_, run_underlying ht, sizeOf, typeInfo, hi, Builtin.lenOf, Builtin.firstCells]
    · simp [Builtin.append_, run_underlying ht, sizeOf, typeInfo, hi, Builtin.lenOf, Builtin.firstCells, hnc, storeCells]
  | some ad =>
    obtain ⟨v', w', hrun, hown', hgr, _⟩ := run_append_own (P := P) w base t ty e i z size bytes ht hi hz hsize hby hzs hsz v n xs hown ad m c news hl (fun j u hj => by
      have hm : 0 < m := by
        obtain ⟨hj', _⟩ := List.getElem?_eq_some_iff.1 hj
        rcases Nat.eq_zero_or_pos m with h0 | h0
        · subst h0; omega
        · exact h0
      obtain ⟨b, o, hA, _, hc⟩ := hcell hm
      obtain rfl := Option.some.inj hA
      rw [Go.WideShapes.add_plain]
      exact hc j u hj) h1 h63 hbytes hbase
    exact ⟨v', w', hrun, hown', hgr⟩
theorem wpList_append_row {w : World} {ops : Array Oper} {rest : List Oper} {o : Oper} {a : Act} {Q : Exit → Act → World → Prop} (hgd : o.guard = none) (s x : Operand) (t : TypeId)
    (ho : o.op = .call { callee := .builtin .append, args := #[s, x], argTypes := #[t, t] })
    (base : Nat) (e : TypeId) (i : TypeInfo) (z : Value) (size bytes : Nat) (ht : P.underlying t = some (.slice e)) (hi : P.info? e = some i) (hz : i.zero = some z)
    (hsize : i.size = size) (hby : i.bytes = bytes) (hzs : z.cells.size = size) (hsz : 0 < size)
    (v : Value) (n : Nat) (xs : List Value) (hs : a.eval s = v) (hown : w.ownsRow base e size v n xs) (sv : Value) (m : Nat) (news : List Value) (hx : a.eval x = sv) (hr : Row w size sv m news) (h1 : ∀ u ∈ news, u.oneCell' = true)
    (h63 : n + m ≤ maxLen) (hbytes : (n + m) * bytes ≤ 140737488355328) (hbase : base ≤ w.heap.size)
    (h : ∀ v' w', w'.ownsRow base e size v' (n + m) (xs ++ news) → w.grownBy w' v.ownBlock → wpList P ops Q rest (a.put o.dst v') w') : wpList P ops Q (o :: rest) a w := by
  obtain ⟨v', w', hrun, h2, h3⟩ := run_append_row (P := P) w base t o.type e i z size bytes ht hi hz hsize hby hzs hsz v n xs hown sv m news hr h1 h63 hbytes hbase
  refine wpList_plain hgd fun K hK => ?_
  unfold Oper.wp execOp
  simp only [ho, resolve, invoke, builtin, Sem.run_bind, Sem.run_pure, Result.andThen_ok, List.map_toArray, List.map_cons, List.map_nil, hs, hx, hrun]
  exact hK _ _ (h v' w' h2 h3)
end
theorem blk_cell {w : World} {g : Nat} {cs : Array Value} {t : TypeId} (h : w.heap[g]? = some (.cells cs t (0, 0))) (i : Nat) : w.cell? ⟨g, i, none⟩ = cs[i]? := cell_of_row w g i cs t (0, 0) h
theorem blk_free {w : World} {g : Nat} {cs : Array Value} {t : TypeId} (h : w.heap[g]? = some (.cells cs t (0, 0))) (i : Nat) : w.frozen? ⟨g, i, none⟩ = false := by simp [World.frozen?, h]
theorem bel_drewN {B : Nat} {a w : World} (h : Below B a w) (n : Nat) : Below B a (w.drewN n) := ⟨h.os, h.tape, h.output, h.size, h.block⟩
theorem below_cell {W w1 : World} (hb : Below W.heap.size W w1) : (∀ b o, b < W.heap.size → w1.cell? ⟨b, o, none⟩ = W.cell? ⟨b, o, none⟩) ∧ (∀ b o, b < W.heap.size → w1.frozen? ⟨b, o, none⟩ = W.frozen? ⟨b, o, none⟩) :=
  ⟨fun b o h => hb.cell (p := ⟨b, o, none⟩) h, fun b o h => hb.frozen (p := ⟨b, o, none⟩) h⟩
end Go.Proofs.Ytlbfejdbfhgifaa

namespace Go.Proofs.Ytlbfejdbfhgifaa
open Go.RowKit
/-! A world that differs from another one in some blocks and in new ones alone. -/
structure Only (E : Nat → Prop) (w w' : World) : Prop where
  os : w'.os = w.os
  tape : w'.tape = w.tape
  output : w'.output = w.output
  size : w.heap.size ≤ w'.heap.size
  block : ∀ k, k < w.heap.size → ¬ E k → w'.heap[k]? = w.heap[k]?
section
variable {E : Nat → Prop} {a b c : World}
theorem Only.refl (E : Nat → Prop) (w : World) : Only E w w := ⟨rfl, rfl, rfl, Nat.le_refl _, fun _ _ _ => rfl⟩
theorem Only.trans (h : Only E a b) (h' : Only E b c) : Only E a c :=
  ⟨h'.os.trans h.os, h'.tape.trans h.tape, h'.output.trans h.output, Nat.le_trans h.size h'.size, fun k hk he => (h'.block k (Nat.lt_of_lt_of_le hk h.size) he).trans (h.block k hk he)⟩
theorem Only.grown {r : Option Nat} (h : a.grownBy b r) (hr : ∀ k, r = some k → E k) : Only E a b :=
  ⟨h.os, h.tape, h.output, h.size, fun k hk he => h.block k hk fun e => he (hr k e.symm)⟩
theorem Only.drew (E : Nat → Prop) (w : World) : Only E w w.drew := ⟨rfl, rfl, rfl, Nat.le_refl _, fun _ _ _ => rfl⟩
theorem Only.mono {F : Nat → Prop} (h : Only E a b) (hE : ∀ k, E k → F k) : Only F a b := ⟨h.os, h.tape, h.output, h.size, fun k hk he => h.block k hk fun e => he (hE k e)⟩
theorem Only.of_below (E : Nat → Prop) (h : Below a.heap.size a b) : Only E a b := ⟨h.os, h.tape, h.output, h.size, fun k hk _ => h.block k hk⟩
theorem Only.below {B : Nat} {w : World} (h : Below B w a) (h' : Only E a b) (hB : B ≤ a.heap.size) (hE : ∀ k, E k → B ≤ k) : Below B w b :=
  ⟨h'.os.trans h.os, h'.tape.trans h.tape, h'.output.trans h.output, Nat.le_trans h.size h'.size, fun k hk => (h'.block k (Nat.lt_of_lt_of_le hk hB) fun e => by have := hE k e; omega).trans (h.block k hk)⟩
theorem Only.grownBy {R : Nat} (h : Only (· = R) a b) : a.grownBy b (some R) := ⟨h.os, h.tape, h.output, h.size, fun k hk hn => h.block k hk fun e => hn (by rw [e])⟩
end
end Go.Proofs.Ytlbfejdbfhgifaa

namespace Go.Proofs.Ytlbfejdbfhgifaa
open Go.RowKit
/-! append to a row of the call's own: where the new row lies. -/
section
variable {P : Program}
theorem run_append_row_at (w : World) (base : Nat) (t ty e : TypeId) (i : TypeInfo) (z : Value) (size bytes : Nat) (ht : P.underlying t = some (.slice e)) (hi : P.info? e = some i) (hz : i.zero = some z)
    (hsize : i.size = size) (hby : i.bytes = bytes) (hzs : z.cells.size = size) (hsz : 0 < size)
    (v : Value) (n : Nat) (xs : List Value) (hown : w.ownsRow base e size v n xs) (sv : Value) (m : Nat) (news : List Value) (hr : Row w size sv m news) (h1 : ∀ u ∈ news, u.oneCell' = true)
    (h63 : n + m ≤ maxLen) (hbytes : (n + m) * bytes ≤ 140737488355328) (hbase : base ≤ w.heap.size) :
    ∃ v' w', (Builtin.append_ #[t, t] ty #[v, sv]).run P w = .ok v' w' ∧ w'.ownsRow base e size v' (n + m) (xs ++ news) ∧ w.grownBy w' v.ownBlock ∧ (v'.ownBlock = v.ownBlock ∨ v'.ownBlock = some w.heap.size) := by
  obtain ⟨hl, A, c, rfl, hc1, hc2, hcell⟩ := hr
  cases A with
  | none =>
    have hm : m = 0 := by
      rcases Nat.eq_zero_or_pos m with h0 | h0
      · exact h0
      · obtain ⟨b, o, h, _⟩ := hcell h0
        cases h
    subst hm
    have hn : news = [] := List.eq_nil_of_length_eq_zero (by simpa using hl)
    subst hn
    refine ⟨v, w, ?_, by simpa using hown, World.grownBy.refl w _, .inl rfl⟩
    rcases hown.2 with ⟨rfl, rfl⟩ | ⟨g, cap, cur, rfl, _, _, hnc, _⟩
    · simp [Builtin.append_, run_underlying ht, sizeOf, typeInfo, hi, Builtin.lenOf, Builtin.firstCells]
    · simp [Builtin.append_, run_underlying ht, sizeOf, typeInfo, hi, Builtin.lenOf, Builtin.firstCells, hnc, storeCells]
  | some ad =>
    obtain ⟨v', w', hrun, hown', hgr, _, hat⟩ := run_append_own_at (P := P) w base t ty e i z size bytes ht hi hz hsize hby hzs hsz v n xs hown ad m c news hl (fun j u hj => by
      have hm : 0 < m := by
        obtain ⟨hj', _⟩ := List.getElem?_eq_some_iff.1 hj
        rcases Nat.eq_zero_or_pos m with h0 | h0
        · subst h0; omega
        · exact h0
      obtain ⟨b, o, hA, _, hc⟩ := hcell hm
      obtain rfl := Option.some.inj hA
      rw [Go.WideShapes.add_plain]
      exact hc j u hj) h1 h63 hbytes hbase
    exact ⟨v', w', hrun, hown', hgr, hat⟩
theorem wpList_append_at {w : World} {ops : Array Oper} {rest : List Oper} {o : Oper} {a : Act} {Q : Exit → Act → World → Prop} (hgd : o.guard = none) (s x : Operand) (t : TypeId)
    (ho : o.op = .call { callee := .builtin .append, args := #[s, x], argTypes := #[t, t] })
    (base : Nat) (e : TypeId) (i : TypeInfo) (z : Value) (size bytes : Nat) (ht : P.underlying t = some (.slice e)) (hi : P.info? e = some i) (hz : i.zero = some z)
    (hsize : i.size = size) (hby : i.bytes = bytes) (hzs : z.cells.size = size) (hsz : 0 < size)
    (v : Value) (n : Nat) (xs : List Value) (hs : a.eval s = v) (hown : w.ownsRow base e size v n xs) (sv : Value) (m : Nat) (news : List Value) (hx : a.eval x = sv) (hr : Row w size sv m news) (h1 : ∀ u ∈ news, u.oneCell' = true)
    (h63 : n + m ≤ maxLen) (hbytes : (n + m) * bytes ≤ 140737488355328) (hbase : base ≤ w.heap.size)
    (h : ∀ v' w', w'.ownsRow base e size v' (n + m) (xs ++ news) → w.grownBy w' v.ownBlock → (v'.ownBlock = v.ownBlock ∨ v'.ownBlock = some w.heap.size) → wpList P ops Q rest (a.put o.dst v') w') : wpList P ops Q (o :: rest) a w := by
  obtain ⟨v', w', hrun, h2, h3, h4⟩ := run_append_row_at (P := P) w base t o.type e i z size bytes ht hi hz hsize hby hzs hsz v n xs hown sv m news hr h1 h63 hbytes hbase
  refine wpList_plain hgd fun K hK => ?_
  unfold Oper.wp execOp
  simp only [ho, resolve, invoke, builtin, Sem.run_bind, Sem.run_pure, Result.andThen_ok, List.map_toArray, List.map_cons, List.map_nil, hs, hx, hrun]
  exact hK _ _ (h v' w' h2 h3 h4)
end
theorem own_mono {w : World} {base base' n size : Nat} {e : TypeId} {v : Value} {xs : List Value} (h : w.ownsRow base e size v n xs) (hb : base' ≤ base) : w.ownsRow base' e size v n xs :=
  ⟨h.1, h.2.imp id fun ⟨g, cap, cur, h1, h2, h3⟩ => ⟨g, cap, cur, h1, Nat.le_trans hb h2, h3⟩⟩
theorem own_kept {w w' : World} {base n size : Nat} {e : TypeId} {v : Value} {xs : List Value} {row : Option Nat} (h : w.ownsRow base e size v n xs) (hg : w.grownBy w' row) (hne : ∀ g, v.ownBlock = some g → row ≠ some g) : w'.ownsRow base e size v n xs :=
  h.kept hg (by
    cases hv : v.ownBlock with
    | none => exact .inl rfl
    | some g => exact .inr fun e => hne g hv e.symm)
end Go.Proofs.Ytlbfejdbfhgifaa

namespace Go.Proofs.Ytlbfejdbfhgifaa
open Go.RowKit
/-- The numbers from k on, as cells. -/
def runI (k m : Nat) : List Value := (List.range m).map fun i => Value.int .i64 ((k + i : Nat) : Int)
theorem runI_length (k m : Nat) : (runI k m).length = m := by simp [runI]
theorem runI_get {k m i : Nat} (h : i < m) : (runI k m)[i]? = some (.int .i64 ((k + i : Nat) : Int)) := by simp [runI, h]
theorem runI_take {k m j : Nat} (h : j ≤ m) : (runI k m).take j = runI k j := by
  unfold runI
  rw [← List.map_take, List.take_range, Nat.min_eq_left h]
theorem set_run {cs : List Value} {k m j : Nat} (hl : cs.length = m) (hj : j < m) (h : cs.take j = runI k j) : (cs.set j (.int .i64 ((k + j : Nat) : Int))).take (j + 1) = runI k (j + 1) := by
  rw [← runI_take (m := m) (show j + 1 ≤ m by omega)]
  exact take_set_succ (by omega) (by rw [h, runI_take (by omega)]) (runI_get hj)
theorem set_run_at {cs : List Value} {k m j : Nat} {x : Int} (hx : x = ((k + j : Nat) : Int)) (hl : cs.length = m) (hj : j < m) (h : cs.take j = runI k j) : (cs.set j (.int .i64 x)).take (j + 1) = runI k (j + 1) := by
  subst hx
  exact set_run hl hj h
theorem grownBy_comp {a b c : World} {r : Option Nat} (h : a.grownBy b r) (h' : b.grownBy c r) : a.grownBy c r :=
  ⟨h'.os.trans h.os, h'.tape.trans h.tape, h'.output.trans h.output, Nat.le_trans h.size h'.size,
    fun k hk hr => (h'.block k (Nat.lt_of_lt_of_le hk h.size) hr).trans (h.block k hk hr)⟩
theorem own_of_take {w : World} {B n size : Nat} {e : TypeId} {v : Value} {cs : List Value} {k : Nat} (h : w.ownsRow B e size v n cs) (ht : cs.take (n * size) = runI k (n * size)) : w.ownsRow B e size v n (runI k (n * size)) := by
  rw [← ht, List.take_of_length_le (by rw [h.1]; exact Nat.le_refl _)]
  exact h
end Go.Proofs.Ytlbfejdbfhgifaa

namespace Go.Proofs.Ytlbfejdbfhgifaa
open Go.RowKit
/-! Slices of slices. -/
section
variable {α : Type} {enc : List α → List Value} {w w' : World} {v : Value} {xss : List (List α)}
/-- A slice whose elements are slices. -/
def SSAt (enc : List α → List Value) (w : World) (v : Value) (xss : List (List α)) : Prop :=
  ∃ vs : List Value, vs.length = xss.length ∧ Row w 1 v xss.length vs ∧ ∀ (i : Nat) (x : List α) (u : Value), xss[i]? = some x → vs[i]? = some u → Row w 1 u x.length (enc x)
theorem SSAt.below (h : SSAt enc w v xss) (hb : Below w.heap.size w w') : SSAt enc w' v xss := by
  obtain ⟨vs, h1, h2, h3⟩ := h
  exact ⟨vs, h1, h2.below hb, fun i x u hx hu => (h3 i x u hx hu).below hb⟩
theorem SSAt.shape (h : SSAt enc w v xss) : ∃ A c, v = .slice A xss.length c ∧ xss.length ≤ c ∧ c ≤ maxLen := by
  obtain ⟨vs, _, h2, _⟩ := h
  exact h2.shape
theorem SSAt.nil (enc : List α → List Value) (w : World) : SSAt enc w (.slice none 0 0) [] := ⟨[], rfl, Row.nil w 1, by simp⟩
/-- An element, where it lies. -/
theorem ss_open {wr : World} {A : Option Addr} {n c : Nat} (h : SSAt enc w (.slice A n c) xss) (hb : Below w.heap.size w wr) {i : Nat} {x : List α} (hx : xss[i]? = some x) :
    ∃ b o B m, A = some ⟨b, o, none⟩ ∧ b < w.heap.size ∧ wr.cell? ⟨b, o + i, none⟩ = some (.slice B x.length m) ∧ x.length ≤ m ∧ m ≤ maxLen ∧ Row wr 1 (.slice B x.length m) x.length (enc x) := by
  obtain ⟨vs, h1, h2, h3⟩ := h
  obtain ⟨hi, _⟩ := List.getElem?_eq_some_iff.1 hx
  obtain ⟨b, o, c', hv, _, _, hbl, hcell⟩ := h2.open (by omega)
  obtain ⟨rfl, _⟩ : A = some ⟨b, o, none⟩ ∧ True := by injection hv with e1; exact ⟨e1, trivial⟩
  obtain ⟨u, hu⟩ : ∃ u, vs[i]? = some u := ⟨vs[i]'(by omega), List.getElem?_eq_getElem _⟩
  have hr := (h3 i x u hx hu).below hb
  obtain ⟨B, m, rfl, hm1, hm2⟩ := hr.shape
  exact ⟨b, o, B, m, rfl, hbl, (hb.cell (p := ⟨b, _, none⟩) hbl).trans (hcell _ _ hu), hm1, hm2, hr⟩
def Apart (u v : Value) : Prop := ∀ g, u.ownBlock = some g → v.ownBlock ≠ some g
theorem Apart.symm {u v : Value} (h : Apart u v) : Apart v u := fun g hg e => h g e hg
/-- A slice of the call's own whose elements are slices of the call's own, all in blocks apart; tO and ti: the types of the cells; the blocks lie between B and T. -/
def OwnSS (enc : List α → List Value) (tO ti : TypeId) (B T : Nat) (w : World) (v : Value) (xss : List (List α)) : Prop :=
  ∃ vs : List Value, vs.length = xss.length ∧ w.ownsRow B tO 1 v xss.length vs ∧ (∀ (i : Nat) (x : List α) (u : Value), xss[i]? = some x → vs[i]? = some u → w.ownsRow B ti 1 u x.length (enc x)) ∧
    vs.Pairwise Apart ∧ (∀ u ∈ vs, Apart u v) ∧ (∀ g, v.ownBlock = some g → g < T) ∧ ∀ u ∈ vs, ∀ g, u.ownBlock = some g → g < T
variable {tO ti : TypeId} {B T : Nat}
theorem OwnSS.at (h : OwnSS enc tO ti B T w v xss) : SSAt enc w v xss := by
  obtain ⟨vs, h1, h2, h3, _⟩ := h
  exact ⟨vs, h1, Row.of_own h2, fun i x u hx hu => Row.of_own (h3 i x u hx hu)⟩
theorem OwnSS.nil (enc : List α → List Value) (tO ti : TypeId) (B T : Nat) (w : World) : OwnSS enc tO ti B T w (.slice none 0 0) [] :=
  ⟨[], rfl, World.ownsRow_nil _ _ _ _, by simp, List.Pairwise.nil, by simp, by simp [Value.ownBlock], by simp⟩
theorem OwnSS.below (h : OwnSS enc tO ti B T w v xss) (hb : Below w.heap.size w w') : OwnSS enc tO ti B T w' v xss := by
  obtain ⟨vs, h1, h2, h3, h4⟩ := h
  exact ⟨vs, h1, own_below h2 hb, fun i x u hx hu => own_below (h3 i x u hx hu) hb, h4⟩
theorem OwnSS.mono {B' T' : Nat} (h : OwnSS enc tO ti B T w v xss) (hB : B' ≤ B) (hT : T ≤ T') : OwnSS enc tO ti B' T' w v xss := by
  obtain ⟨vs, h1, h2, h3, h4, h5, h6, h7⟩ := h
  exact ⟨vs, h1, own_mono h2 hB, fun i x u hx hu => own_mono (h3 i x u hx hu) hB, h4, h5, fun g hg => Nat.lt_of_lt_of_le (h6 g hg) hT, fun u hu g hg => Nat.lt_of_lt_of_le (h7 u hu g hg) hT⟩
theorem own_only {E : Nat → Prop} {base n size : Nat} {e : TypeId} {xs : List Value} (h : w.ownsRow base e size v n xs) (ho : Only E w w') (hE : ∀ g, v.ownBlock = some g → ¬ E g) : w'.ownsRow base e size v n xs := by
  refine ⟨h.1, ?_⟩
  rcases h.2 with h2 | ⟨g, cap, cur, rfl, hb, hh, h3⟩
  · exact .inl h2
  · refine .inr ⟨g, cap, cur, rfl, hb, ?_, h3⟩
    rw [ho.block g ?_ (hE g rfl)]
    · exact hh
    · rcases Nat.lt_or_ge g w.heap.size with hl | hl
      · exact hl
      · rw [Array.getElem?_eq_none hl] at hh; cases hh
theorem OwnSS.only {E : Nat → Prop} (h : OwnSS enc tO ti B T w v xss) (ho : Only E w w') (hE : ∀ g, B ≤ g → g < T → ¬ E g) : OwnSS enc tO ti B T w' v xss := by
  obtain ⟨vs, h1, h2, h3, h4, h5, h6, h7⟩ := h
  refine ⟨vs, h1, own_only h2 ho fun g hg => hE g (h2.lt g hg).1 (h6 g hg), fun i x u hx hu => own_only (h3 i x u hx hu) ho fun g hg => hE g ((h3 i x u hx hu).lt g hg).1 (h7 u (List.mem_of_getElem? hu) g hg), h4, h5, h6, h7⟩
/-- An element more, behind an append. -/
theorem OwnSS.snoc {v2 u : Value} {x : List α} {vs : List Value} (h1 : vs.length = xss.length) (h2 : w.ownsRow B tO 1 v2 (xss.length + 1) (vs ++ [u])) (h3 : ∀ (i : Nat) (x : List α) (u : Value), xss[i]? = some x → vs[i]? = some u → w.ownsRow B ti 1 u x.length (enc x))
    (hu : w.ownsRow B ti 1 u x.length (enc x)) (h4 : vs.Pairwise Apart) (h5 : ∀ z ∈ vs, Apart z v2) (h6 : ∀ z ∈ vs, Apart z u) (h7 : Apart u v2) (t2 : ∀ g, v2.ownBlock = some g → g < T) (t1 : ∀ z ∈ vs, ∀ g, z.ownBlock = some g → g < T) (t0 : ∀ g, u.ownBlock = some g → g < T) :
    OwnSS enc tO ti B T w v2 (xss ++ [x]) := by
  refine ⟨vs ++ [u], by simp [h1], by simpa using h2, fun i x' u' hx' hu' => ?_, ?_, ?_, t2, ?_⟩
  · rcases Nat.lt_or_ge i xss.length with hi | hi
    · rw [List.getElem?_append_left hi] at hx'
      rw [List.getElem?_append_left (by omega)] at hu'
      exact h3 i _ _ hx' hu'
    · rw [List.getElem?_append_right hi] at hx'
      rw [List.getElem?_append_right (by omega), h1] at hu'
      rcases hj : i - xss.length with _ | j
      · rw [hj] at hx' hu'
        simp at hx' hu'
        subst hx' hu'
        exact hu
      · rw [hj] at hx'
        simp at hx'
  · rw [List.pairwise_append]
    exact ⟨h4, by simp, fun a ha b hb => by rw [List.mem_singleton.1 hb]; exact h6 a ha⟩
  · intro z hz
    rcases List.mem_append.1 hz with h | h
    · exact h5 z h
    · rw [List.mem_singleton.1 h]; exact h7
  · intro z hz
    rcases List.mem_append.1 hz with h | h
    · exact t1 z h
    · rw [List.mem_singleton.1 h]; exact t0
/-- An element of which the cells turn. -/
theorem OwnSS.update {j : Nat} {x' : List α} {vs : List Value} {u : Value} (h1 : vs.length = xss.length) (h2 : w.ownsRow B tO 1 v xss.length vs) (h3 : ∀ (i : Nat) (x : List α) (u : Value), xss[i]? = some x → vs[i]? = some u → w.ownsRow B ti 1 u x.length (enc x))
    (h4 : vs.Pairwise Apart) (h5 : ∀ u ∈ vs, Apart u v) (h6 : ∀ g, v.ownBlock = some g → g < T) (h7 : ∀ u ∈ vs, ∀ g, u.ownBlock = some g → g < T) (hu : vs[j]? = some u) (hg : w.grownBy w' u.ownBlock) (hx : w'.ownsRow B ti 1 u x'.length (enc x')) :
    OwnSS enc tO ti B T w' v (xss.set j x') := by
  have hum := List.mem_of_getElem? hu
  refine ⟨vs, by simp [h1], by rw [List.length_set]; exact own_kept h2 hg fun g hg' e => h5 u hum g e hg', fun i x u' hi hu' => ?_, h4, h5, h6, h7⟩
  by_cases hij : j = i
  · subst hij
    rw [hu] at hu'
    obtain rfl := Option.some.inj hu'
    rw [List.getElem?_set] at hi
    simp at hi
    obtain ⟨_, rfl⟩ := hi
    exact hx
  · rw [List.getElem?_set_ne hij] at hi
    refine own_kept (h3 i x u' hi hu') hg fun g hg' e => ?_
    have hp := List.pairwise_iff_getElem.1 h4
    obtain ⟨hjl, rfl⟩ := List.getElem?_eq_some_iff.1 hu
    obtain ⟨hil, rfl⟩ := List.getElem?_eq_some_iff.1 hu'
    rcases Nat.lt_or_ge j i with hlt | hge
    · exact hp j i hjl hil hlt g e hg'
    · exact hp i j hil hjl (by omega) g hg' e
end
theorem OwnSS.raw {α : Type} {enc : List α → List Value} {tO ti : TypeId} {B T : Nat} {w : World} {v : Value} {xss : List (List α)} (hl : ∀ x, (enc x).length = x.length) (h : OwnSS enc tO ti B T w v xss) : OwnSS id tO ti B T w v (xss.map enc) := by
  obtain ⟨vs, h1, h2, h3, h4⟩ := h
  refine ⟨vs, by simp [h1], by simpa using h2, fun i x u hx hu => ?_, h4⟩
  rw [List.getElem?_map] at hx
  obtain ⟨x', hx', rfl⟩ := Option.map_eq_some_iff.1 hx
  rw [hl]
  exact h3 i x' u hx' hu
/-- Rows of numbers that go on from k. -/
def runs (k : Nat) : List Nat → List (List Value)
  | [] => []
  | n :: ns => runI k n :: runs (k + n) ns
theorem runs_length : ∀ (k : Nat) (ns : List Nat), (runs k ns).length = ns.length
  | _, [] => rfl
  | k, n :: ns => by rw [runs, List.length_cons, runs_length, List.length_cons]
theorem runs_get : ∀ {k : Nat} {ns : List Nat} {i n : Nat}, ns[i]? = some n → (runs k ns)[i]? = some (runI (k + (ns.take i).sum) n)
  | k, [], i, n, h => by simp at h
  | k, m :: ns, 0, n, h => by
    have : m = n := by simpa using h
    subst this
    simp [runs]
  | k, m :: ns, i + 1, n, h => by
    have := runs_get (k := k + m) (ns := ns) (i := i) (n := n) (by simpa using h)
    rw [runs, List.getElem?_cons_succ, this, List.take_succ_cons, List.sum_cons, Nat.add_assoc]
theorem runs_take (k : Nat) : ∀ (ns : List Nat) (j : Nat), runs k (ns.take j) = (runs k ns).take j := by
  intro ns
  induction ns generalizing k with
  | nil => intro j; simp [runs]
  | cons n ns ih =>
    intro j
    cases j with
    | zero => simp [runs]
    | succ j => simp [runs, ih]
theorem sum_take_succ {ns : List Nat} {j n : Nat} (h : ns[j]? = some n) : (ns.take (j + 1)).sum = (ns.take j).sum + n := by
  rw [List.take_add_one, h, List.sum_append]
  simp
theorem sum_take_le (ns : List Nat) (j : Nat) : (ns.take j).sum ≤ ns.sum := by
  have h := List.sum_append (l₁ := ns.take j) (l₂ := ns.drop j)
  rw [List.take_append_drop] at h
  omega
theorem runs_set {rows : List (List Value)} {k j n : Nat} {ns : List Nat} (hl : rows.length = ns.length) (hj : ns[j]? = some n) : (runs k (ns.take j) ++ rows.drop j).set j (runI (k + (ns.take j).sum) n) = runs k (ns.take (j + 1)) ++ rows.drop (j + 1) := by
  obtain ⟨hlt, rfl⟩ := List.getElem?_eq_some_iff.1 hj
  have e1 : (runs k (ns.take j)).length = j := by rw [runs_length, List.length_take]; omega
  rw [List.set_append_right _ _ (by omega), e1, Nat.sub_self, List.drop_eq_getElem_cons (by omega), List.set_cons_zero, runs_take k ns (j + 1), List.take_add_one, ← runs_take, runs_get hj]
  simp
theorem set_mid {α : Type} (A : List α) (z x : α) (m : Nat) (h : 0 < m) : (A ++ List.replicate m z).set A.length x = (A ++ [x]) ++ List.replicate (m - 1) z := by
  obtain ⟨k, rfl⟩ : ∃ k, m = k + 1 := ⟨m - 1, by omega⟩
  rw [List.replicate_succ, List.set_append_right _ _ (Nat.le_refl _), Nat.sub_self]
  simp
theorem set_mid_at {α : Type} (A : List α) (z x : α) (m k : Nat) (hk : k = A.length) (h : 0 < m) : (A ++ List.replicate m z).set k x = (A ++ [x]) ++ List.replicate (m - 1) z := by
  subst hk
  exact set_mid A z x m h
theorem made_one (z : Value) (n : Nat) : madeCells #[z] n = (List.replicate n z).toArray := by
  apply Array.ext
  · simp [madeCells]
  · intro i h1 h2
    simp [madeCells]
    have : i % 1 = 0 := Nat.mod_one i
    simp [this]
/-- How many elements there are in all. -/
def total {α : Type} (xss : List (List α)) : Nat := (xss.map List.length).sum
theorem total_take_succ {α : Type} {xss : List (List α)} {j : Nat} {x : List α} (h : xss[j]? = some x) : total (xss.take (j + 1)) = total (xss.take j) + x.length := by
  unfold total
  rw [List.map_take, List.map_take]
  exact sum_take_succ (by rw [List.getElem?_map, h]; rfl)
theorem total_mem {α : Type} : ∀ {xss : List (List α)} {x : List α}, x ∈ xss → x.length ≤ total xss
  | y :: ys, x, h => by
    have e : total (y :: ys) = y.length + total ys := by simp [total]
    rcases List.mem_cons.1 h with rfl | h
    · omega
    · have := total_mem h
      omega
theorem total_take_le {α : Type} (xss : List (List α)) (j : Nat) : total (xss.take j) ≤ total xss := by
  unfold total
  rw [List.map_take]
  exact sum_take_le _ _
end Go.Proofs.Ytlbfejdbfhgifaa

namespace Go.Proofs.Ytlbfejdbfhgifaa
open Go.RowKit
/-! Things of a law in memory, and the blocks that they lie in. -/
/-- A thing that lies in the blocks from B up to T. -/
def Lives (B T : Nat) (K : World → Prop) : Prop := ∀ (E : Nat → Prop) (w w' : World), K w → T ≤ w.heap.size → Only E w w' → (∀ g, B ≤ g → g < T → ¬ E g) → K w'
structure Has (B T : Nat) (K : World → Prop) (w : World) : Prop where
  k : K w
  t : T ≤ w.heap.size
  l : Lives B T K
section
variable {B T : Nat} {K : World → Prop} {w w' : World}
theorem Has.only {E : Nat → Prop} (h : Has B T K w) (ho : Only E w w') (hE : ∀ g, B ≤ g → g < T → ¬ E g) : Has B T K w' := ⟨h.l E w w' h.k h.t ho hE, Nat.le_trans h.t ho.size, h.l⟩
theorem Has.below (h : Has B T K w) (hb : Below w.heap.size w w') : Has B T K w' := h.only (E := fun _ => False) ⟨hb.os, hb.tape, hb.output, hb.size, fun k hk _ => hb.block k hk⟩ (fun _ _ _ e => e)
theorem Has.apart {B' T' : Nat} (h : Has B T K w) (ho : Only (fun g => B' ≤ g ∧ g < T') w w') (hd : T ≤ B' ∨ T' ≤ B) : Has B T K w' := h.only ho (fun g h1 h2 h3 => by obtain ⟨h4, h5⟩ := h3; omega)
theorem Has.grown {r : Option Nat} {B' : Nat} (h : Has B T K w) (ho : w.grownBy w' r) (hr : ∀ g, r = some g → B' ≤ g) (hd : T ≤ B') : Has B T K w' := h.only (E := fun g => B' ≤ g) (Only.grown ho hr) (fun g h1 h2 h3 => by have h4 : B' ≤ g := h3; omega)
end
/-- What was so in a world of T blocks, and still is. -/
def Kept (A : World → Prop) (T : Nat) (w' : World) : Prop := ∃ w0, A w0 ∧ w0.heap.size = T ∧ Below w0.heap.size w0 w'
theorem lives_kept (A : World → Prop) (T : Nat) : Lives 0 T (Kept A T) := by
  rintro E w w' ⟨w0, hA, rfl, hb⟩ ht ho hE
  exact ⟨w0, hA, rfl, ho.os.trans hb.os, ho.tape.trans hb.tape, ho.output.trans hb.output, Nat.le_trans hb.size ho.size, fun k hk => (ho.block k (Nat.lt_of_lt_of_le hk ht) (hE k (Nat.zero_le _) hk)).trans (hb.block k hk)⟩
theorem has_kept {A : World → Prop} {w : World} (h : A w) : Has 0 w.heap.size (Kept A w.heap.size) w := ⟨⟨w, h, rfl, Below.refl _ _⟩, Nat.le_refl _, lives_kept _ _⟩
/-- A row of the call's own, below T. -/
def RowT (B T : Nat) (e : TypeId) (size : Nat) (v : Value) (n : Nat) (cs : List Value) (w : World) : Prop := w.ownsRow B e size v n cs ∧ ∀ g, v.ownBlock = some g → g < T
theorem lives_rowT (B T : Nat) (e : TypeId) (size : Nat) (v : Value) (n : Nat) (cs : List Value) : Lives B T (RowT B T e size v n cs) := by
  rintro E w w' ⟨h, hl⟩ ht ho hE
  exact ⟨own_only h ho fun g hg => hE g (h.lt g hg).1 (hl g hg), hl⟩
theorem has_row {B : Nat} {e : TypeId} {size n : Nat} {v : Value} {cs : List Value} {w : World} (h : w.ownsRow B e size v n cs) : Has B w.heap.size (RowT B w.heap.size e size v n cs) w :=
  ⟨⟨h, fun g hg => (h.lt g hg).2⟩, Nat.le_refl _, lives_rowT _ _ _ _ _ _ _⟩
theorem lives_ss {α : Type} (enc : List α → List Value) (tO ti : TypeId) (B T : Nat) (v : Value) (xss : List (List α)) : Lives B T (fun w => OwnSS enc tO ti B T w v xss) := fun _ _ _ h _ ho hE => OwnSS.only h ho hE
end Go.Proofs.Ytlbfejdbfhgifaa

namespace Go.Proofs.Ytlbfejdbfhgifaa
/-! Bit operations on Go's int where both operands are not negative. -/
theorem ofInt64 (a : Nat) (ha : a < 18446744073709551616) : (BitVec.ofInt 64 (a : Int)).toNat = a := by
  rw [BitVec.ofInt_natCast, BitVec.toNat_ofNat]; exact Nat.mod_eq_of_lt (by omega)
theorem i64_and_nat (a b : Nat) (ha : a < 9223372036854775808) (hb : b < 9223372036854775808) : bits .and .i64 (a : Int) (b : Int) = ((a &&& b : Nat) : Int) := by
  have hx : a &&& b < 2 ^ 63 := Nat.and_lt_two_pow _ (by omega)
  show IntKind.i64.wrap ((BitVec.ofInt 64 (a : Int) &&& BitVec.ofInt 64 (b : Int)).toNat : Int) = _
  rw [BitVec.toNat_and, ofInt64 a (by omega), ofInt64 b (by omega), IntWalk.i64_in _ (by omega)]
theorem i64_or_nat (a b : Nat) (ha : a < 9223372036854775808) (hb : b < 9223372036854775808) : bits .or .i64 (a : Int) (b : Int) = ((a ||| b : Nat) : Int) := by
  have hx : a ||| b < 2 ^ 63 := Nat.or_lt_two_pow (by omega) (by omega)
  show IntKind.i64.wrap ((BitVec.ofInt 64 (a : Int) ||| BitVec.ofInt 64 (b : Int)).toNat : Int) = _
  rw [BitVec.toNat_or, ofInt64 a (by omega), ofInt64 b (by omega), IntWalk.i64_in _ (by omega)]
theorem i64_xor_nat (a b : Nat) (ha : a < 9223372036854775808) (hb : b < 9223372036854775808) : bits .xor .i64 (a : Int) (b : Int) = ((a ^^^ b : Nat) : Int) := by
  have hx : a ^^^ b < 2 ^ 63 := Nat.xor_lt_two_pow (by omega) (by omega)
  show IntKind.i64.wrap ((BitVec.ofInt 64 (a : Int) ^^^ BitVec.ofInt 64 (b : Int)).toNat : Int) = _
  rw [BitVec.toNat_xor, ofInt64 a (by omega), ofInt64 b (by omega), IntWalk.i64_in _ (by omega)]
theorem i64_and (a b : Int) (h1 : 0 ≤ a) (h2 : a < 9223372036854775808) (h3 : 0 ≤ b) (h4 : b < 9223372036854775808) : bits .and .i64 a b = ((a.toNat &&& b.toNat : Nat) : Int) := by
  obtain ⟨A, rfl⟩ := Int.eq_ofNat_of_zero_le h1
  obtain ⟨B, rfl⟩ := Int.eq_ofNat_of_zero_le h3
  simpa using i64_and_nat A B (by omega) (by omega)
theorem i64_or (a b : Int) (h1 : 0 ≤ a) (h2 : a < 9223372036854775808) (h3 : 0 ≤ b) (h4 : b < 9223372036854775808) : bits .or .i64 a b = ((a.toNat ||| b.toNat : Nat) : Int) := by
  obtain ⟨A, rfl⟩ := Int.eq_ofNat_of_zero_le h1
  obtain ⟨B, rfl⟩ := Int.eq_ofNat_of_zero_le h3
  simpa using i64_or_nat A B (by omega) (by omega)
theorem i64_xor (a b : Int) (h1 : 0 ≤ a) (h2 : a < 9223372036854775808) (h3 : 0 ≤ b) (h4 : b < 9223372036854775808) : bits .xor .i64 a b = ((a.toNat ^^^ b.toNat : Nat) : Int) := by
  obtain ⟨A, rfl⟩ := Int.eq_ofNat_of_zero_le h1
  obtain ⟨B, rfl⟩ := Int.eq_ofNat_of_zero_le h3
  simpa using i64_xor_nat A B (by omega) (by omega)
theorem i64_and_one (a : Int) (h1 : 0 ≤ a) (h2 : a < 9223372036854775808) : bits .and .i64 a 1 = a % 2 := by
  obtain ⟨A, rfl⟩ := Int.eq_ofNat_of_zero_le h1
  have h := i64_and_nat A 1 (by omega) (by omega)
  rw [Nat.and_one_is_mod] at h
  exact h
theorem two_pow (k : Nat) : (2 : Int) ^ k = ((2 ^ k : Nat) : Int) := (Int.natCast_pow 2 k).symm
theorem i64_and_mask (a : Nat) (k : Nat) (h2 : a < 9223372036854775808) (hk : 2 ^ k ≤ 9223372036854775808) : bits .and .i64 (a : Int) (2 ^ k - 1) = ((a % 2 ^ k : Nat) : Int) := by
  have h1 : 1 ≤ 2 ^ k := Nat.one_le_two_pow
  have h := i64_and_nat a (2 ^ k - 1) (by omega) (by omega)
  rw [Nat.and_two_pow_sub_one_eq_mod, Int.ofNat_sub h1] at h
  simpa using h
theorem ret_int {k : IntKind} {a b : Int} (h : a = b) : Ending.returned (.int k a) = .returned (.int k b) := by rw [h]
theorem ret_bool {a b : Bool} (h : a = b) : Ending.returned (.bool a) = .returned (.bool b) := by rw [h]
end Go.Proofs.Ytlbfejdbfhgifaa

namespace Go.Proofs.Ytlbfejdbfhgifaa
open Go.RowKit
/-! Slices whose elements are pairs of ints. -/
/-- The cubes as cells. -/
def cubes (ks : List (Int × Int)) : List Value := ks.flatMap fun k => [.int .i64 k.1, .int .i64 k.2]
theorem cubes_length (ks : List (Int × Int)) : (cubes ks).length = ks.length * 2 := by
  induction ks with
  | nil => rfl
  | cons k ks ih => simp [cubes] at ih ⊢; omega
theorem cubes_append (a b : List (Int × Int)) : cubes (a ++ b) = cubes a ++ cubes b := by simp [cubes]
theorem cubes_get {ks : List (Int × Int)} {i : Nat} {k : Int × Int} (h : ks[i]? = some k) : (cubes ks)[i * 2]? = some (.int .i64 k.1) ∧ (cubes ks)[i * 2 + 1]? = some (.int .i64 k.2) := by
  induction ks generalizing i with
  | nil => simp at h
  | cons a ks ih =>
    cases i with
    | zero =>
      have : a = k := by simpa using h
      subst this
      simp [cubes]
    | succ i =>
      have := ih (i := i) (by simpa using h)
      have e : (i + 1) * 2 = i * 2 + 1 + 1 := by omega
      rw [e]
      simpa [cubes] using this
def CubesAt (w : World) (v : Value) (ks : List (Int × Int)) : Prop := Row w 2 v ks.length (cubes ks)
theorem at_some {α : Type} {xs : List α} {i : Nat} (h : i < xs.length) : ∃ x, xs[i]? = some x := ⟨xs[i], List.getElem?_eq_getElem h⟩
/-- A cube of a slice, where it lies. -/
theorem cubes_open {w wr : World} {A : Option Addr} {n c : Nat} {ks : List (Int × Int)} (h : Row w 2 (.slice A n c) n (cubes ks)) (hb : Below w.heap.size w wr) {i : Nat} (hn : n = ks.length) (hi : i < ks.length) :
    ∃ b o k, A = some ⟨b, o, none⟩ ∧ b < w.heap.size ∧ Hid (ks[i]? = some k) ∧ wr.cell? ⟨b, o + i * 2, none⟩ = some (.int .i64 k.1) ∧ wr.cell? ⟨b, o + i * 2 + 1, none⟩ = some (.int .i64 k.2) := by
  subst hn
  obtain ⟨b, o, c', hv, _, _, hbl, hcell⟩ := h.open (by omega)
  obtain ⟨rfl, _⟩ : A = some ⟨b, o, none⟩ ∧ True := by injection hv with e1; exact ⟨e1, trivial⟩
  obtain ⟨k, hk⟩ := at_some hi
  obtain ⟨h1, h2⟩ := cubes_get hk
  refine ⟨b, o, k, rfl, hbl, Lib.hid hk, (hb.cell (p := ⟨b, _, none⟩) hbl).trans (hcell _ _ h1), ?_⟩
  rw [Nat.add_assoc]
  exact (hb.cell (p := ⟨b, _, none⟩) hbl).trans (hcell _ _ h2)

theorem run_make_any {P : Program} (t e : TypeId) (z : Value) (size bytes : Nat) (ht : P.underlying t = some (.slice e)) (hinfo : (P.info? e).map (fun i => (i.zero, i.size, i.bytes)) = some (some z, size, bytes))
    (kl kc : IntKind) (n : Nat) (hbytes : bytes * n ≤ 281474976710656) (h63 : n ≤ 9223372036854775807) (w : World) :
    (Instr.makeSlice t (.int kl (n : Int)) (.int kc (n : Int))).run P w = .ok (.slice (some ⟨w.heap.size, 0, none⟩) n n) (w.alloc (.cells (madeCells z.cells (n * size)) e)) := by
  obtain ⟨i, hi, hzz⟩ := Option.map_eq_some_iff.1 hinfo
  simp only [Prod.mk.injEq] at hzz
  obtain ⟨hz, hs, hb⟩ := hzz
  have hb' : (i.bytes : Int) * (n : Int) ≤ 281474976710656 := by
    have h : ((i.bytes * n : Nat) : Int) ≤ 281474976710656 := by rw [hb]; omega
    rwa [Int.natCast_mul] at h
  have hr := run_make (P := P) w t e i z ht hi hz kl kc n n (by omega) (Int.le_refl _) hb' (by omega)
  simp only [Int.toNat_natCast, hs] at hr
  exact hr
theorem take_set2 {α : Type} {cs L : List α} {k : Nat} {u v : α} (hk : k * 2 + 1 < cs.length) (h : cs.take (k * 2) = L.take (k * 2)) (hu : L[k * 2]? = some u) (hv : L[k * 2 + 1]? = some v) : ((cs.set (k * 2) u).set (k * 2 + 1) v).take ((k + 1) * 2) = L.take ((k + 1) * 2) := by
  have h1 := take_set_succ (by omega) h hu
  have h2 := take_set_succ (cs := cs.set (k * 2) u) (by simp; omega) h1 hv
  rw [show (k + 1) * 2 = k * 2 + 1 + 1 from by omega]
  exact h2

def bools (xs : List Bool) : List Value := xs.map Value.bool
def BoolsAt (w : World) (v : Value) (xs : List Bool) : Prop := Row w 1 v xs.length (bools xs)
theorem bools_length (xs : List Bool) : (bools xs).length = xs.length := List.length_map _
theorem bools_at {xs : List Bool} {i : Nat} (h : i < xs.length) : ∃ x, xs[i]? = some x ∧ (bools xs)[i]? = some (.bool x) :=
  ⟨xs[i], List.getElem?_eq_getElem h, by simp [bools, h]⟩
end Go.Proofs.Ytlbfejdbfhgifaa

namespace Go.Proofs.Ytlbfejdbfhgifaa
open Go.RowKit
/-! What laws do with slices of ints. -/
theorem info_int : (Try.prog.info? 3).map (fun i => (i.zero, i.size, i.bytes)) = some (some (.int .i64 0), 1, 8) := by kernel_rfl

theorem toIntS_any (v : Value) (xs : List Int) (w : World) (h : IntsAt w v xs) (hlen : xs.length ≤ 1048576) :
    Calls Try.prog 45 #[v] w
      fun e w' => ∃ v', e = .returned v' ∧ w'.ownsRow w.heap.size 3 1 v' xs.length (ints xs) ∧ Below w.heap.size w w' := by
  have hmk := run_make_row' (P := Try.prog) 22 3 (.int .i64 0) 8 Try.underlying22 info_int rfl .i64 .i64 xs.length (by omega) (by omega)
  obtain ⟨A, c, hv, hc, hcm⟩ := h.shape
  subst hv
  go_enter Try.func45, Try.ntmps45
  go_wp2
  have hr0 := h.alloc (.cells (madeCells #[Value.int .i64 0] xs.length) 3)
  have hown0 := World.ownsRow_lit (base := w.heap.size) (e := 3) (size := 1) w (madeCells #[Value.int .i64 0] xs.length) xs.length (Nat.le_refl _) (by unfold maxLen; omega) (by simp [madeCells])
  have hb0 : Below w.heap.size w (w.alloc (.cells (madeCells #[Value.int .i64 0] xs.length) 3)) := (Below.refl _ _).alloc (Nat.le_refl _) _
  go_loopw [4] (fun i wr => ∃ (k : Nat) (cs : List Value), k ≤ xs.length ∧ i = .int .i64 k ∧ wr.ownsRow w.heap.size 3 1 (.slice (some ⟨w.heap.size, 0, none⟩) xs.length xs.length) xs.length cs ∧ cs.take k = (ints xs).take k ∧ Below w.heap.size w wr)
    (fun i _ => xs.length - (intOf i).toNat)
  case atStart => exact ⟨0, _, Nat.zero_le _, rfl, hown0, rfl, hb0⟩
  case round =>
    obtain ⟨k, cs, hk, rfl, hown, htk, hb⟩ := hrel
    clear hmk hr0 hown0 hb0
    by_cases hlt : k < xs.length
    · obtain ⟨b, o, c', hv, _, _, hbl, hcell⟩ := h.open (by omega)
      obtain ⟨rfl, _⟩ : A = some ⟨b, o, none⟩ ∧ True := by injection hv with e1; exact ⟨e1, trivial⟩
      obtain ⟨x, hx, hs⟩ := ints_at hlt
      have hsrc : wr.cell? ⟨b, o + k, none⟩ = some (.int .i64 x) := (hb.cell (p := ⟨b, o + k, none⟩) hbl).trans (hcell k _ hs)
      have hl := hown.1
      obtain ⟨u0, _, hd, hf⟩ := own_slot hown (j := k) (by omega)
      have Hown := Lib.hid (hown.stored k (.int .i64 x)).1
      have Hstep := Lib.hid (take_set_succ (by omega) htk hs)
      clear hcell hv hx hs hl htk hown h
      go_wp2
      go_roundw
      case rel => exact ⟨k + 1, _, by omega, by go_num, Hown.out, Hstep.out, hb.setCell (Nat.le_refl _) _⟩
      case measure => simp [intOf]; omega
    · go_wp2
      go_ret
      have e : cs = ints xs := by
        have hl := hown.1
        rw [List.take_of_length_le (by omega), List.take_of_length_le (by rw [ints_length]; omega)] at htk
        exact htk
      exact ⟨_, rfl, e ▸ hown, hb⟩

theorem eqIntS_any (v v2 : Value) (xs ys : List Int) (w : World) (h : IntsAt w v xs) (h2 : IntsAt w v2 ys) (hlen : xs.length ≤ 1048576) :
    Calls Try.prog 56 #[v, v2] w
      fun e w' => e = .returned (.bool (decide (xs = ys))) ∧ Drew w w' := by
  obtain ⟨A, c, hv, hc, hcm⟩ := h.shape
  obtain ⟨A2, c2, hv2, hc2, hcm2⟩ := h2.shape
  subst hv hv2
  by_cases he : xs.length = ys.length
  · have hb := Lib.hid he
    have he1 : ((xs.length : Int) != (ys.length : Int)) = false := by rw [he]; simp
    have he2 : xs.length ≤ ys.length := by omega
    clear he
    go_enter Try.func56, Try.ntmps56
    go_wp2
    go_loopw [5] (fun i wr => ∃ (k : Nat), k ≤ xs.length ∧ i = .int .i64 k ∧ xs.take k = ys.take k ∧ Drew w wr)
      (fun i _ => xs.length - (intOf i).toNat)
    case atStart => exact ⟨0, Nat.zero_le _, rfl, rfl, Drew.refl _⟩
    case round =>
      obtain ⟨k, hk, rfl, htk, hd⟩ := hrel
      by_cases hlt : k < xs.length
      · obtain ⟨b, o, c', hv, _, _, hbl, hcell⟩ := h.open (by omega)
        obtain ⟨rfl, _⟩ : A = some ⟨b, o, none⟩ ∧ True := by injection hv with e1; exact ⟨e1, trivial⟩
        obtain ⟨b2, o2, c2', hv2, _, _, hbl2, hcell2⟩ := h2.open (by omega)
        obtain ⟨rfl, _⟩ : A2 = some ⟨b2, o2, none⟩ ∧ True := by injection hv2 with e1; exact ⟨e1, trivial⟩
        obtain ⟨x, hx, hs⟩ := ints_at hlt
        obtain ⟨y, hy, hs2⟩ := ints_at (xs := ys) (i := k) (by omega)
        have hsrc : wr.cell? ⟨b, o + k, none⟩ = some (.int .i64 x) := (hd.cell _).trans (hcell k _ hs)
        have hsrc2 : wr.cell? ⟨b2, o2 + k, none⟩ = some (.int .i64 y) := (hd.cell _).trans (hcell2 k _ hs2)
        have Hx := Lib.hid hx
        have Hy := Lib.hid hy
        have Ht := Lib.hid htk
        clear hcell hcell2 hv hv2 hs hs2 hx hy htk h h2
        go_wp2
        go_quiet (fail)
        go_wp2
        · go_ret
          have hn : x ≠ y := bne_iff_ne.1 (by assumption)
          exact ⟨ret_bool (decide_eq_false (take_ne Hx.out Hy.out hn)).symm, hd.more _⟩
        · go_roundw
          case rel =>
            have hn : x = y := by have hz : (x != y) = false := by assumption
                                  simpa using hz
            exact ⟨k + 1, by omega, by go_num, by rw [take_snoc Hx.out, take_snoc Hy.out, Ht.out, hn], hd.more _⟩
          case measure => simp [intOf]; omega
      · go_wp2
        go_ret
        have e : xs = ys := by
          rw [List.take_of_length_le (by omega), List.take_of_length_le (by have := hb.out; omega)] at htk
          exact htk
        exact ⟨ret_bool (decide_eq_true e).symm, hd⟩
  · have hn : xs ≠ ys := fun e => he (by rw [e])
    have Hn := Lib.hid hn
    have he1 : ((xs.length : Int) != (ys.length : Int)) = true := by rw [bne_iff_ne]; omega
    clear he hn
    go_enter Try.func56, Try.ntmps56
    go_wp2
    go_ret
    exact ⟨ret_bool (decide_eq_false Hn.out).symm, Drew.refl _⟩
theorem szIntS_ok (v : Value) (n : Nat) (cs : List Value) (w : World) (left : Int) (h : Row w 1 v n cs) (hl : left ≤ 1048576) (hn : (n : Int) ≤ left) :
    Calls Try.prog 37 #[v, .int .i64 left] w
      fun e w' => e = .returned (.int .i64 (left - n)) ∧ w = w' := by
  obtain ⟨A, c, hv, hc, hcm⟩ := h.shape
  subst hv
  unfold maxLen at hcm
  have h0 : 0 ≤ left - n := by omega
  go_enter Try.func37, Try.ntmps37
  go_wp2
  go_ret
  exact ⟨rfl, rfl⟩
theorem szIntS_no (v : Value) (n : Nat) (cs : List Value) (w : World) (left : Int) (h : Row w 1 v n cs) (hl : 0 ≤ left) (hl2 : left ≤ 1048576) (hn : left < n) :
    Calls Try.prog 37 #[v, .int .i64 left] w
      fun e w' => e = .returned (.int .i64 (-1)) ∧ w = w' := by
  obtain ⟨A, c, hv, hc, hcm⟩ := h.shape
  subst hv
  unfold maxLen at hcm
  have h0 : left - n < 0 := by omega
  go_enter Try.func37, Try.ntmps37
  go_wp2
  go_ret
  exact ⟨rfl, rfl⟩
end Go.Proofs.Ytlbfejdbfhgifaa

namespace Go.Proofs.Ytlbfejdbfhgifaa
open Go.RowKit
/-- What marking a slice of ints comes to. -/
def MarkedInts (B : Nat) (v : Value) (n k : Nat) (w : World) (e : Ending) (w' : World) : Prop :=
  e = .returned (.int .i64 ((k + n : Nat) : Int)) ∧ w'.ownsRow B 3 1 v n (runI k n) ∧ w.grownBy w' v.ownBlock
theorem markIntS_any (B : Nat) (v : Value) (n k : Nat) (cs : List Value) (w : World) (h : w.ownsRow B 3 1 v n cs) (hn : n ≤ 1048576) (hk : k ≤ 100000000) :
    Calls Try.prog 58 #[v, .int .i64 k] w (MarkedInts B v n k w) := by
  obtain ⟨A, c, hv, hc, hcm⟩ := (Row.of_own h).shape
  subst hv
  have H := Lib.hid h
  clear h
  go_enter Try.func58, Try.ntmps58
  go_wp2_with fail
  go_loopw [1, 5] (fun q i wr => ∃ (j : Nat) (ds : List Value), j ≤ n ∧ i = .int .i64 j ∧ q = .int .i64 ((k + j : Nat) : Int) ∧ wr.ownsRow B 3 1 (.slice A n c) n ds ∧ ds.take j = runI k j ∧ w.grownBy wr (Value.slice A n c).ownBlock) (fun _ i _ => n - (intOf i).toNat)
  case atStart => exact ⟨0, cs, Nat.zero_le _, rfl, rfl, H.out, rfl, World.grownBy.refl w _⟩
  case round =>
    obtain ⟨j, ds, hj, rfl, rfl, hown, htk, hg⟩ := hrel
    by_cases hlt : j < n
    · obtain ⟨g, c', hv, _, hgl, _⟩ := own_open hown (by omega)
      injection hv with hA _ hcc
      subst hA hcc
      have hl := hown.1
      obtain ⟨u0, _, hd0, hf0⟩ := own_slot hown (j := j) (by omega)
      have s1 := Lib.hid (hown.stored j (.int .i64 ((k : Int) + (j : Int))))
      have t1 := Lib.hid (set_run_at (m := n) (x := (k : Int) + (j : Int)) (by omega) (by omega) hlt htk)
      have G := Lib.hid hg
      clear hown htk hl hg H
      go_wp2_with fail
      go_roundw
      case rel => exact ⟨j + 1, _, by omega, by go_num, by rw [show k + (j + 1) = k + j + 1 from by omega]; go_num, s1.out.1, t1.out, grownBy_comp G.out s1.out.2⟩
      case measure => simp [intOf]; omega
    · obtain rfl : j = n := by omega
      go_wp2
      go_ret
      exact ⟨rfl, by have := own_of_take (k := k) hown (by rw [Nat.mul_one]; exact htk); rwa [Nat.mul_one] at this, hg⟩
theorem heldIntS_any (v : Value) (n k : Nat) (w : World) (h : Row w 1 v n (runI k n)) (hn : n ≤ 1048576) (hk : k ≤ 100000000) :
    Calls Try.prog 113 #[v, .int .i64 k] w fun e w' => e = .returned (.int .i64 ((k + n : Nat) : Int)) ∧ w = w' := by
  obtain ⟨A, c, hv, hc, hcm⟩ := h.shape
  subst hv
  go_enter Try.func113, Try.ntmps113
  go_wp2_with fail
  go_loop [1, 5] (fun q i => ∃ (j : Nat), j ≤ n ∧ i = .int .i64 j ∧ q = .int .i64 ((k + j : Nat) : Int)) (fun _ i => n - (intOf i).toNat)
  case atStart => exact ⟨0, Nat.zero_le _, rfl, rfl⟩
  case round =>
    obtain ⟨j, hj, rfl, rfl⟩ := hrel
    by_cases hlt : j < n
    · obtain ⟨b, o, c', hv, _, _, hbl, hcell⟩ := h.open (by omega)
      injection hv with hA _ hcc
      subst hA hcc
      have c0 := hcell j _ (runI_get (by omega))
      clear hcell h
      go_wp2_with fail
      go_round
      case rel => exact ⟨j + 1, by omega, by go_num, by rw [show k + (j + 1) = k + j + 1 from by omega]; go_num⟩
      case measure => simp [intOf]; omega
    · obtain rfl : j = n := by omega
      go_wp2
      go_ret
      exact ⟨rfl, rfl⟩
end Go.Proofs.Ytlbfejdbfhgifaa

namespace Go.Proofs.Ytlbfejdbfhgifaa
open Go.RowKit
set_option maxRecDepth 100000
theorem Kept.atN {v : Value} {xs : List Int} {T : Nat} {w : World} (h : Kept (fun w' => IntsAt w' v xs) T w) : IntsAt w v xs := by
  obtain ⟨w0, h, _, hb⟩ := h
  exact Row.below h hb
theorem Kept.atB {v : Value} {xs : List Bool} {T : Nat} {w : World} (h : Kept (fun w' => BoolsAt w' v xs) T w) : BoolsAt w v xs := by
  obtain ⟨w0, h, _, hb⟩ := h
  exact Row.below h hb
theorem ints_of_row {B T : Nat} {e : TypeId} {v : Value} {xs : List Int} {w : World} (h : RowT B T e 1 v xs.length (ints xs) w) : IntsAt w v xs := Row.of_own h.1
theorem bools_of_row {B T : Nat} {e : TypeId} {v : Value} {xs : List Bool} {w : World} (h : RowT B T e 1 v xs.length (bools xs) w) : BoolsAt w v xs := Row.of_own h.1
theorem has_true (w : World) : Has 0 0 (fun _ => True) w := ⟨trivial, Nat.zero_le _, fun _ _ _ _ _ _ _ => trivial⟩
theorem markIntS_only (B T : Nat) (v : Value) (n k : Nat) (cs : List Value) (w : World) (h : RowT B T 3 1 v n cs w) (hn : n ≤ 1048576) (hk : k ≤ 100000000) :
    Calls Try.prog 58 #[v, .int .i64 k] w fun e w' => (∃ k' : Nat, e = .returned (.int .i64 (k' : Nat)) ∧ k' ≤ k + 1048576) ∧ Only (fun g => B ≤ g ∧ g < T) w w' :=
  (markIntS_any B v n k cs w h.1 hn hk).mono fun _ _ ⟨h1, _, h3⟩ => ⟨⟨_, h1, by omega⟩, Only.grown h3 fun g hg => ⟨(h.1.lt g hg).1, h.2 g hg⟩⟩
theorem markIntS_own (B T : Nat) (v : Value) (n k : Nat) (cs : List Value) (w : World) (h : RowT B T 3 1 v n cs w) (hn : n ≤ 1048576) (hk : k ≤ 100000000) :
    Calls Try.prog 58 #[v, .int .i64 k] w fun e w' => e = .returned (.int .i64 ((k + n : Nat) : Int)) ∧ Only (fun g => B ≤ g ∧ g < T) w w' ∧ Has B w'.heap.size (RowT B w'.heap.size 3 1 v n (runI k n)) w' :=
  (markIntS_any B v n k cs w h.1 hn hk).mono fun _ _ ⟨h1, h2, h3⟩ => ⟨h1, Only.grown h3 fun g hg => ⟨(h.1.lt g hg).1, h.2 g hg⟩, has_row h2⟩
end Go.Proofs.Ytlbfejdbfhgifaa

namespace Go.Proofs.Ytlbfejdbfhgifaa
set_option maxRecDepth 100000
open Go.RowKit Go.Joins Go.ChangeShapes Go.WideShapes Go.ChangeAt Go.Deep
/-! Arguments that are slices, whatever their elements. -/
theorem flat_at {α : Type} {size : Nat} : ∀ {els : List (List α)}, (∀ e ∈ els, e.length = size) → ∀ {j : Nat} {u : α}, els.flatten[j]? = some u → ∃ (i r : Nat) (e : List α), j = i * size + r ∧ r < size ∧ els[i]? = some e ∧ e[r]? = some u
  | [], _, j, u, h => by simp at h
  | e :: els, hl, j, u, h => by
    have he := hl e (by simp)
    rw [List.flatten_cons, List.getElem?_append] at h
    split at h
    · rename_i hlt
      exact ⟨0, j, e, by omega, by omega, rfl, h⟩
    · rename_i hge
      obtain ⟨i, r, e', hj, hr, hi, hu⟩ := flat_at (fun e' h' => hl e' (List.mem_cons_of_mem _ h')) h
      refine ⟨i + 1, r, e', ?_, hr, by simpa using hi, hu⟩
      rw [Nat.add_mul]
      omega
theorem flat_length {α : Type} {size : Nat} : ∀ {els : List (List α)}, (∀ e ∈ els, e.length = size) → els.flatten.length = els.length * size
  | [], _ => by simp
  | e :: els, h => by
    rw [List.flatten_cons, List.length_append, flat_length (fun e' h' => h e' (List.mem_cons_of_mem _ h')), h e (by simp), List.length_cons, Nat.add_mul]
    omega
section
variable {H : Type} {enc : TypeId × Value → H} {P : Program} {w : World} {base : Nat} {spare : Nat → Bool} {held : Bool}
theorem slice_rd {t e : TypeId} {size fuel : Nat} {cs : List Value} {x : DataW H × List MemPlace} (ht : P.underlying t = some (.slice e)) (hc : P.cellsOf e = size) (hs : 0 < size) (G : List Value → Prop)
    (hG : ∀ n cs' y, cs'.length = size → DataW.trod enc P w base spare held n e cs' = some y → G cs') (h : DataW.trod enc P w base spare held fuel t cs = some x) :
    ∃ (A : Option Addr) (n c : Nat) (els : List (List Value)), cs = [.slice A n c] ∧ Row w size (.slice A n c) n els.flatten ∧ els.length = n ∧ (∀ e ∈ els, e.length = size) ∧ ∀ e ∈ els, G e := by
  rcases open_slice ht h with ⟨rfl, _⟩ | ⟨a, len, cap, m, n, D, Pl, rfl, hb, hl, hm, hmm, _, hx⟩
  · exact ⟨none, 0, 0, [], rfl, Row.nil w size, rfl, by simp, by simp⟩
  · have hx' : ∀ i, i < len → ∃ cs', cs'.length = size ∧ (∀ j, j < size → w.cell? (a.add (i * size + j)) = cs'[j]?) ∧ G cs' := by
      intro i hi
      have him : i < m := by rw [hmm]; split <;> omega
      obtain ⟨cs', h1, h2⟩ := hx i him
      rw [hc] at h1
      obtain ⟨_, h3, h4⟩ := World.cells?_some h1
      refine ⟨cs', h3, fun j hj => ?_, hG _ _ _ h3 h2⟩
      rw [← Go.Deep.add_add]
      exact h4 j hj
    let f : Nat → List Value := fun i => if h : i < len then (hx' i h).choose else []
    have hf : ∀ i, i < len → (f i).length = size ∧ (∀ j, j < size → w.cell? (a.add (i * size + j)) = (f i)[j]?) ∧ G (f i) := by
      intro i hi
      have := (hx' i hi).choose_spec
      simp only [f, hi, dite_true]
      exact this
    have hel : ∀ e ∈ (List.range len).map f, e.length = size := by
      intro e he
      obtain ⟨i, hi, rfl⟩ := List.mem_map.1 he
      exact (hf i (List.mem_range.1 hi)).1
    refine ⟨some a, len, cap, (List.range len).map f, rfl, ⟨by rw [flat_length hel]; simp, some a, cap, rfl, hl, hm, fun hn => ?_⟩, by simp, hel, fun e he => ?_⟩
    · obtain ⟨b, off, spot⟩ := a
      obtain ⟨h5, h6, _⟩ := hf 0 hn
      have h0 := h6 0 hs
      rw [List.getElem?_eq_getElem (by omega)] at h0
      have hspot : spot = none := by simpa [Addr.add] using World.cell?_spot h0
      subst hspot
      refine ⟨b, off, rfl, ?_, fun j u hu => ?_⟩
      · rcases Nat.lt_or_ge b w.heap.size with hl | hl
        · exact hl
        · simp [World.cell?, Addr.add, Array.getElem?_eq_none hl] at h0
      · obtain ⟨i, r, e', rfl, hr, hi, hu'⟩ := flat_at hel hu
        have hil : i < len := by
          obtain ⟨hi', _⟩ := List.getElem?_eq_some_iff.1 hi
          simpa using hi'
        have : e' = f i := by simpa [hil] using hi.symm
        subst this
        rw [← Go.WideShapes.add_plain, (hf i hil).2.1 r hr]
        exact hu'
    · obtain ⟨i, hi, rfl⟩ := List.mem_map.1 he
      exact (hf i (List.mem_range.1 hi)).2.2
end
def WfI (x : Int) : Prop := -9223372036854775808 ≤ x ∧ x ≤ 9223372036854775807
theorem wf_i {x : Int} (h : (Lit.int .i64 x).wf = true) : WfI x := by
  have := Go.bounds_i64 h
  unfold WfI
  omega
/-- What the cells of the elements come to. -/
theorem els_of {α : Type} (f : α → List Value) (G : α → Prop) : ∀ {els : List (List Value)}, (∀ e ∈ els, ∃ x, e = f x ∧ G x) → ∃ xs : List α, els.flatten = xs.flatMap f ∧ xs.length = els.length ∧ ∀ x ∈ xs, G x
  | [], _ => ⟨[], rfl, rfl, by simp⟩
  | e :: els, h => by
    obtain ⟨xs, h1, h2, h3⟩ := els_of f G (fun e' h' => h e' (List.mem_cons_of_mem _ h'))
    obtain ⟨x, rfl, hx⟩ := h e (by simp)
    refine ⟨x :: xs, by simp [h1], by simp [h2], ?_⟩
    intro y hy
    rcases List.mem_cons.1 hy with e | hy
    · exact e ▸ hx
    · exact h3 y hy
theorem flatMap_one {α : Type} (f : α → Value) : ∀ xs : List α, (xs.flatMap fun x => [f x]) = xs.map f
  | [] => rfl
  | x :: xs => by rw [List.flatMap_cons, flatMap_one f xs]; rfl
/-- What is known of an argument's cells. -/
def GInts (w : World) (cs : List Value) : Prop := ∃ (A : Option Addr) (n c : Nat) (xs : List Int), cs = [.slice A n c] ∧ IntsAt w (.slice A n c) xs ∧ xs.length = n ∧ ∀ x ∈ xs, WfI x
def GBools (w : World) (cs : List Value) : Prop := ∃ (A : Option Addr) (n c : Nat) (xs : List Bool), cs = [.slice A n c] ∧ BoolsAt w (.slice A n c) xs ∧ xs.length = n
def GPairs (w : World) (cs : List Value) : Prop := ∃ (A : Option Addr) (n c : Nat) (xs : List (Int × Int)), cs = [.slice A n c] ∧ CubesAt w (.slice A n c) xs ∧ xs.length = n ∧ ∀ x ∈ xs, WfI x.1 ∧ WfI x.2
section
variable {H : Type} {enc : TypeId × Value → H} {w : World} {base : Nat} {spare : Nat → Bool} {held : Bool}
theorem rd_int {n : Nat} {cs : List Value} {y : DataW H × List MemPlace} (h : DataW.trod enc Try.prog w base spare held n 3 cs = some y) : ∃ x, cs = [.int .i64 x] ∧ WfI x := by
  obtain ⟨x, e, _, hw⟩ := DataW.trod_int Try.underlying3 h
  exact ⟨x, e, wf_i hw⟩
theorem rd_bool {n : Nat} {cs : List Value} {y : DataW H × List MemPlace} (h : DataW.trod enc Try.prog w base spare held n 4 cs = some y) : ∃ x, cs = [.bool x] := by
  obtain ⟨x, e, _⟩ := DataW.trod_bool Try.underlying4 h
  exact ⟨x, e⟩
theorem rd_ints {n : Nat} {cs : List Value} {y : DataW H × List MemPlace} (h : DataW.trod enc Try.prog w base spare held n 22 cs = some y) : GInts w cs := by
  obtain ⟨A, n, c, els, rfl, hr, rfl, _, hg⟩ := slice_rd (size := 1) Try.underlying22 (by kernel_rfl) (by decide) (fun cs => ∃ x, cs = [.int .i64 x] ∧ WfI x) (fun _ _ _ _ h => rd_int h) h
  obtain ⟨xs, h1, h2, h3⟩ := els_of (fun x : Int => [Value.int .i64 x]) WfI hg
  rw [flatMap_one] at h1
  exact ⟨A, _, c, xs, rfl, by rw [h1, ← h2] at hr; rw [← h2]; exact hr, h2, h3⟩
theorem rd_bools {n : Nat} {cs : List Value} {y : DataW H × List MemPlace} (h : DataW.trod enc Try.prog w base spare held n 62 cs = some y) : GBools w cs := by
  obtain ⟨A, n, c, els, rfl, hr, rfl, _, hg⟩ := slice_rd (size := 1) Try.underlying62 (by kernel_rfl) (by decide) (fun cs => ∃ x, cs = [.bool x]) (fun _ _ _ _ h => rd_bool h) h
  obtain ⟨xs, h1, h2, _⟩ := els_of (fun x : Bool => [Value.bool x]) (fun _ => True) (fun e he => by obtain ⟨x, hx⟩ := hg e he; exact ⟨x, hx, trivial⟩)
  rw [flatMap_one] at h1
  exact ⟨A, _, c, xs, rfl, by rw [h1, ← h2] at hr; rw [← h2]; exact hr, h2⟩
theorem rd_pair {t : TypeId} {f0 f1 : Field} (hs : Try.prog.underlying t = some (.struct #[f0, f1])) (h0 : f0.type = 3) (h1 : f1.type = 3) (hone : oneCellFields Try.prog #[f0, f1] = true) (hC : Try.prog.cellsOf t = 2) {n : Nat} {cs : List Value} {y : DataW H × List MemPlace} (hl : cs.length = 2) (h : DataW.trod enc Try.prog w base spare held n t cs = some y) : ∃ x : Int × Int, cs = [.int .i64 x.1, .int .i64 x.2] ∧ WfI x.1 ∧ WfI x.2 := by
  match cs, hl with
  | [c0, c1], _ =>
    obtain ⟨xs, n, _, hx, _, hlen, hg⟩ := DataW.trod_struct hs h
    obtain ⟨o0, k0⟩ := hone_of hone 0 f0 rfl
    obtain ⟨o1, k1⟩ := hone_of hone 1 f1 rfl
    match xs, hlen with
    | [y0, y1], _ =>
      have g0 : DataW.trod enc Try.prog w base spare held n f0.type [c0] = some y0 := by simpa [Value.cells, o0, k0] using hg 0 f0 rfl
      have g1 : DataW.trod enc Try.prog w base spare held n f1.type [c1] = some y1 := by simpa [Value.cells, o1, k1] using hg 1 f1 rfl
      rw [h0] at g0
      rw [h1] at g1
      obtain ⟨a, e0, w0⟩ := rd_int g0
      obtain ⟨b, e1, w1⟩ := rd_int g1
      injection e0 with e0
      injection e1 with e1
      subst e0 e1
      exact ⟨(a, b), rfl, w0, w1⟩
theorem rd_pairs {t e : TypeId} {f0 f1 : Field} (ht : Try.prog.underlying t = some (.slice e)) (hs : Try.prog.underlying e = some (.struct #[f0, f1])) (h0 : f0.type = 3) (h1 : f1.type = 3) (hone : oneCellFields Try.prog #[f0, f1] = true) (hC : Try.prog.cellsOf e = 2) {n : Nat} {cs : List Value} {y : DataW H × List MemPlace} (h : DataW.trod enc Try.prog w base spare held n t cs = some y) : GPairs w cs := by
  obtain ⟨A, n, c, els, rfl, hr, rfl, _, hg⟩ := slice_rd (size := 2) ht hC (by decide) (fun cs => ∃ x : Int × Int, cs = [.int .i64 x.1, .int .i64 x.2] ∧ WfI x.1 ∧ WfI x.2) (fun _ _ _ hl h => rd_pair hs h0 h1 hone hC hl h) h
  obtain ⟨xs, g1, g2, g3⟩ := els_of (fun x : Int × Int => [Value.int .i64 x.1, Value.int .i64 x.2]) (fun x => WfI x.1 ∧ WfI x.2) hg
  exact ⟨A, _, c, xs, rfl, by rw [g1, ← g2] at hr; rw [← g2]; exact hr, g2, g3⟩
end
theorem slice_val {P : Program} {w : World} {r : Reach} {b0 : Nat} {t e : TypeId} {v : Value} (ht : P.underlying t = some (.slice e)) (hv : Value.okWide P w r b0 t v) : ∃ A n c, v = .slice A n c := by
  simp only [Value.okWide, ht, Cell.okWide] at hv
  cases v <;> simp_all [Cell.ok]
section
variable {H : Type} {enc : TypeId × Value → H} {w : World} {r : Reach} {b0 base : Nat} {spare : Nat → Bool} {held : Bool} {v : Value} {d : DataW H} {p : List MemPlace}
/-- Arguments: an int, a slice of ints, of booleans, of pairs of ints. -/
def AInt (_ : World) (v : Value) : Prop := ∃ x : Int, v = .int .i64 x ∧ WfI x
theorem open_aint (hv : Value.okWide Try.prog w r b0 3 v) (h : DataW.Trod enc Try.prog w base spare held 3 v d p) : AInt w v := by
  obtain ⟨x, rfl, rfl, rfl, hw⟩ := open_int Try.underlying3 hv h
  exact ⟨x, rfl, wf_i hw⟩
def AInts (w : World) (v : Value) : Prop := ∃ xs : List Int, IntsAt w v xs ∧ ∀ x ∈ xs, WfI x
theorem open_aints (hv : Value.okWide Try.prog w r b0 22 v) (h : DataW.Trod enc Try.prog w base spare held 22 v d p) : AInts w v := by
  obtain ⟨A, n, c, rfl⟩ := slice_val Try.underlying22 hv
  obtain ⟨m, hm⟩ := h
  obtain ⟨A', n', c', xs, e, h1, h2, h3⟩ := rd_ints hm
  simp [Value.cells] at e
  obtain ⟨rfl, rfl, rfl⟩ := e
  exact ⟨xs, h1, h3⟩
def ABools (w : World) (v : Value) : Prop := ∃ xs : List Bool, BoolsAt w v xs
theorem open_abools (hv : Value.okWide Try.prog w r b0 62 v) (h : DataW.Trod enc Try.prog w base spare held 62 v d p) : ABools w v := by
  obtain ⟨A, n, c, rfl⟩ := slice_val Try.underlying62 hv
  obtain ⟨m, hm⟩ := h
  obtain ⟨A', n', c', xs, e, h1, h2⟩ := rd_bools hm
  simp [Value.cells] at e
  obtain ⟨rfl, rfl, rfl⟩ := e
  exact ⟨xs, h1⟩
def APairs (w : World) (v : Value) : Prop := ∃ xs : List (Int × Int), CubesAt w v xs ∧ ∀ x ∈ xs, WfI x.1 ∧ WfI x.2
end
end Go.Proofs.Ytlbfejdbfhgifaa

namespace Go.Proofs.Ytlbfejdbfhgifaa
/-! Circuits, plainly. -/
/-- A circuit whose numbers are natural. -/
structure Ci where
  ins : Nat
  next : List Nat
  gates : List (Nat × Nat)
  outs : List Nat
/-- A circuit as it lies in memory. -/
structure Cz where
  ins : Int
  next : List Int
  gates : List (Int × Int)
  outs : List Int
namespace Cir
def isLit (l v : Int) : Bool := decide (0 ≤ l ∧ l < 2 * v)
/-- Every gate from place k on refers to variables before its own. -/
def gatesOk (first : Int) : Nat → List (Int × Int) → Bool
  | _, [] => true
  | k, g :: gs => isLit g.1 (first + k) && isLit g.2 (first + k) && gatesOk first (k + 1) gs
def first (c : Cz) : Int := 1 + c.ins + c.next.length
def vars (c : Cz) : Int := first c + c.gates.length
def sizes (c : Cz) : Bool := decide (0 ≤ c.ins ∧ c.ins ≤ 4 ∧ c.next.length ≤ 3 ∧ c.gates.length ≤ 14 ∧ c.outs.length ≤ 3)
def valid (c : Cz) : Bool := sizes c && gatesOk (first c) 0 c.gates && (c.next ++ c.outs).all (isLit · (vars c))
def toCz (c : Ci) : Cz := { ins := c.ins, next := c.next.map Int.ofNat, gates := c.gates.map fun g => ((g.1 : Int), (g.2 : Int)), outs := c.outs.map Int.ofNat }
def nfirst (c : Ci) : Nat := 1 + c.ins + c.next.length
def nvars (c : Ci) : Nat := nfirst c + c.gates.length
/-- The circuits that are valid. -/
structure Ok (c : Ci) : Prop where
  ins : c.ins ≤ 4
  nexts : c.next.length ≤ 3
  gatess : c.gates.length ≤ 14
  outss : c.outs.length ≤ 3
  gate : ∀ (k : Nat) (g : Nat × Nat), c.gates[k]? = some g → g.1 < 2 * (nfirst c + k) ∧ g.2 < 2 * (nfirst c + k)
  next : ∀ l ∈ c.next, l < 2 * nvars c
  out : ∀ l ∈ c.outs, l < 2 * nvars c
theorem gatesOk_get {f : Int} : ∀ {gs : List (Int × Int)} {k : Nat}, gatesOk f k gs = true → ∀ (i : Nat) (g : Int × Int), gs[i]? = some g → isLit g.1 (f + (k + i : Nat)) = true ∧ isLit g.2 (f + (k + i : Nat)) = true
  | [], _, _, i, g, hg => by simp at hg
  | a :: gs, k, h, i, g, hg => by
    rw [gatesOk, Bool.and_eq_true, Bool.and_eq_true] at h
    cases i with
    | zero =>
      have : a = g := by simpa using hg
      subst this
      exact h.1
    | succ i =>
      have := gatesOk_get h.2 i g (by simpa using hg)
      rw [show k + (i + 1) = k + 1 + i from by omega]
      exact this
theorem gatesOk_drop {f : Int} {gs : List (Int × Int)} {k : Nat} {g : Int × Int} (h : gs[k]? = some g) : gatesOk f k (gs.drop k) = (isLit g.1 (f + k) && isLit g.2 (f + k) && gatesOk f (k + 1) (gs.drop (k + 1))) := by
  obtain ⟨hk, rfl⟩ := List.getElem?_eq_some_iff.1 h
  rw [List.drop_eq_getElem_cons hk, gatesOk]
theorem nat_list : ∀ {l : List Int}, (∀ x ∈ l, 0 ≤ x) → ∃ m : List Nat, l = m.map Int.ofNat
  | [], _ => ⟨[], rfl⟩
  | x :: l, h => by
    obtain ⟨m, rfl⟩ := nat_list fun y hy => h y (List.mem_cons_of_mem _ hy)
    obtain ⟨n, rfl⟩ := Int.eq_ofNat_of_zero_le (h x (by simp))
    exact ⟨n :: m, rfl⟩
theorem nat_pairs : ∀ {l : List (Int × Int)}, (∀ x ∈ l, 0 ≤ x.1 ∧ 0 ≤ x.2) → ∃ m : List (Nat × Nat), l = m.map fun g => ((g.1 : Int), (g.2 : Int))
  | [], _ => ⟨[], rfl⟩
  | (a, b) :: l, h => by
    obtain ⟨m, rfl⟩ := nat_pairs fun y hy => h y (List.mem_cons_of_mem _ hy)
    have := h (a, b) (by simp)
    obtain ⟨n, rfl⟩ := Int.eq_ofNat_of_zero_le this.1
    obtain ⟨n', rfl⟩ := Int.eq_ofNat_of_zero_le this.2
    exact ⟨(n, n') :: m, rfl⟩
/-- A valid circuit is one of natural numbers. -/
theorem valid_nat {c : Cz} (h : valid c = true) : ∃ d : Ci, c = toCz d ∧ Ok d := by
  unfold valid at h
  rw [Bool.and_eq_true, Bool.and_eq_true] at h
  obtain ⟨⟨h1, h2⟩, h3⟩ := h
  unfold sizes at h1
  rw [decide_eq_true_eq] at h1
  obtain ⟨h4, h5, h6, h7, h8⟩ := h1
  have hall : ∀ l ∈ c.next ++ c.outs, 0 ≤ l ∧ l < 2 * vars c := fun l hl => by
    have := List.all_eq_true.1 h3 l hl
    unfold isLit at this
    simpa using this
  obtain ⟨i, hi⟩ := Int.eq_ofNat_of_zero_le h4
  obtain ⟨n, hn⟩ := nat_list (l := c.next) fun x hx => (hall x (by simp [hx])).1
  obtain ⟨o, ho⟩ := nat_list (l := c.outs) fun x hx => (hall x (by simp [hx])).1
  have hg : ∀ (k : Nat) (g : Int × Int), c.gates[k]? = some g → (0 ≤ g.1 ∧ g.1 < 2 * (first c + k)) ∧ 0 ≤ g.2 ∧ g.2 < 2 * (first c + k) := fun k g hk => by
    have := gatesOk_get h2 k g hk
    unfold isLit at this
    simpa using this
  obtain ⟨gs, hgs⟩ := nat_pairs (l := c.gates) fun x hx => by
    obtain ⟨k, hk, rfl⟩ := List.mem_iff_getElem.1 hx
    have := hg k _ (List.getElem?_eq_getElem hk)
    exact ⟨this.1.1, this.2.1⟩
  refine ⟨⟨i, n, gs, o⟩, ?_, ?_⟩
  · cases c
    simp only [toCz] at *
    subst hi hn ho hgs
    rfl
  · have e1 : first c = (nfirst ⟨i, n, gs, o⟩ : Nat) := by simp [first, nfirst, hi, hn]
    have e2 : vars c = (nvars ⟨i, n, gs, o⟩ : Nat) := by
      rw [vars, e1, nvars, hgs]; simp
    refine ⟨by simp only; omega, by have := congrArg List.length hn; simp at this; simp only; omega, by have := congrArg List.length hgs; simp at this; simp only; omega, by have := congrArg List.length ho; simp at this; simp only; omega, fun k g hk => ?_, fun l hl => ?_, fun l hl => ?_⟩
    · have := hg k ((g.1 : Int), (g.2 : Int)) (by rw [hgs, List.getElem?_map]; simp only at hk; rw [hk]; rfl)
      rw [e1] at this
      simp only at this
      omega
    · have := hall (l : Int) (by rw [hn]; exact List.mem_append_left _ (List.mem_map.2 ⟨l, hl, rfl⟩))
      rw [e2] at this
      omega
    · have := hall (l : Int) (by rw [ho]; exact List.mem_append_right _ (List.mem_map.2 ⟨l, hl, rfl⟩))
      rw [e2] at this
      omega
/-! ### Values -/
def lit (v : List Bool) (l : Nat) : Bool := v.getD (l / 2) false != (l % 2 == 1)
def gval (v : List Bool) (g : Nat × Nat) : Bool := lit v g.1 && lit v g.2
def evalG (gs : List (Nat × Nat)) (v : List Bool) : List Bool := gs.foldl (fun v g => v ++ [gval v g]) v
/-- The values of all variables. -/
def vals (c : Ci) (st inp : List Bool) : List Bool := evalG c.gates (false :: (inp ++ st))
def lits (v : List Bool) (ls : List Nat) : List Bool := ls.map (lit v)
theorem evalG_length : ∀ (gs : List (Nat × Nat)) (v : List Bool), (evalG gs v).length = v.length + gs.length
  | [], v => rfl
  | g :: gs, v => by
    rw [evalG, List.foldl_cons]
    have := evalG_length gs (v ++ [gval v g])
    rw [evalG] at this
    rw [this]
    simp
    omega
theorem evalG_take_snoc {gs : List (Nat × Nat)} {k : Nat} {g : Nat × Nat} (h : gs[k]? = some g) (v : List Bool) : evalG (gs.take (k + 1)) v = evalG (gs.take k) v ++ [gval (evalG (gs.take k) v) g] := by
  unfold evalG
  rw [List.take_add_one, h, List.foldl_append]
  rfl
theorem vals_length (c : Ci) {st inp : List Bool} (h1 : inp.length = c.ins) (h2 : st.length = c.next.length) : (vals c st inp).length = nvars c := by
  rw [vals, evalG_length]
  simp [nvars, nfirst, h1, h2]
  omega
/-- The lowest n bits. -/
def bits (x n : Nat) : List Bool := (List.range n).map fun i => x.testBit i
/-- The number of some bits, the lowest first. -/
def num : List Bool → Nat
  | [] => 0
  | b :: l => (if b then 1 else 0) + 2 * num l
theorem num_lt : ∀ l : List Bool, num l < 2 ^ l.length
  | [] => by simp [num]
  | b :: l => by
    have := num_lt l
    rw [num, List.length_cons, Nat.pow_succ]
    split <;> omega
def nextOf (c : Ci) (s x : Nat) : Nat := num (lits (vals c (bits s c.next.length) (bits x c.ins)) c.next)
def outsOf (c : Ci) (s x : Nat) : List Bool := lits (vals c (bits s c.next.length) (bits x c.ins)) c.outs
theorem nextOf_lt (c : Ci) (s x : Nat) : nextOf c s x < 2 ^ c.next.length := by
  have := num_lt (lits (vals c (bits s c.next.length) (bits x c.ins)) c.next)
  unfold nextOf
  simpa [lits] using this
end Cir
end Go.Proofs.Ytlbfejdbfhgifaa

namespace Go.Proofs.Ytlbfejdbfhgifaa
open Go.RowKit
section
variable {P : Program}
theorem step_append_at {w : World} {ops : Array Oper} {o : Oper} {a : Act} {K : Act → World → Prop} {Q : Exit → Act → World → Prop} {E : Prop} (hgd : o.guard = none) (s x : Operand) (t : TypeId)
    (ho : o.op = .call { callee := .builtin .append, args := #[s, x], argTypes := #[t, t] })
    (base : Nat) (e : TypeId) (i : TypeInfo) (z : Value) (size bytes : Nat) (ht : P.underlying t = some (.slice e)) (hi : P.info? e = some i) (hz : i.zero = some z)
    (hsize : i.size = size) (hby : i.bytes = bytes) (hzs : z.cells.size = size) (hsz : 0 < size)
    (v : Value) (n : Nat) (xs : List Value) (hs : a.eval s = v) (hown : w.ownsRow base e size v n xs) (sv : Value) (m : Nat) (news : List Value) (hx : a.eval x = sv) (hr : Row w size sv m news) (h1 : ∀ u ∈ news, u.oneCell' = true)
    (h63 : n + m ≤ maxLen) (hbytes : (n + m) * bytes ≤ 140737488355328) (hbase : base ≤ w.heap.size)
    (h : ∀ v' w', w'.ownsRow base e size v' (n + m) (xs ++ news) → w.grownBy w' v.ownBlock → K (a.put o.dst v') w') : if Region.wanted o (yielded ops a.tmps) = true then Oper.wp P o a w K Q else E := by
  have hw : Region.wanted o (yielded ops a.tmps) = true := by simp [Region.wanted, hgd]
  rw [if_pos hw]
  obtain ⟨v', w', hrun, h2, h3, h4⟩ := run_append_row_at (P := P) w base t o.type e i z size bytes ht hi hz hsize hby hzs hsz v n xs hown sv m news hr h1 h63 hbytes hbase
  unfold Oper.wp execOp
  simp only [ho, resolve, invoke, builtin, Sem.run_bind, Sem.run_pure, Result.andThen_ok, List.map_toArray, List.map_cons, List.map_nil, hs, hx, hrun]
  exact h v' w' h2 h3
end
end Go.Proofs.Ytlbfejdbfhgifaa
