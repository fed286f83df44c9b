import Derived.WalkKit
import Derived.WalkSpells
import Derived.BigQuiet
import Derived.Below
import Derived.OpenShut
import Derived.Laws.OwnMore
import Derived.OwnWalk
import Derived.Deep.OwnRows
import Derived.Deep.Draws
import Derived.Deep.QuietTactic
import Derived.Outline
import Derived.Lib.Hide
namespace Go.Proofs.Ythnfbjjnabohoaa
open Go.RowKit

/-! Memory: a slice value that reads as a row of cells; a row of the call's own. -/

theorem quietS {P : Program} {f : FuncId} {args : Array Value} {w : World} {n : Nat} {v : Value}
    (h : Calls P f args (w.drewN n) fun e w' => e = .returned v ∧ w.drewN n = w') : Calls P f args (w.drewN n) fun e w'' => e = .returned v ∧ ∃ m, w'' = w.drewN m :=
  h.mono fun _ _ ⟨he, hm⟩ => ⟨he, n, hm.symm⟩

/-- w' is w but for the count of what was drawn. -/
def Drew (w w' : World) : Prop := ∃ m, w' = w.drewN m
theorem Drew.refl (w : World) : Drew w w := ⟨0, rfl⟩
theorem Drew.by (w : World) (m : Nat) : Drew w (w.drewN m) := ⟨m, rfl⟩
theorem Drew.more {w a : World} (h : Drew w a) (n : Nat) : Drew w (a.drewN n) := by
  obtain ⟨m, rfl⟩ := h
  exact ⟨m + n, World.drewN_drewN _ _ _⟩
theorem Drew.trans {w a b : World} (h : Drew w a) (h' : Drew a b) : Drew w b := by
  obtain ⟨n, rfl⟩ := h'
  exact h.more n
theorem Drew.cell {w a : World} (h : Drew w a) (p : Addr) : a.cell? p = w.cell? p := by
  obtain ⟨m, rfl⟩ := h
  rfl
theorem Drew.size {w a : World} (h : Drew w a) : a.heap.size = w.heap.size := by
  obtain ⟨m, rfl⟩ := h
  rfl
theorem Drew.below {w a : World} (h : Drew w a) (B : Nat) : Below B w a := by
  obtain ⟨m, rfl⟩ := h
  exact ⟨rfl, rfl, rfl, Nat.le_refl _, fun _ _ => rfl⟩
theorem quietD {P : Program} {f : FuncId} {args : Array Value} {w : World} {n : Nat} {v : Value}
    (h : Calls P f args (w.drewN n) fun e w' => e = .returned v ∧ Drew (w.drewN n) w') : Calls P f args (w.drewN n) fun e w'' => e = .returned v ∧ ∃ m, w'' = w.drewN m :=
  h.mono fun _ _ ⟨he, m, hm⟩ => ⟨he, n + m, by rw [hm, World.drewN_drewN]⟩

/-- The slice value v has n elements of size cells each, and reads as the cells cs. -/
def Row (w : World) (size : Nat) (v : Value) (n : Nat) (cs : List Value) : Prop :=
  cs.length = n * size ∧ ∃ A c, v = .slice A n c ∧ n ≤ c ∧ c ≤ maxLen ∧
    (0 < n → ∃ b o, A = some ⟨b, o, none⟩ ∧ b < w.heap.size ∧ ∀ j u, cs[j]? = some u → w.cell? ⟨b, o + j, none⟩ = some u)

section
variable {w w' : World} {size n : Nat} {v : Value} {cs : List Value}
theorem Row.len (h : Row w size v n cs) : cs.length = n * size := h.1
theorem Row.shape (h : Row w size v n cs) : ∃ A c, v = .slice A n c ∧ n ≤ c ∧ c ≤ maxLen := by
  obtain ⟨_, A, c, hv, h1, h2, _⟩ := h
  exact ⟨A, c, hv, h1, h2⟩
theorem Row.open (h : Row w size v n cs) (hn : 0 < n) : ∃ b o c, v = .slice (some ⟨b, o, none⟩) n c ∧ n ≤ c ∧ c ≤ maxLen ∧ b < w.heap.size ∧ ∀ j u, cs[j]? = some u → w.cell? ⟨b, o + j, none⟩ = some u := by
  obtain ⟨_, A, c, hv, h1, h2, h3⟩ := h
  obtain ⟨b, o, rfl, hb, hc⟩ := h3 hn
  exact ⟨b, o, c, hv, h1, h2, hb, hc⟩
theorem Row.keep (h : Row w size v n cs) (hs : w.heap.size ≤ w'.heap.size) (hk : ∀ p : Addr, p.block < w.heap.size → w'.cell? p = w.cell? p) : Row w' size v n cs := by
  obtain ⟨h0, A, c, hv, h1, h2, h3⟩ := h
  refine ⟨h0, A, c, hv, h1, h2, fun hn => ?_⟩
  obtain ⟨b, o, hA, hb, hc⟩ := h3 hn
  exact ⟨b, o, hA, by omega, fun j u hu => (hk _ hb).trans (hc j u hu)⟩
theorem Row.below (h : Row w size v n cs) (hb : Below w.heap.size w w') : Row w' size v n cs := h.keep hb.size fun _ hp => hb.cell hp
theorem Row.drew (h : Row w size v n cs) (hd : Drew w w') : Row w' size v n cs := h.below (hd.below _)
theorem Row.drewN (h : Row w size v n cs) (m : Nat) : Row (w.drewN m) size v n cs := h
theorem Row.alloc (h : Row w size v n cs) (o : Obj) : Row (w.alloc o) size v n cs := h.below ((Below.refl _ _).alloc (Nat.le_refl _) o)
theorem Row.of_own {base : Nat} {e : TypeId} (h : w.ownsRow base e size v n cs) : Row w size v n cs := by
  refine ⟨h.1, ?_⟩
  rcases h.2 with ⟨rfl, rfl⟩ | ⟨g, cap, cur, rfl, _, hh, h1, h2, _⟩
  · exact ⟨none, 0, rfl, Nat.le_refl _, Nat.zero_le _, fun h => absurd h (by omega)⟩
  · refine ⟨_, cap, rfl, h1, h2, fun _ => ⟨g, 0, rfl, ?_, fun j u hu => ?_⟩⟩
    · rcases Nat.lt_or_ge g w.heap.size with hl | hl
      · exact hl
      · rw [Array.getElem?_eq_none hl] at hh; cases hh
    · have := h.cells (g := g) rfl j u hu
      rw [Nat.zero_add]
      by_cases hj : j = 0
      · subst hj; exact this
      · simpa [Addr.add, hj] using this
theorem Row.nil (w : World) (size : Nat) : Row w size (.slice none 0 0) 0 [] :=
  ⟨by simp, none, 0, rfl, Nat.le_refl _, Nat.zero_le _, fun h => absurd h (by omega)⟩
end

/-- The numbers as cells. -/
def ints (xs : List Int) : List Value := xs.map (Value.int .i64)
def IntsAt (w : World) (v : Value) (xs : List Int) : Prop := Row w 1 v xs.length (ints xs)
theorem ints_length (xs : List Int) : (ints xs).length = xs.length := List.length_map _
theorem ints_at {xs : List Int} {i : Nat} (h : i < xs.length) : ∃ x, xs[i]? = some x ∧ (ints xs)[i]? = some (.int .i64 x) :=
  ⟨xs[i], List.getElem?_eq_getElem h, by simp [ints, h]⟩
theorem ints_get {xs : List Int} {i : Nat} (h : i < xs.length) : (ints xs)[i]? = some (.int .i64 (xs.getD i 0)) := by
  simp [ints, h, List.getD_eq_getElem?_getD]

/-- An argument that is a slice of integers. -/
theorem Row.given {w : World} {k : IntKind} {a : Option Addr} {len cap : Nat} {zs : List Int}
    (h : (a = none ∧ len = 0 ∧ cap = 0 ∧ zs = []) ∨
      ∃ x, a = some x ∧ len ≤ cap ∧ cap ≤ maxLen ∧ zs.length = cap ∧ (∀ i, i < zs.length → w.cell? (x.add i) = some (.int k (zs.getD i 0))) ∧ ∀ n ∈ zs, (Lit.int k n).wf = true) :
    ∃ xs : List Int, xs.length = len ∧ (∀ n ∈ xs, (Lit.int k n).wf = true) ∧ Row w 1 (.slice a len cap) len (xs.map (Value.int k)) := by
  rcases h with ⟨rfl, rfl, rfl, rfl⟩ | ⟨x, rfl, h1, h2, h3, h4, h5⟩
  · exact ⟨[], rfl, by simp, Row.nil w 1⟩
  · refine ⟨zs.take len, by simp; omega, fun n hn => h5 n (List.mem_of_mem_take hn), by simp; omega, some x, cap, rfl, h1, h2, fun hp => ?_⟩
    obtain ⟨b, off, spot⟩ := x
    have h0 := h4 0 (by omega)
    have hspot : spot = none := by simpa [Addr.add] using World.cell?_spot h0
    subst hspot
    refine ⟨b, off, rfl, ?_, fun j u hu => ?_⟩
    · rcases Nat.lt_or_ge b w.heap.size with hl | hl
      · exact hl
      · simp [World.cell?, Addr.add, Array.getElem?_eq_none hl] at h0
    · have hj : j < len := by
        obtain ⟨hj, _⟩ := List.getElem?_eq_some_iff.1 hu
        simp at hj; omega
      rw [← Go.WideShapes.add_plain, h4 j (by omega), ← hu]
      simp [List.getElem?_take, hj, List.getD_eq_getElem?_getD, show j < zs.length from by omega]

/-- A row of the call's own that is not empty. -/
theorem own_open {w : World} {base : Nat} {e : TypeId} {size n : Nat} {v : Value} {cs : List Value} (h : w.ownsRow base e size v n cs) (hn : 0 < n) :
    ∃ g c, v = .slice (some ⟨g, 0, none⟩) n c ∧ base ≤ g ∧ g < w.heap.size ∧ n ≤ c ∧ c ≤ maxLen := by
  rcases h.2 with ⟨rfl, rfl⟩ | ⟨g, cap, cur, rfl, hb, hh, h1, h2, _⟩
  · omega
  · refine ⟨g, cap, rfl, hb, ?_, h1, h2⟩
    rcases Nat.lt_or_ge g w.heap.size with hl | hl
    · exact hl
    · rw [Array.getElem?_eq_none hl] at hh; cases hh

theorem own_slot {w : World} {base : Nat} {e : TypeId} {size n cap g : Nat} {cs : List Value} (h : w.ownsRow base e size (.slice (some ⟨g, 0, none⟩) n cap) n cs) {j : Nat} (hj : j < n * size) :
    ∃ u, cs[j]? = some u ∧ w.cell? ⟨g, j, none⟩ = some u ∧ w.frozen? ⟨g, j, none⟩ = false := by
  have hl := h.1
  refine ⟨cs[j]'(by omega), List.getElem?_eq_getElem _, ?_, h.frozenAt j⟩
  rw [h.cellAt j hj, List.getElem?_eq_getElem]
/-- A cell of a slice literal of numbers between lo and hi. -/
theorem lit_cell (w : World) (L : List Int) (t : TypeId) (lo hi : Int) (hL : ∀ x ∈ L, lo ≤ x ∧ x ≤ hi) (i : Nat) (h : i < L.length) :
    ∃ v : Int, lo ≤ v ∧ v ≤ hi ∧ (w.alloc (.cells (L.map (Value.int .i64)).toArray t)).cell? ⟨w.heap.size, i, none⟩ = some (.int .i64 v) := by
  have hm := hL L[i] (List.getElem_mem h)
  refine ⟨L[i], hm.1, hm.2, ?_⟩
  rw [cell_of_row _ _ i _ t (0, 0) (heap_alloc_new w _)]
  simp [h]
/-- A row of the call's own below what changes. -/
theorem own_below {w w' : World} {base : Nat} {e : TypeId} {size n : Nat} {v : Value} {cs : List Value} (h : w.ownsRow base e size v n cs) (hb : Below w.heap.size w w') : w'.ownsRow base e size v n cs := by
  refine h.kept (row := none) ⟨hb.os, hb.tape, hb.output, hb.size, fun k hk _ => hb.block k hk⟩ ?_
  cases hv : v.ownBlock with
  | none => exact .inl rfl
  | some q => exact .inr (by simp)
theorem take_set_succ {α : Type} {cs L : List α} {k : Nat} {u : α} (hk : k < cs.length) (h : cs.take k = L.take k) (hu : L[k]? = some u) : (cs.set k u).take (k + 1) = L.take (k + 1) := by
  apply List.ext_getElem?
  intro j
  have hj := congrArg (fun l => l[j]?) h
  simp only [List.getElem?_take, List.getElem?_set] at hj ⊢
  by_cases h1 : j < k
  · simpa [h1, Nat.lt_succ_of_lt h1, Nat.ne_of_gt h1] using hj
  · by_cases h2 : j = k
    · subst h2; simp [hk, hu]
    · simp [show ¬ j < k + 1 from by omega]
theorem take_snoc {α : Type} {xs : List α} {k : Nat} {x : α} (h : xs[k]? = some x) : xs.take (k + 1) = xs.take k ++ [x] := by
  rw [List.take_add_one, h]; rfl
theorem take_ne {α : Type} {xs ys : List α} {k : Nat} {x y : α} (h : xs[k]? = some x) (h' : ys[k]? = some y) (hn : x ≠ y) : xs ≠ ys := by
  rintro rfl
  rw [h] at h'
  exact hn (Option.some.inj h')
section
variable {P : Program}
/-- append to a row of the call's own, whatever the source: nil, empty or not. -/
theorem run_append_row (w : World) (base : Nat) (t ty e : TypeId) (i : TypeInfo) (z : Value) (size bytes : Nat) (ht : P.underlying t = some (.slice e)) (hi : P.info? e = some i) (hz : i.zero = some z)
    (hsize : i.size = size) (hby : i.bytes = bytes) (hzs : z.cells.size = size) (hsz : 0 < size)
    (v : Value) (n : Nat) (xs : List Value) (hown : w.ownsRow base e size v n xs) (sv : Value) (m : Nat) (news : List Value) (hr : Row w size sv m news) (h1 : ∀ u ∈ news, u.oneCell' = true)
    (h63 : n + m ≤ maxLen) (hbytes : (n + m) * bytes ≤ 140737488355328) (hbase : base ≤ w.heap.size) :
    ∃ v' w', (Builtin.append_ #[t, t] ty #[v, sv]).run P w = .ok v' w' ∧ w'.ownsRow base e size v' (n + m) (xs ++ news) ∧ w.grownBy w' v.ownBlock := by
  obtain ⟨hl, A, c, rfl, hc1, hc2, hcell⟩ := hr
  cases A with
  | none =>
    have hm : m = 0 := by
      rcases Nat.eq_zero_or_pos m with h0 | h0
      · exact h0
      · obtain ⟨b, o, h, _⟩ := hcell h0
        cases h
    subst hm
    have hn : news = [] := List.eq_nil_of_length_eq_zero (by simpa using hl)
    subst hn
    refine ⟨v, w, ?_, by simpa using hown, World.grownBy.refl w _⟩
    rcases hown.2 with ⟨rfl, rfl⟩ | ⟨g, cap, cur, rfl, _, _, hnc, _⟩
    · simp [Builtin.append_, run_underlying ht, sizeOf, typeInfo, hi, Builtin.lenOf, Builtin.firstCells]
    · simp [Builtin.append_, run_underlying ht, sizeOf, typeInfo, hi, Builtin.lenOf, Builtin.firstCells, hnc, storeCells]
  | some ad =>
    obtain ⟨v', w', hrun, hown', hgr, _⟩ := run_append_own (P := P) w base t ty e i z size bytes ht hi hz hsize hby hzs hsz v n xs hown ad m c news hl (fun j u hj => by
      have hm : 0 < m := by
        obtain ⟨hj', _⟩ := List.getElem?_eq_some_iff.1 hj
        rcases Nat.eq_zero_or_pos m with h0 | h0
        · subst h0; omega
        · exact h0
      obtain ⟨b, o, hA, _, hc⟩ := hcell hm
      obtain rfl := Option.some.inj hA
      rw [Go.WideShapes.add_plain]
      exact hc j u hj) h1 h63 hbytes hbase
    exact ⟨v', w', hrun, hown', hgr⟩
theorem wpList_append_row {w : World} {ops : Array Oper} {rest : List Oper} {o : Oper} {a : Act} {Q : Exit → Act → World → Prop} (hgd : o.guard = none) (s x : Operand) (t : TypeId)
    (ho : o.op = .call { callee := .builtin .append, args := #[s, x], argTypes := #[t, t] })
    (base : Nat) (e : TypeId) (i : TypeInfo) (z : Value) (size bytes : Nat) (ht : P.underlying t = some (.slice e)) (hi : P.info? e = some i) (hz : i.zero = some z)
    (hsize : i.size = size) (hby : i.bytes = bytes) (hzs : z.cells.size = size) (hsz : 0 < size)
    (v : Value) (n : Nat) (xs : List Value) (hs : a.eval s = v) (hown : w.ownsRow base e size v n xs) (sv : Value) (m : Nat) (news : List Value) (hx : a.eval x = sv) (hr : Row w size sv m news) (h1 : ∀ u ∈ news, u.oneCell' = true)
    (h63 : n + m ≤ maxLen) (hbytes : (n + m) * bytes ≤ 140737488355328) (hbase : base ≤ w.heap.size)
    (h : ∀ v' w', w'.ownsRow base e size v' (n + m) (xs ++ news) → w.grownBy w' v.ownBlock → wpList P ops Q rest (a.put o.dst v') w') : wpList P ops Q (o :: rest) a w := by
  obtain ⟨v', w', hrun, h2, h3⟩ := run_append_row (P := P) w base t o.type e i z size bytes ht hi hz hsize hby hzs hsz v n xs hown sv m news hr h1 h63 hbytes hbase
  refine wpList_plain hgd fun K hK => ?_
  unfold Oper.wp execOp
  simp only [ho, resolve, invoke, builtin, Sem.run_bind, Sem.run_pure, Result.andThen_ok, List.map_toArray, List.map_cons, List.map_nil, hs, hx, hrun]
  exact hK _ _ (h v' w' h2 h3)
end
theorem blk_cell {w : World} {g : Nat} {cs : Array Value} {t : TypeId} (h : w.heap[g]? = some (.cells cs t (0, 0))) (i : Nat) : w.cell? ⟨g, i, none⟩ = cs[i]? := cell_of_row w g i cs t (0, 0) h
theorem blk_free {w : World} {g : Nat} {cs : Array Value} {t : TypeId} (h : w.heap[g]? = some (.cells cs t (0, 0))) (i : Nat) : w.frozen? ⟨g, i, none⟩ = false := by simp [World.frozen?, h]
theorem bel_drewN {B : Nat} {a w : World} (h : Below B a w) (n : Nat) : Below B a (w.drewN n) := ⟨h.os, h.tape, h.output, h.size, h.block⟩
theorem below_cell {W w1 : World} (hb : Below W.heap.size W w1) : (∀ b o, b < W.heap.size → w1.cell? ⟨b, o, none⟩ = W.cell? ⟨b, o, none⟩) ∧ (∀ b o, b < W.heap.size → w1.frozen? ⟨b, o, none⟩ = W.frozen? ⟨b, o, none⟩) :=
  ⟨fun b o h => hb.cell (p := ⟨b, o, none⟩) h, fun b o h => hb.frozen (p := ⟨b, o, none⟩) h⟩
end Go.Proofs.Ythnfbjjnabohoaa
