import Derived.WalkKit
import Derived.WalkSpells
import Derived.BigQuiet
import Derived.Below
import Derived.OpenShut
import Derived.Laws.OwnMore
import Derived.OwnWalk
import Derived.Deep.OwnRows
import Derived.Deep.Draws
import Derived.Deep.QuietTactic
import Derived.Outline
import Derived.Lib.Hide
import Derived.Test.YtmlcbikljlhhkaaProg
import Derived.Maps.AppendAt
import Derived.Deep.RegionLaw
import Derived.Deep.Quiet
import Derived.Deep.RegionWith
import Derived.StillTailTactics
namespace Go.Proofs.Ytmlcbikljlhhkaa
/-! Bit operations on Go's int where both operands are not negative. -/
theorem ofInt64 (a : Nat) (ha : a < 18446744073709551616) : (BitVec.ofInt 64 (a : Int)).toNat = a := by
  rw [BitVec.ofInt_natCast, BitVec.toNat_ofNat]; exact Nat.mod_eq_of_lt (by omega)
theorem i64_and_nat (a b : Nat) (ha : a < 9223372036854775808) (hb : b < 9223372036854775808) : bits .and .i64 (a : Int) (b : Int) = ((a &&& b : Nat) : Int) := by
  have hx : a &&& b < 2 ^ 63 := Nat.and_lt_two_pow _ (by omega)
  show IntKind.i64.wrap ((BitVec.ofInt 64 (a : Int) &&& BitVec.ofInt 64 (b : Int)).toNat : Int) = _
  rw [BitVec.toNat_and, ofInt64 a (by omega), ofInt64 b (by omega), IntWalk.i64_in _ (by omega)]
theorem i64_or_nat (a b : Nat) (ha : a < 9223372036854775808) (hb : b < 9223372036854775808) : bits .or .i64 (a : Int) (b : Int) = ((a ||| b : Nat) : Int) := by
  have hx : a ||| b < 2 ^ 63 := Nat.or_lt_two_pow (by omega) (by omega)
  show IntKind.i64.wrap ((BitVec.ofInt 64 (a : Int) ||| BitVec.ofInt 64 (b : Int)).toNat : Int) = _
  rw [BitVec.toNat_or, ofInt64 a (by omega), ofInt64 b (by omega), IntWalk.i64_in _ (by omega)]
theorem i64_xor_nat (a b : Nat) (ha : a < 9223372036854775808) (hb : b < 9223372036854775808) : bits .xor .i64 (a : Int) (b : Int) = ((a ^^^ b : Nat) : Int) := by
  have hx : a ^^^ b < 2 ^ 63 := Nat.xor_lt_two_pow (by omega) (by omega)
  show IntKind.i64.wrap ((BitVec.ofInt 64 (a : Int) ^^^ BitVec.ofInt 64 (b : Int)).toNat : Int) = _
  rw [BitVec.toNat_xor, ofInt64 a (by omega), ofInt64 b (by omega), IntWalk.i64_in _ (by omega)]
theorem i64_and (a b : Int) (h1 : 0 ≤ a) (h2 : a < 9223372036854775808) (h3 : 0 ≤ b) (h4 : b < 9223372036854775808) : bits .and .i64 a b = ((a.toNat &&& b.toNat : Nat) : Int) := by
  obtain ⟨A, rfl⟩ := Int.eq_ofNat_of_zero_le h1
  obtain ⟨B, rfl⟩ := Int.eq_ofNat_of_zero_le h3
  simpa using i64_and_nat A B (by omega) (by omega)
theorem i64_or (a b : Int) (h1 : 0 ≤ a) (h2 : a < 9223372036854775808) (h3 : 0 ≤ b) (h4 : b < 9223372036854775808) : bits .or .i64 a b = ((a.toNat ||| b.toNat : Nat) : Int) := by
  obtain ⟨A, rfl⟩ := Int.eq_ofNat_of_zero_le h1
  obtain ⟨B, rfl⟩ := Int.eq_ofNat_of_zero_le h3
  simpa using i64_or_nat A B (by omega) (by omega)
theorem i64_xor (a b : Int) (h1 : 0 ≤ a) (h2 : a < 9223372036854775808) (h3 : 0 ≤ b) (h4 : b < 9223372036854775808) : bits .xor .i64 a b = ((a.toNat ^^^ b.toNat : Nat) : Int) := by
  obtain ⟨A, rfl⟩ := Int.eq_ofNat_of_zero_le h1
  obtain ⟨B, rfl⟩ := Int.eq_ofNat_of_zero_le h3
  simpa using i64_xor_nat A B (by omega) (by omega)
theorem i64_and_one (a : Int) (h1 : 0 ≤ a) (h2 : a < 9223372036854775808) : bits .and .i64 a 1 = a % 2 := by
  obtain ⟨A, rfl⟩ := Int.eq_ofNat_of_zero_le h1
  have h := i64_and_nat A 1 (by omega) (by omega)
  rw [Nat.and_one_is_mod] at h
  exact h
theorem two_pow (k : Nat) : (2 : Int) ^ k = ((2 ^ k : Nat) : Int) := (Int.natCast_pow 2 k).symm
theorem i64_and_mask (a : Nat) (k : Nat) (h2 : a < 9223372036854775808) (hk : 2 ^ k ≤ 9223372036854775808) : bits .and .i64 (a : Int) (2 ^ k - 1) = ((a % 2 ^ k : Nat) : Int) := by
  have h1 : 1 ≤ 2 ^ k := Nat.one_le_two_pow
  have h := i64_and_nat a (2 ^ k - 1) (by omega) (by omega)
  rw [Nat.and_two_pow_sub_one_eq_mod, Int.ofNat_sub h1] at h
  simpa using h
theorem ret_int {k : IntKind} {a b : Int} (h : a = b) : Ending.returned (.int k a) = .returned (.int k b) := by rw [h]
theorem ret_bool {a b : Bool} (h : a = b) : Ending.returned (.bool a) = .returned (.bool b) := by rw [h]
end Go.Proofs.Ytmlcbikljlhhkaa

namespace Go.Proofs.Ytmlcbikljlhhkaa
/-! Circuits, plainly. -/
/-- A circuit whose numbers are natural. -/
structure Ci where
  ins : Nat
  next : List Nat
  gates : List (Nat × Nat)
  outs : List Nat
/-- A circuit as it lies in memory. -/
structure Cz where
  ins : Int
  next : List Int
  gates : List (Int × Int)
  outs : List Int
namespace Cir
def isLit (l v : Int) : Bool := decide (0 ≤ l ∧ l < 2 * v)
/-- Every gate from place k on refers to variables before its own. -/
def gatesOk (first : Int) : Nat → List (Int × Int) → Bool
  | _, [] => true
  | k, g :: gs => isLit g.1 (first + k) && isLit g.2 (first + k) && gatesOk first (k + 1) gs
def first (c : Cz) : Int := 1 + c.ins + c.next.length
def vars (c : Cz) : Int := first c + c.gates.length
def sizes (c : Cz) : Bool := decide (0 ≤ c.ins ∧ c.ins ≤ 4 ∧ c.next.length ≤ 3 ∧ c.gates.length ≤ 14 ∧ c.outs.length ≤ 3)
def valid (c : Cz) : Bool := sizes c && gatesOk (first c) 0 c.gates && (c.next ++ c.outs).all (isLit · (vars c))
def toCz (c : Ci) : Cz := { ins := c.ins, next := c.next.map Int.ofNat, gates := c.gates.map fun g => ((g.1 : Int), (g.2 : Int)), outs := c.outs.map Int.ofNat }
def nfirst (c : Ci) : Nat := 1 + c.ins + c.next.length
def nvars (c : Ci) : Nat := nfirst c + c.gates.length
/-- The circuits that are valid. -/
structure Ok (c : Ci) : Prop where
  ins : c.ins ≤ 4
  nexts : c.next.length ≤ 3
  gatess : c.gates.length ≤ 14
  outss : c.outs.length ≤ 3
  gate : ∀ (k : Nat) (g : Nat × Nat), c.gates[k]? = some g → g.1 < 2 * (nfirst c + k) ∧ g.2 < 2 * (nfirst c + k)
  next : ∀ l ∈ c.next, l < 2 * nvars c
  out : ∀ l ∈ c.outs, l < 2 * nvars c
theorem gatesOk_get {f : Int} : ∀ {gs : List (Int × Int)} {k : Nat}, gatesOk f k gs = true → ∀ (i : Nat) (g : Int × Int), gs[i]? = some g → isLit g.1 (f + (k + i : Nat)) = true ∧ isLit g.2 (f + (k + i : Nat)) = true
  | [], _, _, i, g, hg => by simp at hg
  | a :: gs, k, h, i, g, hg => by
    rw [gatesOk, Bool.and_eq_true, Bool.and_eq_true] at h
    cases i with
    | zero =>
      have : a = g := by simpa using hg
      subst this
      exact h.1
    | succ i =>
      have := gatesOk_get h.2 i g (by simpa using hg)
      rw [show k + (i + 1) = k + 1 + i from by omega]
      exact this
theorem gatesOk_drop {f : Int} {gs : List (Int × Int)} {k : Nat} {g : Int × Int} (h : gs[k]? = some g) : gatesOk f k (gs.drop k) = (isLit g.1 (f + k) && isLit g.2 (f + k) && gatesOk f (k + 1) (gs.drop (k + 1))) := by
  obtain ⟨hk, rfl⟩ := List.getElem?_eq_some_iff.1 h
  rw [List.drop_eq_getElem_cons hk, gatesOk]
theorem nat_list : ∀ {l : List Int}, (∀ x ∈ l, 0 ≤ x) → ∃ m : List Nat, l = m.map Int.ofNat
  | [], _ => ⟨[], rfl⟩
  | x :: l, h => by
    obtain ⟨m, rfl⟩ := nat_list fun y hy => h y (List.mem_cons_of_mem _ hy)
    obtain ⟨n, rfl⟩ := Int.eq_ofNat_of_zero_le (h x (by simp))
    exact ⟨n :: m, rfl⟩
theorem nat_pairs : ∀ {l : List (Int × Int)}, (∀ x ∈ l, 0 ≤ x.1 ∧ 0 ≤ x.2) → ∃ m : List (Nat × Nat), l = m.map fun g => ((g.1 : Int), (g.2 : Int))
  | [], _ => ⟨[], rfl⟩
  | (a, b) :: l, h => by
    obtain ⟨m, rfl⟩ := nat_pairs fun y hy => h y (List.mem_cons_of_mem _ hy)
    have := h (a, b) (by simp)
    obtain ⟨n, rfl⟩ := Int.eq_ofNat_of_zero_le this.1
    obtain ⟨n', rfl⟩ := Int.eq_ofNat_of_zero_le this.2
    exact ⟨(n, n') :: m, rfl⟩
/-- A valid circuit is one of natural numbers. -/
theorem valid_nat {c : Cz} (h : valid c = true) : ∃ d : Ci, c = toCz d ∧ Ok d := by
  unfold valid at h
  rw [Bool.and_eq_true, Bool.and_eq_true] at h
  obtain ⟨⟨h1, h2⟩, h3⟩ := h
  unfold sizes at h1
  rw [decide_eq_true_eq] at h1
  obtain ⟨h4, h5, h6, h7, h8⟩ := h1
  have hall : ∀ l ∈ c.next ++ c.outs, 0 ≤ l ∧ l < 2 * vars c := fun l hl => by
    have := List.all_eq_true.1 h3 l hl
    unfold isLit at this
    simpa using this
  obtain ⟨i, hi⟩ := Int.eq_ofNat_of_zero_le h4
  obtain ⟨n, hn⟩ := nat_list (l := c.next) fun x hx => (hall x (by simp [hx])).1
  obtain ⟨o, ho⟩ := nat_list (l := c.outs) fun x hx => (hall x (by simp [hx])).1
  have hg : ∀ (k : Nat) (g : Int × Int), c.gates[k]? = some g → (0 ≤ g.1 ∧ g.1 < 2 * (first c + k)) ∧ 0 ≤ g.2 ∧ g.2 < 2 * (first c + k) := fun k g hk => by
    have := gatesOk_get h2 k g hk
    unfold isLit at this
    simpa using this
  obtain ⟨gs, hgs⟩ := nat_pairs (l := c.gates) fun x hx => by
    obtain ⟨k, hk, rfl⟩ := List.mem_iff_getElem.1 hx
    have := hg k _ (List.getElem?_eq_getElem hk)
    exact ⟨this.1.1, this.2.1⟩
  refine ⟨⟨i, n, gs, o⟩, ?_, ?_⟩
  · cases c
    simp only [toCz] at *
    subst hi hn ho hgs
    rfl
  · have e1 : first c = (nfirst ⟨i, n, gs, o⟩ : Nat) := by simp [first, nfirst, hi, hn]
    have e2 : vars c = (nvars ⟨i, n, gs, o⟩ : Nat) := by
      rw [vars, e1, nvars, hgs]; simp
    refine ⟨by simp only; omega, by have := congrArg List.length hn; simp at this; simp only; omega, by have := congrArg List.length hgs; simp at this; simp only; omega, by have := congrArg List.length ho; simp at this; simp only; omega, fun k g hk => ?_, fun l hl => ?_, fun l hl => ?_⟩
    · have := hg k ((g.1 : Int), (g.2 : Int)) (by rw [hgs, List.getElem?_map]; simp only at hk; rw [hk]; rfl)
      rw [e1] at this
      simp only at this
      omega
    · have := hall (l : Int) (by rw [hn]; exact List.mem_append_left _ (List.mem_map.2 ⟨l, hl, rfl⟩))
      rw [e2] at this
      omega
    · have := hall (l : Int) (by rw [ho]; exact List.mem_append_right _ (List.mem_map.2 ⟨l, hl, rfl⟩))
      rw [e2] at this
      omega
/-! ### Values -/
def lit (v : List Bool) (l : Nat) : Bool := v.getD (l / 2) false != (l % 2 == 1)
def gval (v : List Bool) (g : Nat × Nat) : Bool := lit v g.1 && lit v g.2
def evalG (gs : List (Nat × Nat)) (v : List Bool) : List Bool := gs.foldl (fun v g => v ++ [gval v g]) v
/-- The values of all variables. -/
def vals (c : Ci) (st inp : List Bool) : List Bool := evalG c.gates (false :: (inp ++ st))
def lits (v : List Bool) (ls : List Nat) : List Bool := ls.map (lit v)
theorem evalG_length : ∀ (gs : List (Nat × Nat)) (v : List Bool), (evalG gs v).length = v.length + gs.length
  | [], v => rfl
  | g :: gs, v => by
    rw [evalG, List.foldl_cons]
    have := evalG_length gs (v ++ [gval v g])
    rw [evalG] at this
    rw [this]
    simp
    omega
theorem evalG_take_snoc {gs : List (Nat × Nat)} {k : Nat} {g : Nat × Nat} (h : gs[k]? = some g) (v : List Bool) : evalG (gs.take (k + 1)) v = evalG (gs.take k) v ++ [gval (evalG (gs.take k) v) g] := by
  unfold evalG
  rw [List.take_add_one, h, List.foldl_append]
  rfl
theorem vals_length (c : Ci) {st inp : List Bool} (h1 : inp.length = c.ins) (h2 : st.length = c.next.length) : (vals c st inp).length = nvars c := by
  rw [vals, evalG_length]
  simp [nvars, nfirst, h1, h2]
  omega
/-- The lowest n bits. -/
def bits (x n : Nat) : List Bool := (List.range n).map fun i => x.testBit i
/-- The number of some bits, the lowest first. -/
def num : List Bool → Nat
  | [] => 0
  | b :: l => (if b then 1 else 0) + 2 * num l
theorem num_lt : ∀ l : List Bool, num l < 2 ^ l.length
  | [] => by simp [num]
  | b :: l => by
    have := num_lt l
    rw [num, List.length_cons, Nat.pow_succ]
    split <;> omega
def nextOf (c : Ci) (s x : Nat) : Nat := num (lits (vals c (bits s c.next.length) (bits x c.ins)) c.next)
def outsOf (c : Ci) (s x : Nat) : List Bool := lits (vals c (bits s c.next.length) (bits x c.ins)) c.outs
theorem nextOf_lt (c : Ci) (s x : Nat) : nextOf c s x < 2 ^ c.next.length := by
  have := num_lt (lits (vals c (bits s c.next.length) (bits x c.ins)) c.next)
  unfold nextOf
  simpa [lits] using this
end Cir
end Go.Proofs.Ytmlcbikljlhhkaa

namespace Go.Proofs.Ytmlcbikljlhhkaa
open Go.RowKit

/-! Memory: a slice value that reads as a row of cells; a row of the call's own. -/

theorem quietS {P : Program} {f : FuncId} {args : Array Value} {w : World} {n : Nat} {v : Value}
    (h : Calls P f args (w.drewN n) fun e w' => e = .returned v ∧ w.drewN n = w') : Calls P f args (w.drewN n) fun e w'' => e = .returned v ∧ ∃ m, w'' = w.drewN m :=
  h.mono fun _ _ ⟨he, hm⟩ => ⟨he, n, hm.symm⟩

/-- w' is w but for the count of what was drawn. -/
def Drew (w w' : World) : Prop := ∃ m, w' = w.drewN m
theorem Drew.refl (w : World) : Drew w w := ⟨0, rfl⟩
theorem Drew.by (w : World) (m : Nat) : Drew w (w.drewN m) := ⟨m, rfl⟩
theorem Drew.more {w a : World} (h : Drew w a) (n : Nat) : Drew w (a.drewN n) := by
  obtain ⟨m, rfl⟩ := h
  exact ⟨m + n, World.drewN_drewN _ _ _⟩
theorem Drew.trans {w a b : World} (h : Drew w a) (h' : Drew a b) : Drew w b := by
  obtain ⟨n, rfl⟩ := h'
  exact h.more n
theorem Drew.cell {w a : World} (h : Drew w a) (p : Addr) : a.cell? p = w.cell? p := by
  obtain ⟨m, rfl⟩ := h
  rfl
theorem Drew.size {w a : World} (h : Drew w a) : a.heap.size = w.heap.size := by
  obtain ⟨m, rfl⟩ := h
  rfl
theorem Drew.below {w a : World} (h : Drew w a) (B : Nat) : Below B w a := by
  obtain ⟨m, rfl⟩ := h
  exact ⟨rfl, rfl, rfl, Nat.le_refl _, fun _ _ => rfl⟩
theorem quietD {P : Program} {f : FuncId} {args : Array Value} {w : World} {n : Nat} {v : Value}
    (h : Calls P f args (w.drewN n) fun e w' => e = .returned v ∧ Drew (w.drewN n) w') : Calls P f args (w.drewN n) fun e w'' => e = .returned v ∧ ∃ m, w'' = w.drewN m :=
  h.mono fun _ _ ⟨he, m, hm⟩ => ⟨he, n + m, by rw [hm, World.drewN_drewN]⟩

/-- The slice value v has n elements of size cells each, and reads as the cells cs. -/
def Row (w : World) (size : Nat) (v : Value) (n : Nat) (cs : List Value) : Prop :=
  cs.length = n * size ∧ ∃ A c, v = .slice A n c ∧ n ≤ c ∧ c ≤ maxLen ∧
    (0 < n → ∃ b o, A = some ⟨b, o, none⟩ ∧ b < w.heap.size ∧ ∀ j u, cs[j]? = some u → w.cell? ⟨b, o + j, none⟩ = some u)

section
variable {w w' : World} {size n : Nat} {v : Value} {cs : List Value}
theorem Row.len (h : Row w size v n cs) : cs.length = n * size := h.1
theorem Row.shape (h : Row w size v n cs) : ∃ A c, v = .slice A n c ∧ n ≤ c ∧ c ≤ maxLen := by
  obtain ⟨_, A, c, hv, h1, h2, _⟩ := h
  exact ⟨A, c, hv, h1, h2⟩
theorem Row.open (h : Row w size v n cs) (hn : 0 < n) : ∃ b o c, v = .slice (some ⟨b, o, none⟩) n c ∧ n ≤ c ∧ c ≤ maxLen ∧ b < w.heap.size ∧ ∀ j u, cs[j]? = some u → w.cell? ⟨b, o + j, none⟩ = some u := by
  obtain ⟨_, A, c, hv, h1, h2, h3⟩ := h
  obtain ⟨b, o, rfl, hb, hc⟩ := h3 hn
  exact ⟨b, o, c, hv, h1, h2, hb, hc⟩
theorem Row.keep (h : Row w size v n cs) (hs : w.heap.size ≤ w'.heap.size) (hk : ∀ p : Addr, p.block < w.heap.size → w'.cell? p = w.cell? p) : Row w' size v n cs := by
  obtain ⟨h0, A, c, hv, h1, h2, h3⟩ := h
  refine ⟨h0, A, c, hv, h1, h2, fun hn => ?_⟩
  obtain ⟨b, o, hA, hb, hc⟩ := h3 hn
  exact ⟨b, o, hA, by omega, fun j u hu => (hk _ hb).trans (hc j u hu)⟩
theorem Row.below (h : Row w size v n cs) (hb : Below w.heap.size w w') : Row w' size v n cs := h.keep hb.size fun _ hp => hb.cell hp
theorem Row.drew (h : Row w size v n cs) (hd : Drew w w') : Row w' size v n cs := h.below (hd.below _)
theorem Row.drewN (h : Row w size v n cs) (m : Nat) : Row (w.drewN m) size v n cs := h
theorem Row.alloc (h : Row w size v n cs) (o : Obj) : Row (w.alloc o) size v n cs := h.below ((Below.refl _ _).alloc (Nat.le_refl _) o)
theorem Row.of_own {base : Nat} {e : TypeId} (h : w.ownsRow base e size v n cs) : Row w size v n cs := by
  refine ⟨h.1, ?_⟩
  rcases h.2 with ⟨rfl, rfl⟩ | ⟨g, cap, cur, rfl, _, hh, h1, h2, _⟩
  · exact ⟨none, 0, rfl, Nat.le_refl _, Nat.zero_le _, fun h => absurd h (by omega)⟩
  · refine ⟨_, cap, rfl, h1, h2, fun _ => ⟨g, 0, rfl, ?_, fun j u hu => ?_⟩⟩
    · rcases Nat.lt_or_ge g w.heap.size with hl | hl
      · exact hl
      · rw [Array.getElem?_eq_none hl] at hh; cases hh
    · have := h.cells (g := g) rfl j u hu
      rw [Nat.zero_add]
      by_cases hj : j = 0
      · subst hj; exact this
      · simpa [Addr.add, hj] using this
theorem Row.nil (w : World) (size : Nat) : Row w size (.slice none 0 0) 0 [] :=
  ⟨by simp, none, 0, rfl, Nat.le_refl _, Nat.zero_le _, fun h => absurd h (by omega)⟩
end

/-- The numbers as cells. -/
def ints (xs : List Int) : List Value := xs.map (Value.int .i64)
def IntsAt (w : World) (v : Value) (xs : List Int) : Prop := Row w 1 v xs.length (ints xs)
theorem ints_length (xs : List Int) : (ints xs).length = xs.length := List.length_map _
theorem ints_at {xs : List Int} {i : Nat} (h : i < xs.length) : ∃ x, xs[i]? = some x ∧ (ints xs)[i]? = some (.int .i64 x) :=
  ⟨xs[i], List.getElem?_eq_getElem h, by simp [ints, h]⟩
theorem ints_get {xs : List Int} {i : Nat} (h : i < xs.length) : (ints xs)[i]? = some (.int .i64 (xs.getD i 0)) := by
  simp [ints, h, List.getD_eq_getElem?_getD]

/-- An argument that is a slice of integers. -/
theorem Row.given {w : World} {k : IntKind} {a : Option Addr} {len cap : Nat} {zs : List Int}
    (h : (a = none ∧ len = 0 ∧ cap = 0 ∧ zs = []) ∨
      ∃ x, a = some x ∧ len ≤ cap ∧ cap ≤ maxLen ∧ zs.length = cap ∧ (∀ i, i < zs.length → w.cell? (x.add i) = some (.int k (zs.getD i 0))) ∧ ∀ n ∈ zs, (Lit.int k n).wf = true) :
    ∃ xs : List Int, xs.length = len ∧ (∀ n ∈ xs, (Lit.int k n).wf = true) ∧ Row w 1 (.slice a len cap) len (xs.map (Value.int k)) := by
  rcases h with ⟨rfl, rfl, rfl, rfl⟩ | ⟨x, rfl, h1, h2, h3, h4, h5⟩
  · exact ⟨[], rfl, by simp, Row.nil w 1⟩
  · refine ⟨zs.take len, by simp; omega, fun n hn => h5 n (List.mem_of_mem_take hn), by simp; omega, some x, cap, rfl, h1, h2, fun hp => ?_⟩
    obtain ⟨b, off, spot⟩ := x
    have h0 := h4 0 (by omega)
    have hspot : spot = none := by simpa [Addr.add] using World.cell?_spot h0
    subst hspot
    refine ⟨b, off, rfl, ?_, fun j u hu => ?_⟩
    · rcases Nat.lt_or_ge b w.heap.size with hl | hl
      · exact hl
      · simp [World.cell?, Addr.add, Array.getElem?_eq_none hl] at h0
    · have hj : j < len := by
        obtain ⟨hj, _⟩ := List.getElem?_eq_some_iff.1 hu
        simp at hj; omega
      rw [← Go.WideShapes.add_plain, h4 j (by omega), ← hu]
      simp [List.getElem?_take, hj, List.getD_eq_getElem?_getD, show j < zs.length from by omega]

/-- A row of the call's own that is not empty. -/
theorem own_open {w : World} {base : Nat} {e : TypeId} {size n : Nat} {v : Value} {cs : List Value} (h : w.ownsRow base e size v n cs) (hn : 0 < n) :
    ∃ g c, v = .slice (some ⟨g, 0, none⟩) n c ∧ base ≤ g ∧ g < w.heap.size ∧ n ≤ c ∧ c ≤ maxLen := by
  rcases h.2 with ⟨rfl, rfl⟩ | ⟨g, cap, cur, rfl, hb, hh, h1, h2, _⟩
  · omega
  · refine ⟨g, cap, rfl, hb, ?_, h1, h2⟩
    rcases Nat.lt_or_ge g w.heap.size with hl | hl
    · exact hl
    · rw [Array.getElem?_eq_none hl] at hh; cases hh

theorem own_slot {w : World} {base : Nat} {e : TypeId} {size n cap g : Nat} {cs : List Value} (h : w.ownsRow base e size (.slice (some ⟨g, 0, none⟩) n cap) n cs) {j : Nat} (hj : j < n * size) :
    ∃ u, cs[j]? = some u ∧ w.cell? ⟨g, j, none⟩ = some u ∧ w.frozen? ⟨g, j, none⟩ = false := by
  have hl := h.1
  refine ⟨cs[j]'(by omega), List.getElem?_eq_getElem _, ?_, h.frozenAt j⟩
  rw [h.cellAt j hj, List.getElem?_eq_getElem]
/-- A cell of a slice literal of numbers between lo and hi. -/
theorem lit_cell (w : World) (L : List Int) (t : TypeId) (lo hi : Int) (hL : ∀ x ∈ L, lo ≤ x ∧ x ≤ hi) (i : Nat) (h : i < L.length) :
    ∃ v : Int, lo ≤ v ∧ v ≤ hi ∧ (w.alloc (.cells (L.map (Value.int .i64)).toArray t)).cell? ⟨w.heap.size, i, none⟩ = some (.int .i64 v) := by
  have hm := hL L[i] (List.getElem_mem h)
  refine ⟨L[i], hm.1, hm.2, ?_⟩
  rw [cell_of_row _ _ i _ t (0, 0) (heap_alloc_new w _)]
  simp [h]
/-- A row of the call's own below what changes. -/
theorem own_below {w w' : World} {base : Nat} {e : TypeId} {size n : Nat} {v : Value} {cs : List Value} (h : w.ownsRow base e size v n cs) (hb : Below w.heap.size w w') : w'.ownsRow base e size v n cs := by
  refine h.kept (row := none) ⟨hb.os, hb.tape, hb.output, hb.size, fun k hk _ => hb.block k hk⟩ ?_
  cases hv : v.ownBlock with
  | none => exact .inl rfl
  | some q => exact .inr (by simp)
theorem take_set_succ {α : Type} {cs L : List α} {k : Nat} {u : α} (hk : k < cs.length) (h : cs.take k = L.take k) (hu : L[k]? = some u) : (cs.set k u).take (k + 1) = L.take (k + 1) := by
  apply List.ext_getElem?
  intro j
  have hj := congrArg (fun l => l[j]?) h
  simp only [List.getElem?_take, List.getElem?_set] at hj ⊢
  by_cases h1 : j < k
  · simpa [h1, Nat.lt_succ_of_lt h1, Nat.ne_of_gt h1] using hj
  · by_cases h2 : j = k
    · subst h2; simp [hk, hu]
    · simp [show ¬ j < k + 1 from by omega]
theorem take_snoc {α : Type} {xs : List α} {k : Nat} {x : α} (h : xs[k]? = some x) : xs.take (k + 1) = xs.take k ++ [x] := by
  rw [List.take_add_one, h]; rfl
theorem take_ne {α : Type} {xs ys : List α} {k : Nat} {x y : α} (h : xs[k]? = some x) (h' : ys[k]? = some y) (hn : x ≠ y) : xs ≠ ys := by
  rintro rfl
  rw [h] at h'
  exact hn (Option.some.inj h')
section
variable {P : Program}
/-- append to a row of the call's own, whatever the source: nil, empty or not. -/
theorem run_append_row (w : World) (base : Nat) (t ty e : TypeId) (i : TypeInfo) (z : Value) (size bytes : Nat) (ht : P.underlying t = some (.slice e)) (hi : P.info? e = some i) (hz : i.zero = some z)
    (hsize : i.size = size) (hby : i.bytes = bytes) (hzs : z.cells.size = size) (hsz : 0 < size)
    (v : Value) (n : Nat) (xs : List Value) (hown : w.ownsRow base e size v n xs) (sv : Value) (m : Nat) (news : List Value) (hr : Row w size sv m news) (h1 : ∀ u ∈ news, u.oneCell' = true)
    (h63 : n + m ≤ maxLen) (hbytes : (n + m) * bytes ≤ 140737488355328) (hbase : base ≤ w.heap.size) :
    ∃ v' w', (Builtin.append_ #[t, t] ty #[v, sv]).run P w = .ok v' w' ∧ w'.ownsRow base e size v' (n + m) (xs ++ news) ∧ w.grownBy w' v.ownBlock := by
  obtain ⟨hl, A, c, rfl, hc1, hc2, hcell⟩ := hr
  cases A with
  | none =>
    have hm : m = 0 := by
      rcases Nat.eq_zero_or_pos m with h0 | h0
      · exact h0
      · obtain ⟨b, o, h, _⟩ := hcell h0
        cases h
    subst hm
    have hn : news = [] := List.eq_nil_of_length_eq_zero (by simpa using hl)
    subst hn
    refine ⟨v, w, ?_, by simpa using hown, World.grownBy.refl w _⟩
    rcases hown.2 with ⟨rfl, rfl⟩ | ⟨g, cap, cur, rfl, _, _, hnc, _⟩
    · simp [Builtin.append_, run_underlying ht, sizeOf, typeInfo, hi, Builtin.lenOf, Builtin.firstCells]
    · simp [Builtin.append_, run_underlying ht, sizeOf, typeInfo, hi, Builtin.lenOf, Builtin.firstCells, hnc, storeCells]
  | some ad =>
    obtain ⟨v', w', hrun, hown', hgr, _⟩ := run_append_own (P := P) w base t ty e i z size bytes ht hi hz hsize hby hzs hsz v n xs hown ad m c news hl (fun j u hj => by
      have hm : 0 < m := by
        obtain ⟨hj', _⟩ := List.getElem?_eq_some_iff.1 hj
        rcases Nat.eq_zero_or_pos m with h0 | h0
        · subst h0; omega
        · exact h0
      obtain ⟨b, o, hA, _, hc⟩ := hcell hm
      obtain rfl := Option.some.inj hA
      rw [Go.WideShapes.add_plain]
      exact hc j u hj) h1 h63 hbytes hbase
    exact ⟨v', w', hrun, hown', hgr⟩
theorem wpList_append_row {w : World} {ops : Array Oper} {rest : List Oper} {o : Oper} {a : Act} {Q : Exit → Act → World → Prop} (hgd : o.guard = none) (s x : Operand) (t : TypeId)
    (ho : o.op = .call { callee := .builtin .append, args := #[s, x], argTypes := #[t, t] })
    (base : Nat) (e : TypeId) (i : TypeInfo) (z : Value) (size bytes : Nat) (ht : P.underlying t = some (.slice e)) (hi : P.info? e = some i) (hz : i.zero = some z)
    (hsize : i.size = size) (hby : i.bytes = bytes) (hzs : z.cells.size = size) (hsz : 0 < size)
    (v : Value) (n : Nat) (xs : List Value) (hs : a.eval s = v) (hown : w.ownsRow base e size v n xs) (sv : Value) (m : Nat) (news : List Value) (hx : a.eval x = sv) (hr : Row w size sv m news) (h1 : ∀ u ∈ news, u.oneCell' = true)
    (h63 : n + m ≤ maxLen) (hbytes : (n + m) * bytes ≤ 140737488355328) (hbase : base ≤ w.heap.size)
    (h : ∀ v' w', w'.ownsRow base e size v' (n + m) (xs ++ news) → w.grownBy w' v.ownBlock → wpList P ops Q rest (a.put o.dst v') w') : wpList P ops Q (o :: rest) a w := by
  obtain ⟨v', w', hrun, h2, h3⟩ := run_append_row (P := P) w base t o.type e i z size bytes ht hi hz hsize hby hzs hsz v n xs hown sv m news hr h1 h63 hbytes hbase
  refine wpList_plain hgd fun K hK => ?_
  unfold Oper.wp execOp
  simp only [ho, resolve, invoke, builtin, Sem.run_bind, Sem.run_pure, Result.andThen_ok, List.map_toArray, List.map_cons, List.map_nil, hs, hx, hrun]
  exact hK _ _ (h v' w' h2 h3)
end
theorem blk_cell {w : World} {g : Nat} {cs : Array Value} {t : TypeId} (h : w.heap[g]? = some (.cells cs t (0, 0))) (i : Nat) : w.cell? ⟨g, i, none⟩ = cs[i]? := cell_of_row w g i cs t (0, 0) h
theorem blk_free {w : World} {g : Nat} {cs : Array Value} {t : TypeId} (h : w.heap[g]? = some (.cells cs t (0, 0))) (i : Nat) : w.frozen? ⟨g, i, none⟩ = false := by simp [World.frozen?, h]
theorem bel_drewN {B : Nat} {a w : World} (h : Below B a w) (n : Nat) : Below B a (w.drewN n) := ⟨h.os, h.tape, h.output, h.size, h.block⟩
theorem below_cell {W w1 : World} (hb : Below W.heap.size W w1) : (∀ b o, b < W.heap.size → w1.cell? ⟨b, o, none⟩ = W.cell? ⟨b, o, none⟩) ∧ (∀ b o, b < W.heap.size → w1.frozen? ⟨b, o, none⟩ = W.frozen? ⟨b, o, none⟩) :=
  ⟨fun b o h => hb.cell (p := ⟨b, o, none⟩) h, fun b o h => hb.frozen (p := ⟨b, o, none⟩) h⟩
end Go.Proofs.Ytmlcbikljlhhkaa

namespace Go.Proofs.Ytmlcbikljlhhkaa
open Go.RowKit
/-! Slices whose elements are pairs of ints. -/
/-- The cubes as cells. -/
def cubes (ks : List (Int × Int)) : List Value := ks.flatMap fun k => [.int .i64 k.1, .int .i64 k.2]
theorem cubes_length (ks : List (Int × Int)) : (cubes ks).length = ks.length * 2 := by
  induction ks with
  | nil => rfl
  | cons k ks ih => simp [cubes] at ih ⊢; omega
theorem cubes_append (a b : List (Int × Int)) : cubes (a ++ b) = cubes a ++ cubes b := by simp [cubes]
theorem cubes_get {ks : List (Int × Int)} {i : Nat} {k : Int × Int} (h : ks[i]? = some k) : (cubes ks)[i * 2]? = some (.int .i64 k.1) ∧ (cubes ks)[i * 2 + 1]? = some (.int .i64 k.2) := by
  induction ks generalizing i with
  | nil => simp at h
  | cons a ks ih =>
    cases i with
    | zero =>
      have : a = k := by simpa using h
      subst this
      simp [cubes]
    | succ i =>
      have := ih (i := i) (by simpa using h)
      have e : (i + 1) * 2 = i * 2 + 1 + 1 := by omega
      rw [e]
      simpa [cubes] using this
def CubesAt (w : World) (v : Value) (ks : List (Int × Int)) : Prop := Row w 2 v ks.length (cubes ks)
theorem at_some {α : Type} {xs : List α} {i : Nat} (h : i < xs.length) : ∃ x, xs[i]? = some x := ⟨xs[i], List.getElem?_eq_getElem h⟩
/-- A cube of a slice, where it lies. -/
theorem cubes_open {w wr : World} {A : Option Addr} {n c : Nat} {ks : List (Int × Int)} (h : Row w 2 (.slice A n c) n (cubes ks)) (hb : Below w.heap.size w wr) {i : Nat} (hn : n = ks.length) (hi : i < ks.length) :
    ∃ b o k, A = some ⟨b, o, none⟩ ∧ b < w.heap.size ∧ Hid (ks[i]? = some k) ∧ wr.cell? ⟨b, o + i * 2, none⟩ = some (.int .i64 k.1) ∧ wr.cell? ⟨b, o + i * 2 + 1, none⟩ = some (.int .i64 k.2) := by
  subst hn
  obtain ⟨b, o, c', hv, _, _, hbl, hcell⟩ := h.open (by omega)
  obtain ⟨rfl, _⟩ : A = some ⟨b, o, none⟩ ∧ True := by injection hv with e1; exact ⟨e1, trivial⟩
  obtain ⟨k, hk⟩ := at_some hi
  obtain ⟨h1, h2⟩ := cubes_get hk
  refine ⟨b, o, k, rfl, hbl, Lib.hid hk, (hb.cell (p := ⟨b, _, none⟩) hbl).trans (hcell _ _ h1), ?_⟩
  rw [Nat.add_assoc]
  exact (hb.cell (p := ⟨b, _, none⟩) hbl).trans (hcell _ _ h2)

theorem run_make_any {P : Program} (t e : TypeId) (z : Value) (size bytes : Nat) (ht : P.underlying t = some (.slice e)) (hinfo : (P.info? e).map (fun i => (i.zero, i.size, i.bytes)) = some (some z, size, bytes))
    (kl kc : IntKind) (n : Nat) (hbytes : bytes * n ≤ 281474976710656) (h63 : n ≤ 9223372036854775807) (w : World) :
    (Instr.makeSlice t (.int kl (n : Int)) (.int kc (n : Int))).run P w = .ok (.slice (some ⟨w.heap.size, 0, none⟩) n n) (w.alloc (.cells (madeCells z.cells (n * size)) e)) := by
  obtain ⟨i, hi, hzz⟩ := Option.map_eq_some_iff.1 hinfo
  simp only [Prod.mk.injEq] at hzz
  obtain ⟨hz, hs, hb⟩ := hzz
  have hb' : (i.bytes : Int) * (n : Int) ≤ 281474976710656 := by
    have h : ((i.bytes * n : Nat) : Int) ≤ 281474976710656 := by rw [hb]; omega
    rwa [Int.natCast_mul] at h
  have hr := run_make (P := P) w t e i z ht hi hz kl kc n n (by omega) (Int.le_refl _) hb' (by omega)
  simp only [Int.toNat_natCast, hs] at hr
  exact hr
theorem take_set2 {α : Type} {cs L : List α} {k : Nat} {u v : α} (hk : k * 2 + 1 < cs.length) (h : cs.take (k * 2) = L.take (k * 2)) (hu : L[k * 2]? = some u) (hv : L[k * 2 + 1]? = some v) : ((cs.set (k * 2) u).set (k * 2 + 1) v).take ((k + 1) * 2) = L.take ((k + 1) * 2) := by
  have h1 := take_set_succ (by omega) h hu
  have h2 := take_set_succ (cs := cs.set (k * 2) u) (by simp; omega) h1 hv
  rw [show (k + 1) * 2 = k * 2 + 1 + 1 from by omega]
  exact h2

def bools (xs : List Bool) : List Value := xs.map Value.bool
def BoolsAt (w : World) (v : Value) (xs : List Bool) : Prop := Row w 1 v xs.length (bools xs)
theorem bools_length (xs : List Bool) : (bools xs).length = xs.length := List.length_map _
theorem bools_at {xs : List Bool} {i : Nat} (h : i < xs.length) : ∃ x, xs[i]? = some x ∧ (bools xs)[i]? = some (.bool x) :=
  ⟨xs[i], List.getElem?_eq_getElem h, by simp [bools, h]⟩
end Go.Proofs.Ytmlcbikljlhhkaa

namespace Go.Proofs.Ytmlcbikljlhhkaa
open Go.RowKit
/-! What laws do with slices of ints. -/
theorem info_int : (Try.prog.info? 3).map (fun i => (i.zero, i.size, i.bytes)) = some (some (.int .i64 0), 1, 8) := by kernel_rfl

theorem toIntS_any (v : Value) (xs : List Int) (w : World) (h : IntsAt w v xs) (hlen : xs.length ≤ 1048576) :
    Calls Try.prog 21 #[v] w
      fun e w' => ∃ v', e = .returned v' ∧ w'.ownsRow w.heap.size 3 1 v' xs.length (ints xs) ∧ Below w.heap.size w w' := by
  have hmk := run_make_row' (P := Try.prog) 22 3 (.int .i64 0) 8 Try.underlying22 info_int rfl .i64 .i64 xs.length (by omega) (by omega)
  obtain ⟨A, c, hv, hc, hcm⟩ := h.shape
  subst hv
  go_enter Try.func21, Try.ntmps21
  go_wp2
  have hr0 := h.alloc (.cells (madeCells #[Value.int .i64 0] xs.length) 3)
  have hown0 := World.ownsRow_lit (base := w.heap.size) (e := 3) (size := 1) w (madeCells #[Value.int .i64 0] xs.length) xs.length (Nat.le_refl _) (by unfold maxLen; omega) (by simp [madeCells])
  have hb0 : Below w.heap.size w (w.alloc (.cells (madeCells #[Value.int .i64 0] xs.length) 3)) := (Below.refl _ _).alloc (Nat.le_refl _) _
  go_loopw [4] (fun i wr => ∃ (k : Nat) (cs : List Value), k ≤ xs.length ∧ i = .int .i64 k ∧ wr.ownsRow w.heap.size 3 1 (.slice (some ⟨w.heap.size, 0, none⟩) xs.length xs.length) xs.length cs ∧ cs.take k = (ints xs).take k ∧ Below w.heap.size w wr)
    (fun i _ => xs.length - (intOf i).toNat)
  case atStart => exact ⟨0, _, Nat.zero_le _, rfl, hown0, rfl, hb0⟩
  case round =>
    obtain ⟨k, cs, hk, rfl, hown, htk, hb⟩ := hrel
    clear hmk hr0 hown0 hb0
    by_cases hlt : k < xs.length
    · obtain ⟨b, o, c', hv, _, _, hbl, hcell⟩ := h.open (by omega)
      obtain ⟨rfl, _⟩ : A = some ⟨b, o, none⟩ ∧ True := by injection hv with e1; exact ⟨e1, trivial⟩
      obtain ⟨x, hx, hs⟩ := ints_at hlt
      have hsrc : wr.cell? ⟨b, o + k, none⟩ = some (.int .i64 x) := (hb.cell (p := ⟨b, o + k, none⟩) hbl).trans (hcell k _ hs)
      have hl := hown.1
      obtain ⟨u0, _, hd, hf⟩ := own_slot hown (j := k) (by omega)
      have Hown := Lib.hid (hown.stored k (.int .i64 x)).1
      have Hstep := Lib.hid (take_set_succ (by omega) htk hs)
      clear hcell hv hx hs hl htk hown h
      go_wp2
      go_roundw
      case rel => exact ⟨k + 1, _, by omega, by go_num, Hown.out, Hstep.out, hb.setCell (Nat.le_refl _) _⟩
      case measure => simp [intOf]; omega
    · go_wp2
      go_ret
      have e : cs = ints xs := by
        have hl := hown.1
        rw [List.take_of_length_le (by omega), List.take_of_length_le (by rw [ints_length]; omega)] at htk
        exact htk
      exact ⟨_, rfl, e ▸ hown, hb⟩

theorem eqIntS_any (v v2 : Value) (xs ys : List Int) (w : World) (h : IntsAt w v xs) (h2 : IntsAt w v2 ys) (hlen : xs.length ≤ 1048576) :
    Calls Try.prog 23 #[v, v2] w
      fun e w' => e = .returned (.bool (decide (xs = ys))) ∧ Drew w w' := by
  obtain ⟨A, c, hv, hc, hcm⟩ := h.shape
  obtain ⟨A2, c2, hv2, hc2, hcm2⟩ := h2.shape
  subst hv hv2
  by_cases he : xs.length = ys.length
  · have hb := Lib.hid he
    have he1 : ((xs.length : Int) != (ys.length : Int)) = false := by rw [he]; simp
    have he2 : xs.length ≤ ys.length := by omega
    clear he
    go_enter Try.func23, Try.ntmps23
    go_wp2
    go_loopw [5] (fun i wr => ∃ (k : Nat), k ≤ xs.length ∧ i = .int .i64 k ∧ xs.take k = ys.take k ∧ Drew w wr)
      (fun i _ => xs.length - (intOf i).toNat)
    case atStart => exact ⟨0, Nat.zero_le _, rfl, rfl, Drew.refl _⟩
    case round =>
      obtain ⟨k, hk, rfl, htk, hd⟩ := hrel
      by_cases hlt : k < xs.length
      · obtain ⟨b, o, c', hv, _, _, hbl, hcell⟩ := h.open (by omega)
        obtain ⟨rfl, _⟩ : A = some ⟨b, o, none⟩ ∧ True := by injection hv with e1; exact ⟨e1, trivial⟩
        obtain ⟨b2, o2, c2', hv2, _, _, hbl2, hcell2⟩ := h2.open (by omega)
        obtain ⟨rfl, _⟩ : A2 = some ⟨b2, o2, none⟩ ∧ True := by injection hv2 with e1; exact ⟨e1, trivial⟩
        obtain ⟨x, hx, hs⟩ := ints_at hlt
        obtain ⟨y, hy, hs2⟩ := ints_at (xs := ys) (i := k) (by omega)
        have hsrc : wr.cell? ⟨b, o + k, none⟩ = some (.int .i64 x) := (hd.cell _).trans (hcell k _ hs)
        have hsrc2 : wr.cell? ⟨b2, o2 + k, none⟩ = some (.int .i64 y) := (hd.cell _).trans (hcell2 k _ hs2)
        have Hx := Lib.hid hx
        have Hy := Lib.hid hy
        have Ht := Lib.hid htk
        clear hcell hcell2 hv hv2 hs hs2 hx hy htk h h2
        go_wp2
        go_quiet (fail)
        go_wp2
        · go_ret
          have hn : x ≠ y := bne_iff_ne.1 (by assumption)
          exact ⟨ret_bool (decide_eq_false (take_ne Hx.out Hy.out hn)).symm, hd.more _⟩
        · go_roundw
          case rel =>
            have hn : x = y := by have hz : (x != y) = false := by assumption
                                  simpa using hz
            exact ⟨k + 1, by omega, by go_num, by rw [take_snoc Hx.out, take_snoc Hy.out, Ht.out, hn], hd.more _⟩
          case measure => simp [intOf]; omega
      · go_wp2
        go_ret
        have e : xs = ys := by
          rw [List.take_of_length_le (by omega), List.take_of_length_le (by have := hb.out; omega)] at htk
          exact htk
        exact ⟨ret_bool (decide_eq_true e).symm, hd⟩
  · have hn : xs ≠ ys := fun e => he (by rw [e])
    have Hn := Lib.hid hn
    have he1 : ((xs.length : Int) != (ys.length : Int)) = true := by rw [bne_iff_ne]; omega
    clear he hn
    go_enter Try.func23, Try.ntmps23
    go_wp2
    go_ret
    exact ⟨ret_bool (decide_eq_false Hn.out).symm, Drew.refl _⟩
theorem szIntS_ok (v : Value) (n : Nat) (cs : List Value) (w : World) (left : Int) (h : Row w 1 v n cs) (hl : left ≤ 1048576) (hn : (n : Int) ≤ left) :
    Calls Try.prog 57 #[v, .int .i64 left] w
      fun e w' => e = .returned (.int .i64 (left - n)) ∧ w = w' := by
  obtain ⟨A, c, hv, hc, hcm⟩ := h.shape
  subst hv
  unfold maxLen at hcm
  have h0 : 0 ≤ left - n := by omega
  go_enter Try.func57, Try.ntmps57
  go_wp2
  go_ret
  exact ⟨rfl, rfl⟩
theorem szIntS_no (v : Value) (n : Nat) (cs : List Value) (w : World) (left : Int) (h : Row w 1 v n cs) (hl : 0 ≤ left) (hl2 : left ≤ 1048576) (hn : left < n) :
    Calls Try.prog 57 #[v, .int .i64 left] w
      fun e w' => e = .returned (.int .i64 (-1)) ∧ w = w' := by
  obtain ⟨A, c, hv, hc, hcm⟩ := h.shape
  subst hv
  unfold maxLen at hcm
  have h0 : left - n < 0 := by omega
  go_enter Try.func57, Try.ntmps57
  go_wp2
  go_ret
  exact ⟨rfl, rfl⟩
end Go.Proofs.Ytmlcbikljlhhkaa

namespace Go.Proofs.Ytmlcbikljlhhkaa
open Go.RowKit
/-! append to a row of the call's own: where the new row lies. -/
section
variable {P : Program}
theorem run_append_row_at (w : World) (base : Nat) (t ty e : TypeId) (i : TypeInfo) (z : Value) (size bytes : Nat) (ht : P.underlying t = some (.slice e)) (hi : P.info? e = some i) (hz : i.zero = some z)
    (hsize : i.size = size) (hby : i.bytes = bytes) (hzs : z.cells.size = size) (hsz : 0 < size)
    (v : Value) (n : Nat) (xs : List Value) (hown : w.ownsRow base e size v n xs) (sv : Value) (m : Nat) (news : List Value) (hr : Row w size sv m news) (h1 : ∀ u ∈ news, u.oneCell' = true)
    (h63 : n + m ≤ maxLen) (hbytes : (n + m) * bytes ≤ 140737488355328) (hbase : base ≤ w.heap.size) :
    ∃ v' w', (Builtin.append_ #[t, t] ty #[v, sv]).run P w = .ok v' w' ∧ w'.ownsRow base e size v' (n + m) (xs ++ news) ∧ w.grownBy w' v.ownBlock ∧ (v'.ownBlock = v.ownBlock ∨ v'.ownBlock = some w.heap.size) := by
  obtain ⟨hl, A, c, rfl, hc1, hc2, hcell⟩ := hr
  cases A with
  | none =>
    have hm : m = 0 := by
      rcases Nat.eq_zero_or_pos m with h0 | h0
      · exact h0
      · obtain ⟨b, o, h, _⟩ := hcell h0
        cases h
    subst hm
    have hn : news = [] := List.eq_nil_of_length_eq_zero (by simpa using hl)
    subst hn
    refine ⟨v, w, ?_, by simpa using hown, World.grownBy.refl w _, .inl rfl⟩
    rcases hown.2 with ⟨rfl, rfl⟩ | ⟨g, cap, cur, rfl, _, _, hnc, _⟩
    · simp [Builtin.append_, run_underlying ht, sizeOf, typeInfo, hi, Builtin.lenOf, Builtin.firstCells]
    · simp [Builtin.append_, run_underlying ht, sizeOf, typeInfo, hi, Builtin.lenOf, Builtin.firstCells, hnc, storeCells]
  | some ad =>
    obtain ⟨v', w', hrun, hown', hgr, _, hat⟩ := run_append_own_at (P := P) w base t ty e i z size bytes ht hi hz hsize hby hzs hsz v n xs hown ad m c news hl (fun j u hj => by
      have hm : 0 < m := by
        obtain ⟨hj', _⟩ := List.getElem?_eq_some_iff.1 hj
        rcases Nat.eq_zero_or_pos m with h0 | h0
        · subst h0; omega
        · exact h0
      obtain ⟨b, o, hA, _, hc⟩ := hcell hm
      obtain rfl := Option.some.inj hA
      rw [Go.WideShapes.add_plain]
      exact hc j u hj) h1 h63 hbytes hbase
    exact ⟨v', w', hrun, hown', hgr, hat⟩
theorem wpList_append_at {w : World} {ops : Array Oper} {rest : List Oper} {o : Oper} {a : Act} {Q : Exit → Act → World → Prop} (hgd : o.guard = none) (s x : Operand) (t : TypeId)
    (ho : o.op = .call { callee := .builtin .append, args := #[s, x], argTypes := #[t, t] })
    (base : Nat) (e : TypeId) (i : TypeInfo) (z : Value) (size bytes : Nat) (ht : P.underlying t = some (.slice e)) (hi : P.info? e = some i) (hz : i.zero = some z)
    (hsize : i.size = size) (hby : i.bytes = bytes) (hzs : z.cells.size = size) (hsz : 0 < size)
    (v : Value) (n : Nat) (xs : List Value) (hs : a.eval s = v) (hown : w.ownsRow base e size v n xs) (sv : Value) (m : Nat) (news : List Value) (hx : a.eval x = sv) (hr : Row w size sv m news) (h1 : ∀ u ∈ news, u.oneCell' = true)
    (h63 : n + m ≤ maxLen) (hbytes : (n + m) * bytes ≤ 140737488355328) (hbase : base ≤ w.heap.size)
    (h : ∀ v' w', w'.ownsRow base e size v' (n + m) (xs ++ news) → w.grownBy w' v.ownBlock → (v'.ownBlock = v.ownBlock ∨ v'.ownBlock = some w.heap.size) → wpList P ops Q rest (a.put o.dst v') w') : wpList P ops Q (o :: rest) a w := by
  obtain ⟨v', w', hrun, h2, h3, h4⟩ := run_append_row_at (P := P) w base t o.type e i z size bytes ht hi hz hsize hby hzs hsz v n xs hown sv m news hr h1 h63 hbytes hbase
  refine wpList_plain hgd fun K hK => ?_
  unfold Oper.wp execOp
  simp only [ho, resolve, invoke, builtin, Sem.run_bind, Sem.run_pure, Result.andThen_ok, List.map_toArray, List.map_cons, List.map_nil, hs, hx, hrun]
  exact hK _ _ (h v' w' h2 h3 h4)
end
theorem own_mono {w : World} {base base' n size : Nat} {e : TypeId} {v : Value} {xs : List Value} (h : w.ownsRow base e size v n xs) (hb : base' ≤ base) : w.ownsRow base' e size v n xs :=
  ⟨h.1, h.2.imp id fun ⟨g, cap, cur, h1, h2, h3⟩ => ⟨g, cap, cur, h1, Nat.le_trans hb h2, h3⟩⟩
theorem own_kept {w w' : World} {base n size : Nat} {e : TypeId} {v : Value} {xs : List Value} {row : Option Nat} (h : w.ownsRow base e size v n xs) (hg : w.grownBy w' row) (hne : ∀ g, v.ownBlock = some g → row ≠ some g) : w'.ownsRow base e size v n xs :=
  h.kept hg (by
    cases hv : v.ownBlock with
    | none => exact .inl rfl
    | some g => exact .inr fun e => hne g hv e.symm)
end Go.Proofs.Ytmlcbikljlhhkaa

namespace Go.Proofs.Ytmlcbikljlhhkaa
open Go.RowKit
section
variable {P : Program}
theorem step_append_at {w : World} {ops : Array Oper} {o : Oper} {a : Act} {K : Act → World → Prop} {Q : Exit → Act → World → Prop} {E : Prop} (hgd : o.guard = none) (s x : Operand) (t : TypeId)
    (ho : o.op = .call { callee := .builtin .append, args := #[s, x], argTypes := #[t, t] })
    (base : Nat) (e : TypeId) (i : TypeInfo) (z : Value) (size bytes : Nat) (ht : P.underlying t = some (.slice e)) (hi : P.info? e = some i) (hz : i.zero = some z)
    (hsize : i.size = size) (hby : i.bytes = bytes) (hzs : z.cells.size = size) (hsz : 0 < size)
    (v : Value) (n : Nat) (xs : List Value) (hs : a.eval s = v) (hown : w.ownsRow base e size v n xs) (sv : Value) (m : Nat) (news : List Value) (hx : a.eval x = sv) (hr : Row w size sv m news) (h1 : ∀ u ∈ news, u.oneCell' = true)
    (h63 : n + m ≤ maxLen) (hbytes : (n + m) * bytes ≤ 140737488355328) (hbase : base ≤ w.heap.size)
    (h : ∀ v' w', w'.ownsRow base e size v' (n + m) (xs ++ news) → w.grownBy w' v.ownBlock → K (a.put o.dst v') w') : if Region.wanted o (yielded ops a.tmps) = true then Oper.wp P o a w K Q else E := by
  have hw : Region.wanted o (yielded ops a.tmps) = true := by simp [Region.wanted, hgd]
  rw [if_pos hw]
  obtain ⟨v', w', hrun, h2, h3, h4⟩ := run_append_row_at (P := P) w base t o.type e i z size bytes ht hi hz hsize hby hzs hsz v n xs hown sv m news hr h1 h63 hbytes hbase
  unfold Oper.wp execOp
  simp only [ho, resolve, invoke, builtin, Sem.run_bind, Sem.run_pure, Result.andThen_ok, List.map_toArray, List.map_cons, List.map_nil, hs, hx, hrun]
  exact h v' w' h2 h3
end
end Go.Proofs.Ytmlcbikljlhhkaa

namespace Go.Proofs.Ytmlcbikljlhhkaa
open Go.RowKit
set_option maxRecDepth 100000
/-! Slices of ints of the call's own; small lemmas. -/
theorem append_ints {w : World} {ops : Array Oper} {rest : List Oper} {o : Oper} {a : Act} {Q : Exit → Act → World → Prop} (hgd : o.guard = none) (s x : Operand)
    (ho : o.op = .call { callee := .builtin .append, args := #[s, x], argTypes := #[22, 22] })
    (base : Nat) (v : Value) (n : Nat) (xs : List Value) (hs : a.eval s = v) (hown : w.ownsRow base 3 1 v n xs) (sv : Value) (m : Nat) (news : List Value) (hx : a.eval x = sv) (hr : Row w 1 sv m news) (h1 : ∀ u ∈ news, u.oneCell' = true)
    (h63 : n + m ≤ 10000000) (hbase : base ≤ w.heap.size)
    (h : ∀ v' w', w'.ownsRow base 3 1 v' (n + m) (xs ++ news) → w.grownBy w' v.ownBlock → (v'.ownBlock = v.ownBlock ∨ v'.ownBlock = some w.heap.size) → wpList Try.prog ops Q rest (a.put o.dst v') w') : wpList Try.prog ops Q (o :: rest) a w := by
  obtain ⟨i, hi, hz0, hz1, hz2⟩ := info_parts info_int
  exact wpList_append_at hgd s x 22 ho base 3 i _ 1 8 Try.underlying22 hi hz0 hz1 hz2 rfl (by decide) v n xs hs hown sv m news hx hr h1 (by unfold maxLen; omega) (by omega) hbase h
theorem ints_one (xs : List Int) : ∀ u ∈ ints xs, u.oneCell' = true := by
  intro u hu
  obtain ⟨x, _, rfl⟩ := List.mem_map.1 hu
  rfl
theorem own_ge0 {w : World} {base n size : Nat} {e : TypeId} {v : Value} {xs : List Value} (h : w.ownsRow base e size v n xs) : ∀ k, v.ownBlock = some k → base ≤ k := fun k hk => (h.lt k hk).1
def OwnInts (xs : List Int) (w : World) (e : Ending) (w' : World) : Prop := ∃ v, e = .returned v ∧ w'.ownsRow w.heap.size 3 1 v xs.length (ints xs) ∧ Below w.heap.size w w'
def nats (xs : List Nat) : List Int := xs.map Int.ofNat
theorem nats_length (xs : List Nat) : (nats xs).length = xs.length := List.length_map _
def NatsAt (w : World) (v : Value) (xs : List Nat) : Prop := IntsAt w v (nats xs)
theorem nats_cell {w : World} {A : Option Addr} {n c : Nat} {xs : List Nat} (h : Row w 1 (.slice A n c) n (ints (nats xs))) (hn : n = xs.length) {i : Nat} (hi : i < xs.length) : ∃ b o x, A = some ⟨b, o, none⟩ ∧ b < w.heap.size ∧ Hid (xs[i]? = some x) ∧ w.cell? ⟨b, o + i, none⟩ = some (.int .i64 (x : Nat)) := by
  subst hn
  obtain ⟨b, o, c', hv, _, _, hbl, hcell⟩ := h.open (by omega)
  injection hv with hv1
  obtain ⟨x, hx⟩ := at_some hi
  exact ⟨b, o, x, hv1, hbl, Lib.hid hx, hcell i _ (by unfold ints nats; rw [List.getElem?_map, List.getElem?_map, hx]; rfl)⟩
def nints (xs : List Nat) : List Value := ints (nats xs)
theorem nints_length (xs : List Nat) : (nints xs).length = xs.length := by unfold nints; rw [ints_length, nats_length]
theorem nints_one (xs : List Nat) : ∀ u ∈ nints xs, u.oneCell' = true := ints_one _
theorem nints_rep (m : Nat) : nints (List.replicate m 0) = List.replicate m (Value.int .i64 0) := by
  unfold nints ints nats
  rw [List.map_replicate, List.map_replicate]
  rfl
theorem nats_own {w : World} {b n : Nat} {v : Value} {xs : List Nat} (h : w.ownsRow b 3 1 v n (nints xs)) (hn : xs.length = n) : NatsAt w v xs := by
  have := Row.of_own h
  unfold NatsAt IntsAt
  rw [nats_length, hn]
  exact this
theorem own_nil (w : World) (w' : World) (hb : Below w.heap.size w w') : OwnInts [] w (.returned (.slice none 0 0)) w' := ⟨_, rfl, World.ownsRow_nil _ _ _ _, hb⟩
theorem nints_append (a b : List Nat) : nints (a ++ b) = nints a ++ nints b := by unfold nints ints nats; rw [List.map_append, List.map_append]
theorem own_lit0 (w w' : World) (hb : Below w.heap.size w w') (t : TypeId) : OwnInts [] w (.returned (.slice (some ⟨w'.heap.size, 0, none⟩) 0 0)) (w'.alloc (.cells #[] 3)) :=
  ⟨_, rfl, World.ownsRow_lit (base := w.heap.size) (e := 3) (size := 1) w' #[] 0 hb.size (by unfold maxLen; omega) rfl, hb.alloc hb.size _⟩
theorem set_grown (w : World) (g i : Nat) (v : Value) : w.grownBy (w.setCell ⟨g, i, none⟩ v) (some g) :=
  ⟨rfl, rfl, rfl, by simp [World.setCell], fun k _ hk => heap_setCell_other w ⟨g, i, none⟩ k _ (fun e => hk (by simp [e]))⟩
theorem own_set {w : World} {base n size : Nat} {e : TypeId} {v : Value} {xs : List Value} {g i : Nat} {u : Value} (h : w.ownsRow base e size v n xs) (hg : g < base) : (w.setCell ⟨g, i, none⟩ u).ownsRow base e size v n xs :=
  own_kept h (set_grown w g i u) fun q hq e => by
    have h1 := (h.lt q hq).1
    have h2 := Option.some.inj e
    omega
theorem run_make_cap {P : Program} (t e : TypeId) (z : Value) (size bytes : Nat) (ht : P.underlying t = some (.slice e)) (hinfo : (P.info? e).map (fun i => (i.zero, i.size, i.bytes)) = some (some z, size, bytes))
    (kl kc : IntKind) (n : Nat) (hbytes : bytes * n ≤ 281474976710656) (h63 : n ≤ 9223372036854775807) (w : World) :
    (Instr.makeSlice t (.int kl 0) (.int kc (n : Int))).run P w = .ok (.slice (some ⟨w.heap.size, 0, none⟩) 0 n) (w.alloc (.cells (madeCells z.cells (n * size)) e)) := by
  obtain ⟨i, hi, hzz⟩ := Option.map_eq_some_iff.1 hinfo
  simp only [Prod.mk.injEq] at hzz
  obtain ⟨hz, hs, hb⟩ := hzz
  have hb' : (i.bytes : Int) * (n : Int) ≤ 281474976710656 := by
    have h : ((i.bytes * n : Nat) : Int) ≤ 281474976710656 := by rw [hb]; omega
    rwa [Int.natCast_mul] at h
  have hr := run_make (P := P) w t e i z ht hi hz kl kc 0 n (by omega) (by omega) hb' (by omega)
  simp only [Int.toNat_natCast, Int.toNat_zero, hs] at hr
  exact hr
theorem bel_new (w : World) (o : Obj) : Below w.heap.size w (w.alloc o) := (Below.refl _ _).alloc (Nat.le_refl _) o
theorem nats_row {w : World} {A : Option Addr} {c : Nat} {xs : List Nat} (h : NatsAt w (.slice A xs.length c) xs) : Row w 1 (.slice A xs.length c) xs.length (ints (nats xs)) := by
  have := h; unfold NatsAt IntsAt at this; rwa [nats_length] at this
theorem NatsAt.shape {w : World} {v : Value} {xs : List Nat} (h : NatsAt w v xs) : ∃ A c, v = .slice A xs.length c ∧ xs.length ≤ c ∧ c ≤ maxLen := by
  have := Row.shape h
  rwa [nats_length] at this
theorem NatsAt.below {w w' : World} {v : Value} {xs : List Nat} (h : NatsAt w v xs) (hb : Below w.heap.size w w') : NatsAt w' v xs := Row.below h hb
theorem slice_of_own {w : World} {B n size : Nat} {e : TypeId} {v : Value} {cs : List Value} (h : w.ownsRow B e size v n cs) : ∃ A c, v = .slice A n c := by
  obtain ⟨A, c, hv, -⟩ := (Row.of_own h).shape
  exact ⟨A, c, hv⟩
theorem heap_lt {w : World} {g : Nat} {o : Obj} (h : w.heap[g]? = some o) : g < w.heap.size := by
  rcases Nat.lt_or_ge g w.heap.size with hl | hl
  · exact hl
  · rw [Array.getElem?_eq_none hl] at h; cases h
theorem nints_snoc (l : List Nat) (n : Nat) : nints (l ++ [n]) = nints l ++ [.int .i64 (n : Int)] := by unfold nints ints nats; rw [List.map_append, List.map_append]; rfl
theorem own_nats {w : World} {B : Nat} {v : Value} {xs : List Nat} (h : w.ownsRow B 3 1 v xs.length (nints xs)) : NatsAt w v xs := nats_own h rfl
theorem ints_snoc (l : List Int) (n : Int) : ints (l ++ [n]) = ints l ++ [.int .i64 n] := by unfold ints; rw [List.map_append]; rfl
/-- An int of a slice, where it lies. -/
theorem ints_open {w wr : World} {A : Option Addr} {n c : Nat} {xs : List Int} (h : Row w 1 (.slice A n c) n (ints xs)) (hb : Below w.heap.size w wr) {i : Nat} (hn : n = xs.length) (hi : i < xs.length) :
    ∃ b o x, A = some ⟨b, o, none⟩ ∧ b < w.heap.size ∧ Hid (xs[i]? = some x) ∧ wr.cell? ⟨b, o + i, none⟩ = some (.int .i64 x) := by
  subst hn
  obtain ⟨b, o, c', hv, _, _, hbl, hcell⟩ := h.open (by omega)
  obtain ⟨rfl, _⟩ : A = some ⟨b, o, none⟩ ∧ True := by injection hv with e1; exact ⟨e1, trivial⟩
  obtain ⟨x, hx, hs⟩ := ints_at hi
  exact ⟨b, o, x, rfl, hbl, Lib.hid hx, (hb.cell (p := ⟨b, _, none⟩) hbl).trans (hcell _ _ hs)⟩
end Go.Proofs.Ytmlcbikljlhhkaa

namespace Go.Proofs.Ytmlcbikljlhhkaa
open Go.RowKit
theorem l1In_any (n lo hi : Int) (w : World) :
    Calls Try.prog 60 #[.int .i64 n, .int .i64 lo, .int .i64 hi] w
      fun e w' => e = .returned (.bool (decide (lo ≤ n ∧ n ≤ hi))) ∧ w = w' := by
  go_enter Try.func60, Try.ntmps60
  go_wp2
  all_goals
    go_ret
    refine ⟨ret_bool ?_, rfl⟩
    simp
    try omega
end Go.Proofs.Ytmlcbikljlhhkaa

namespace Go.Proofs.Ytmlcbikljlhhkaa
open Go.RowKit
/-! Regions that draw their order and whose operations read or call functions that only make memory: one walk, in the text's order. -/
/-- The worlds that have grown out of w. -/
def GW (w : World) := { w' : World // Below w.heap.size w w' }
instance (w : World) : Nonempty (GW w) := ⟨⟨w, Below.refl _ _⟩⟩
def gw {w : World} (n : GW w) : World := n.1
theorem gw_below {w : World} (n : GW w) : Below w.heap.size w (gw n) := n.2
theorem gw_cell {w : World} {p : Addr} {v : Value} (h : w.cell? p = some v) (hp : p.block < w.heap.size) : ∀ n : GW w, (gw n).cell? p = some v := fun n => ((gw_below n).cell hp).trans h
theorem wp_region_grow {P : Program} {id : Nat} {Q : Exit → Act → World → Prop} {a : Act} {w : World} {l : List Oper} (hm : P.follows .mixedOrders = true) (hB : Region.lexB .any l.toArray = true)
    (h : wpQuiet P l.toArray (fun w' => ∃ n : GW w, w' = gw n) (fun a' => ∀ w', (∃ n : GW w, w' = gw n) → Q .normal a' w') l a) : (Code.region id l.toArray true).wp P Q a w :=
  wp_region_quiet (C := fun w' => ∃ n : GW w, w' = gw n) hm hB ⟨⟨{ w with drawn := w.drawn + 1 }, ⟨rfl, rfl, rfl, Nat.le_refl _, fun _ _ => rfl⟩⟩, rfl⟩ (by simpa using h)
theorem grow_call {P : Program} {f : FuncId} {args : Array Value} {w : World} {n : GW w} {v : Value}
    (h : Calls P f args (gw n) fun e w'' => e = .returned v ∧ Below (gw n).heap.size (gw n) w'') : Calls P f args (gw n) fun e w'' => e = .returned v ∧ ∃ m : GW w, w'' = gw m :=
  h.mono fun _ w'' ⟨he, hb⟩ => ⟨he, ⟨w'', (gw_below n).trans (hb.mono (gw_below n).size)⟩, rfl⟩
theorem grow_same {P : Program} {f : FuncId} {args : Array Value} {w : World} {n : GW w} {v : Value}
    (h : Calls P f args (gw n) fun e w'' => e = .returned v ∧ gw n = w'') : Calls P f args (gw n) fun e w'' => e = .returned v ∧ ∃ m : GW w, w'' = gw m :=
  h.mono fun _ w'' ⟨he, hb⟩ => ⟨he, n, hb.symm⟩
theorem grow_drew {P : Program} {f : FuncId} {args : Array Value} {w : World} {n : GW w} {v : Value}
    (h : Calls P f args (gw n) fun e w'' => e = .returned v ∧ Drew (gw n) w'') : Calls P f args (gw n) fun e w'' => e = .returned v ∧ ∃ m : GW w, w'' = gw m :=
  grow_call (h.mono fun _ _ ⟨he, hd⟩ => ⟨he, hd.below _⟩)
end Go.Proofs.Ytmlcbikljlhhkaa

namespace Go.Proofs.Ytmlcbikljlhhkaa
open Go.RowKit
/-- A circuit as a value. -/
def CircAt (w : World) (v : Value) (c : Cz) : Prop := ∃ vn vg vo, v = .agg #[.int .i64 c.ins, vn, vg, vo] ∧ IntsAt w vn c.next ∧ CubesAt w vg c.gates ∧ IntsAt w vo c.outs
/-- A circuit behind a pointer. -/
def PCirc (w : World) (g : Nat) (c : Cz) : Prop := ∃ vn vg vo, g < w.heap.size ∧ w.cell? ⟨g, 0, none⟩ = some (.int .i64 c.ins) ∧ w.cell? ⟨g, 1, none⟩ = some vn ∧ w.cell? ⟨g, 2, none⟩ = some vg ∧ w.cell? ⟨g, 3, none⟩ = some vo ∧ IntsAt w vn c.next ∧ CubesAt w vg c.gates ∧ IntsAt w vo c.outs
theorem CircAt.below {w w' : World} {v : Value} {c : Cz} (h : CircAt w v c) (hb : Below w.heap.size w w') : CircAt w' v c := by
  obtain ⟨vn, vg, vo, hv, h1, h2, h3⟩ := h
  exact ⟨vn, vg, vo, hv, Row.below h1 hb, Row.below h2 hb, Row.below h3 hb⟩
theorem PCirc.below {w w' : World} {g : Nat} {c : Cz} (h : PCirc w g c) (hb : Below w.heap.size w w') : PCirc w' g c := by
  obtain ⟨vn, vg, vo, hg, c0, c1, c2, c3, h1, h2, h3⟩ := h
  exact ⟨vn, vg, vo, Nat.lt_of_lt_of_le hg hb.size, (hb.cell (p := ⟨g, 0, none⟩) hg).trans c0, (hb.cell (p := ⟨g, 1, none⟩) hg).trans c1, (hb.cell (p := ⟨g, 2, none⟩) hg).trans c2, (hb.cell (p := ⟨g, 3, none⟩) hg).trans c3, Row.below h1 hb, Row.below h2 hb, Row.below h3 hb⟩
theorem PCirc.boxed {w : World} {c : Cz} {vn vg vo : Value} (t : TypeId) (h1 : IntsAt w vn c.next) (h2 : CubesAt w vg c.gates) (h3 : IntsAt w vo c.outs) : PCirc (w.alloc (.cells #[.int .i64 c.ins, vn, vg, vo] t)) w.heap.size c :=
  ⟨vn, vg, vo, by simp, World.cell?_alloc_new _ _ _ 0, World.cell?_alloc_new _ _ _ 1, World.cell?_alloc_new _ _ _ 2, World.cell?_alloc_new _ _ _ 3, Row.alloc h1 _, Row.alloc h2 _, Row.alloc h3 _⟩
theorem isLit_any (l v : Int) (w : World) (h1 : -1000000 ≤ v) (h2 : v ≤ 1000000) :
    Calls Try.prog 67 #[.int .i64 l, .int .i64 v] w fun e w' => e = .returned (.bool (Cir.isLit l v)) ∧ w = w' := by
  go_enter Try.func67, Try.ntmps67
  go_wp2
  all_goals
    go_ret
    refine ⟨ret_bool ?_, rfl⟩
    simp [Cir.isLit]
    try omega
theorem firstGate_any (g : Nat) (c : Cz) (w : World) (h : PCirc w g c) (h1 : 0 ≤ c.ins) (h2 : c.ins ≤ 100) (h3 : c.next.length ≤ 100) :
    Calls Try.prog 128 #[.pointer (some ⟨g, 0, none⟩)] w fun e w' => e = .returned (.int .i64 (Cir.first c)) ∧ Below w.heap.size w w' := by
  obtain ⟨vn, vg, vo, hg, c0, c1, c2, c3, r1, r2, r3⟩ := h
  obtain ⟨A, cp, hv, hc, hcm⟩ := r1.shape
  subst hv
  have g0 := gw_cell c0 hg
  have g1 := gw_cell c1 hg
  have hw1 := IntWalk.i64_in (1 + c.ins) (by omega)
  have hw2 := IntWalk.i64_in (1 + c.ins + c.next.length) (by omega)
  clear r1 r2 r3 c0 c1 c2 c3
  go_enter Try.func128, Try.ntmps128
  go_wp2
  refine wp_region_grow (by kernel_rfl) (by kernel_rfl) ?_
  repeat (go_big_quiet_step ((fail)))
  refine wpQuiet_nil ?_
  intro _ hw'
  obtain ⟨nq, hw''⟩ := hw'
  subst hw''
  have hgq := gw_below nq
  generalize gw nq = wq at *
  clear nq
  go_wp2
  go_ret
  exact ⟨rfl, hgq⟩
theorem vars_any (g : Nat) (c : Cz) (w : World) (h : PCirc w g c) (h1 : 0 ≤ c.ins) (h2 : c.ins ≤ 100) (h3 : c.next.length ≤ 100) (h4 : c.gates.length ≤ 100) :
    Calls Try.prog 68 #[.pointer (some ⟨g, 0, none⟩)] w fun e w' => e = .returned (.int .i64 (Cir.vars c)) ∧ Below w.heap.size w w' := by
  have HF : Hid (∀ n : GW w, Calls Try.prog 128 #[.pointer (some ⟨g, 0, none⟩)] (gw n) fun e w' => e = .returned (.int .i64 (Cir.first c)) ∧ Below (gw n).heap.size (gw n) w') := Lib.hid fun n => firstGate_any g c _ (h.below (gw_below n)) h1 h2 h3
  have hF : Hid (Cir.vars c = Cir.first c + c.gates.length) := Lib.hid rfl
  have hb : 0 ≤ Cir.first c ∧ Cir.first c ≤ 300 := by unfold Cir.first; omega
  obtain ⟨hb1, hb2⟩ := hb
  obtain ⟨vn, vg, vo, hg, c0, c1, c2, c3, r1, r2, r3⟩ := h
  obtain ⟨A, cp, hv, hc, hcm⟩ := Row.shape r2
  subst hv
  have g2 := gw_cell c2 hg
  have hw1 := IntWalk.i64_in (Cir.first c + c.gates.length) (by omega)
  clear r1 r2 r3 c0 c1 c2 c3
  go_enter Try.func68, Try.ntmps68
  go_wp2
  refine wp_region_grow (by kernel_rfl) (by kernel_rfl) ?_
  repeat (go_big_quiet_step ((go_at_call 128; exact grow_call (HF.out _))))
  refine wpQuiet_nil ?_
  intro _ hw'
  obtain ⟨nq, hw''⟩ := hw'
  subst hw''
  have hgq := gw_below nq
  generalize gw nq = wq at *
  clear nq
  go_wp2
  go_ret
  exact ⟨ret_int hF.out.symm, hgq⟩
theorem roots_any (g : Nat) (c : Cz) (w : World) (h : PCirc w g c) (h1 : c.next.length ≤ 100000) (h2 : c.outs.length ≤ 100000) :
    Calls Try.prog 127 #[.pointer (some ⟨g, 0, none⟩)] w (OwnInts (c.next ++ c.outs) w) := by
  obtain ⟨i0, hi0, hz0, hz1, hz2⟩ := info_parts info_int
  obtain ⟨vn, vg, vo, hg, c0, c1, c2, c3, r1, r2, r3⟩ := h
  have R1 : Hid (Row w.drew 1 vn c.next.length (ints c.next)) := Lib.hid r1
  have R3 : Hid (Row w 1 vo c.outs.length (ints c.outs)) := Lib.hid r3
  have e1 : ints (c.next ++ c.outs) = [] ++ ints c.next ++ ints c.outs := by simp [ints]
  have E1 := Lib.hid e1
  clear r1 r2 r3 e1
  have k1 : ∀ w', Below w.heap.size w w' → w'.cell? ⟨g, 1, none⟩ = some vn := fun w' hb => (hb.cell (p := ⟨g, 1, none⟩) hg).trans c1
  have k3 : ∀ w', Below w.heap.size w w' → w'.cell? ⟨g, 3, none⟩ = some vo := fun w' hb => (hb.cell (p := ⟨g, 3, none⟩) hg).trans c3
  have K3 := Lib.hid k3
  clear k1 k3
  go_enter Try.func127, Try.ntmps127
  go_wp2_with fail
  go_region_law (first
    | (refine step_append_at rfl (.const (.slice none 0 0)) (.tmp 6) 22 rfl w.heap.size 3 i0 _ 1 8 Try.underlying22 hi0 hz0 hz1 hz2 rfl (by decide) (.slice none 0 0) 0 [] rfl (World.ownsRow_nil _ _ _ _) vn c.next.length (ints c.next) (by simp [Act.eval, Act.put]) R1.out (ints_one _) (by unfold maxLen; omega) (by omega) (by simp) ?_; intro v1 w1 hown1 hg1; have hb1 := (Below.refl w.heap.size w).drew.grown hg1 (Nat.le_refl _) (by simp [Value.ownBlock]); have hk3 := K3.out w1 hb1)
    | (refine step_append_at rfl (.tmp 7) (.tmp 11) 22 rfl w.heap.size 3 i0 _ 1 8 Try.underlying22 hi0 hz0 hz1 hz2 rfl (by decide) v1 (0 + c.next.length) ([] ++ ints c.next) (by simp [Act.eval, Act.put]) hown1 vo c.outs.length (ints c.outs) (by simp [Act.eval, Act.put]) (Row.below R3.out hb1) (ints_one _) (by unfold maxLen; omega) (by omega) hb1.size ?_; intro v2 w2 hown2 hg2))
  all_goals
    have Ho2 := Lib.hid hown2
    have Hb := Lib.hid (hb1.grown hg2 hb1.size (own_ge0 hown1))
    clear hown1 hown2 hg1 hg2 hb1 hk3
    go_wp2_with fail
    go_ret
    refine ⟨_, rfl, ?_, Hb.out⟩
    rw [E1.out, List.length_append, ← Nat.zero_add c.next.length]
    exact Ho2.out
end Go.Proofs.Ytmlcbikljlhhkaa

namespace Go.Proofs.Ytmlcbikljlhhkaa
open Go.RowKit
theorem sizes_cases {c : Cz} (h : Cir.sizes c = false) : c.ins < 0 ∨ (0 ≤ c.ins ∧ 4 < c.ins) ∨ (0 ≤ c.ins ∧ c.ins ≤ 4 ∧ (3 : Int) < c.next.length) ∨ (0 ≤ c.ins ∧ c.ins ≤ 4 ∧ (c.next.length : Int) ≤ 3 ∧ (14 : Int) < c.gates.length) ∨ (0 ≤ c.ins ∧ c.ins ≤ 4 ∧ (c.next.length : Int) ≤ 3 ∧ (c.gates.length : Int) ≤ 14 ∧ (3 : Int) < c.outs.length) := by
  unfold Cir.sizes at h
  rw [decide_eq_false_iff_not] at h
  omega
theorem all_drop {p : Int → Bool} {l : List Int} {k : Nat} {x : Int} (h : l[k]? = some x) : (l.drop k).all p = (p x && (l.drop (k + 1)).all p) := by
  obtain ⟨hk, rfl⟩ := List.getElem?_eq_some_iff.1 h
  rw [List.drop_eq_getElem_cons hk, List.all_cons]
set_option maxHeartbeats 2000000 in
theorem implValid_any (v : Value) (c : Cz) (w : World) (h : CircAt w v c) :
    Calls Try.prog 66 #[v] w fun e w' => e = .returned (.bool (Cir.valid c)) ∧ Below w.heap.size w w' := by
  obtain ⟨vn, vg, vo, rfl, r1, r2, r3⟩ := h
  have hP := PCirc.boxed 30 r1 r2 r3
  have hb0 : Below w.heap.size w (w.alloc (.cells #[.int .i64 c.ins, vn, vg, vo] 30)) := (Below.refl _ _).alloc (Nat.le_refl _) _
  obtain ⟨An, cn, hvn, hcn, hcmn⟩ := r1.shape
  obtain ⟨Ag, cg, hvg, hcg, hcmg⟩ := Row.shape r2
  obtain ⟨Ao, co, hvo, hco, hcmo⟩ := r3.shape
  subst hvn hvg hvo
  unfold maxLen at hcmn hcmg hcmo
  cases hs : Cir.sizes c
  · have hv : Cir.valid c = false := by unfold Cir.valid; rw [hs]; rfl
    rw [hv]
    clear hv hP r1 r2 r3
    have B0 := Lib.hid hb0
    clear hb0
    rcases sizes_cases hs with g | ⟨g0, g1⟩ | ⟨g0, g1, g2⟩ | ⟨g0, g1, g2, g3⟩ | ⟨g0, g1, g2, g3, g4⟩
    all_goals
      clear hs
      go_enter Try.func66, Try.ntmps66
      go_wp2
      go_ret
      exact ⟨rfl, B0.out⟩
  · obtain ⟨s1, s2, s3, s4, s5⟩ : 0 ≤ c.ins ∧ c.ins ≤ 4 ∧ c.next.length ≤ 3 ∧ c.gates.length ≤ 14 ∧ c.outs.length ≤ 3 := by unfold Cir.sizes at hs; simpa using hs
    have hv : Cir.valid c = (Cir.gatesOk (1 + c.ins + c.next.length) 0 (c.gates.drop 0) && (c.next ++ c.outs).all (Cir.isLit · (Cir.vars c))) := by unfold Cir.valid; rw [hs]; rfl
    have HV := Lib.hid hv
    have HP := Lib.hid hP
    have B0 := Lib.hid hb0
    have t1 : (c.next.length : Int) ≤ 3 := by omega
    have t2 : (c.gates.length : Int) ≤ 14 := by omega
    have t3 : (c.outs.length : Int) ≤ 3 := by omega
    have R2 := Lib.hid (Row.alloc r2 (.cells #[.int .i64 c.ins, .slice An c.next.length cn, .slice Ag c.gates.length cg, .slice Ao c.outs.length co] 30))
    clear hs hv hP hb0 r1 r2 r3
    generalize Cir.valid c = res at HV ⊢
    go_enter Try.func66, Try.ntmps66
    go_wp2_with fail
    generalize w.alloc (.cells #[.int .i64 c.ins, .slice An c.next.length cn, .slice Ag c.gates.length cg, .slice Ao c.outs.length co] 30) = W1 at *
    go_loopw [44] (fun t wr => ∃ k : Nat, k ≤ c.gates.length ∧ t = .int .i64 k ∧ Hid (res = (Cir.gatesOk (1 + c.ins + c.next.length) k (c.gates.drop k) && (c.next ++ c.outs).all (Cir.isLit · (Cir.vars c)))) ∧ Below W1.heap.size W1 wr) (fun t _ => c.gates.length - (intOf t).toNat)
    case atStart => exact ⟨0, Nat.zero_le _, rfl, HV, Below.refl _ _⟩
    case round =>
      obtain ⟨k, hk, rfl, hres, hb⟩ := hrel
      by_cases hlt : k < c.gates.length
      · obtain ⟨b, o, x, rfl, hbl, hx, hs1, hs2⟩ := cubes_open R2.out hb rfl hlt
        have hz := B0.out.size
        have Hb := Lib.hid hb
        have hz2 := hb.size
        have Hstep := Lib.hid (Cir.gatesOk_drop (f := 1 + c.ins + c.next.length) hx.out)
        have hbr : b < wr.heap.size := by omega
        clear hb HV
        cases h1 : Cir.isLit x.1 (1 + c.ins + c.next.length + k)
        · have H1 := Lib.hid h1
          have hr : res = false := by rw [hres.out, Hstep.out, h1]; rfl
          subst hr
          clear h1
          go_wp2_with fail
          refine (isLit_any _ _ _ (by omega) (by omega)).mono ?_
          rintro e w' ⟨rfl, rfl⟩
          rw [H1.out]
          go_wp2_with fail
          go_ret
          exact ⟨rfl, (B0.out.trans (Hb.out.mono hz)).alloc (by omega) _⟩
        · have H1 := Lib.hid h1
          cases h2 : Cir.isLit x.2 (1 + c.ins + c.next.length + k)
          · have H2 := Lib.hid h2
            have hr : res = false := by rw [hres.out, Hstep.out, h1, h2]; rfl
            subst hr
            clear h1 h2
            go_wp2_with fail
            refine (isLit_any _ _ _ (by omega) (by omega)).mono ?_
            rintro e w' ⟨rfl, rfl⟩
            rw [H1.out]
            go_wp2_with fail
            refine (isLit_any _ _ _ (by omega) (by omega)).mono ?_
            rintro e w' ⟨rfl, rfl⟩
            rw [H2.out]
            go_wp2_with fail
            go_ret
            exact ⟨rfl, (B0.out.trans (Hb.out.mono hz)).alloc (by omega) _⟩
          · have H2 := Lib.hid h2
            have Hn : Hid (res = (Cir.gatesOk (1 + c.ins + c.next.length) (k + 1) (c.gates.drop (k + 1)) && (c.next ++ c.outs).all (Cir.isLit · (Cir.vars c)))) := Lib.hid (by rw [hres.out, Hstep.out, h1, h2]; rfl)
            clear h1 h2
            go_wp2_with fail
            refine (isLit_any _ _ _ (by omega) (by omega)).mono ?_
            rintro e w' ⟨rfl, rfl⟩
            rw [H1.out]
            go_wp2_with fail
            refine (isLit_any _ _ _ (by omega) (by omega)).mono ?_
            rintro e w' ⟨rfl, rfl⟩
            rw [H2.out]
            go_wp2_with fail
            go_roundw
            case rel => exact ⟨k + 1, by omega, by go_num, Hn, Hb.out.alloc hz2 _⟩
            case measure => simp [intOf] <;> omega
      · have hz := B0.out.size
        have hr : Hid (res = ((c.next ++ c.outs).drop 0).all (Cir.isLit · (Cir.vars c))) := Lib.hid (by rw [hres.out, List.drop_eq_nil_of_le (by omega : c.gates.length ≤ k)]; rfl)
        have HP2 := Lib.hid (HP.out.below hb)
        have B2 := Lib.hid (B0.out.trans (hb.mono hz))
        have hz2 := B2.out.size
        clear hres hb HP B0 HV R2
        obtain ⟨W2, hW2⟩ : ∃ W2 : World, W2 = wr := ⟨_, rfl⟩
        subst hW2
        go_wp2_with fail
        refine (roots_any w.heap.size c _ HP2.out (by omega) (by omega)).mono ?_
        rintro e w3 ⟨v3, rfl, hown3, hb3⟩
        obtain ⟨A3, c3, hv3, hc3, hcm3⟩ := (Row.of_own hown3).shape
        have R3 := Lib.hid (Row.of_own hown3)
        have HP3 := Lib.hid (HP2.out.below hb3)
        have B3 := Lib.hid (B2.out.trans (hb3.mono hz2))
        have hlen : (c.next ++ c.outs).length ≤ 6 := by rw [List.length_append]; omega
        subst hv3
        unfold maxLen at hcm3
        clear hown3 hb3 HP2 B2
        generalize c.next ++ c.outs = L at *
        go_wp2_with fail
        go_loopw [68] (fun t wr => ∃ k : Nat, k ≤ L.length ∧ t = .int .i64 k ∧ Hid (res = (L.drop k).all (Cir.isLit · (Cir.vars c))) ∧ Below w3.heap.size w3 wr) (fun t _ => L.length - (intOf t).toNat)
        case atStart => exact ⟨0, Nat.zero_le _, rfl, hr, Below.refl _ _⟩
        case round =>
          obtain ⟨k, hk, rfl, hres, hb⟩ := hrel
          have hz3 := B3.out.size
          have hvb : -1000000 ≤ Cir.vars c ∧ Cir.vars c ≤ 1000000 := by unfold Cir.vars Cir.first; omega
          by_cases hlt : k < L.length
          · obtain ⟨b, o, x, rfl, hbl, hx, hs1⟩ := ints_open R3.out hb rfl hlt
            have Hb := Lib.hid hb
            have hz4 := hb.size
            have HP4 := Lib.hid (HP3.out.below hb)
            have Hstep := Lib.hid (all_drop (p := (Cir.isLit · (Cir.vars c))) hx.out)
            clear hb hr
            cases h1 : Cir.isLit x (Cir.vars c)
            · have H1 := Lib.hid h1
              have hr : res = false := by rw [hres.out, Hstep.out, h1]; rfl
              subst hr
              clear h1
              go_wp2_with fail
              refine (vars_any w.heap.size c _ HP4.out s1 (by omega) (by omega) (by omega)).mono ?_
              rintro e w5 ⟨rfl, hb5⟩
              go_wp2_with fail
              refine (isLit_any _ _ _ hvb.1 hvb.2).mono ?_
              rintro e w' ⟨rfl, rfl⟩
              rw [H1.out]
              go_wp2_with fail
              go_ret
              exact ⟨rfl, B3.out.trans ((Hb.out.trans (hb5.mono hz4)).mono hz3)⟩
            · have H1 := Lib.hid h1
              have Hn : Hid (res = (L.drop (k + 1)).all (Cir.isLit · (Cir.vars c))) := Lib.hid (by rw [hres.out, Hstep.out, h1]; rfl)
              clear h1
              go_wp2_with fail
              refine (vars_any w.heap.size c _ HP4.out s1 (by omega) (by omega) (by omega)).mono ?_
              rintro e w5 ⟨rfl, hb5⟩
              have Hb5 := Lib.hid (Hb.out.trans (hb5.mono hz4))
              clear hb5
              go_wp2_with fail
              refine (isLit_any _ _ _ hvb.1 hvb.2).mono ?_
              rintro e w' ⟨rfl, rfl⟩
              rw [H1.out]
              go_wp2_with fail
              go_roundw
              case rel => exact ⟨k + 1, by omega, by go_num, Hn, Hb5.out⟩
              case measure => simp [intOf] <;> omega
          · have hr : res = true := by rw [hres.out, List.drop_eq_nil_of_le (by omega : L.length ≤ k)]; rfl
            subst hr
            go_wp2_with fail
            go_ret
            exact ⟨rfl, B3.out.trans (hb.mono hz3)⟩
end Go.Proofs.Ytmlcbikljlhhkaa

namespace Go.Proofs.Ytmlcbikljlhhkaa
open Go.RowKit
theorem isLit_in (x V : Int) : decide (0 ≤ x ∧ x ≤ 2 * V - 1) = Cir.isLit x V := by
  unfold Cir.isLit
  exact decide_eq_decide.2 ⟨fun h => by omega, fun h => by omega⟩
theorem l1Lits_any (v : Value) (xs : List Int) (V : Int) (w : World) (h : IntsAt w v xs) (h1 : -1000000 ≤ V) (h2 : V ≤ 1000000) :
    Calls Try.prog 125 #[v, .int .i64 V] w fun e w' => e = .returned (.bool (xs.all (Cir.isLit · V))) ∧ w = w' := by
  obtain ⟨A, c, hv, hc, hcm⟩ := h.shape
  subst hv
  unfold maxLen at hcm
  have h0 : Hid (xs.all (Cir.isLit · V) = (xs.drop 0).all (Cir.isLit · V)) := Lib.hid rfl
  generalize xs.all (Cir.isLit · V) = res at h0 ⊢
  go_enter Try.func125, Try.ntmps125
  go_wp2_with fail
  go_loop [5] (fun i => ∃ k : Nat, k ≤ xs.length ∧ i = .int .i64 k ∧ Hid (res = (xs.drop k).all (Cir.isLit · V))) (fun i => xs.length - (intOf i).toNat)
  case atStart => exact ⟨0, Nat.zero_le _, rfl, h0⟩
  case round =>
    obtain ⟨k, hk, rfl, hres⟩ := hrel
    by_cases hlt : k < xs.length
    · obtain ⟨b, o, x, rfl, hbl, hx, hs1⟩ := ints_open h (Below.refl _ _) rfl hlt
      have Hstep := Lib.hid (all_drop (p := (Cir.isLit · V)) hx.out)
      have Hin := Lib.hid (isLit_in x V)
      clear h h0
      cases h3 : Cir.isLit x V
      · have H1 := Lib.hid h3
        have hr : res = false := by rw [hres.out, Hstep.out, h3]; rfl
        subst hr
        clear h3
        go_wp2_with fail
        refine (l1In_any _ _ _ _).mono ?_
        rintro e w' ⟨rfl, rfl⟩
        rw [Hin.out, H1.out]
        go_wp2_with fail
        go_ret
        exact ⟨rfl, rfl⟩
      · have H1 := Lib.hid h3
        have Hn : Hid (res = (xs.drop (k + 1)).all (Cir.isLit · V)) := Lib.hid (by rw [hres.out, Hstep.out, h3]; rfl)
        clear h3
        go_wp2_with fail
        refine (l1In_any _ _ _ _).mono ?_
        rintro e w' ⟨rfl, rfl⟩
        rw [Hin.out, H1.out]
        go_wp2_with fail
        go_round
        case rel => exact ⟨k + 1, by omega, by go_num, Hn⟩
        case measure => simp [intOf] <;> omega
    · have hr : res = true := by rw [hres.out, List.drop_eq_nil_of_le (by omega : xs.length ≤ k)]; rfl
      subst hr
      go_wp2_with fail
      go_ret
      exact ⟨rfl, rfl⟩
theorem l1First_any (v : Value) (c : Cz) (w : World) (h : CircAt w v c) (h1 : 0 ≤ c.ins) (h2 : c.ins ≤ 100) (h3 : c.next.length ≤ 100) :
    Calls Try.prog 61 #[v] w fun e w' => e = .returned (.int .i64 (Cir.first c)) ∧ Below w.heap.size w w' := by
  obtain ⟨vn, vg, vo, rfl, r1, r2, r3⟩ := h
  obtain ⟨An, cn, hvn, hcn, hcmn⟩ := r1.shape
  subst hvn
  clear r1 r2 r3
  have hF : Hid (c.ins + c.next.length + 1 = Cir.first c) := Lib.hid (by unfold Cir.first; omega)
  go_enter Try.func61, Try.ntmps61
  go_wp2
  go_ret
  exact ⟨ret_int hF.out, (Below.refl _ _).alloc (Nat.le_refl _) _⟩
/-- The cells of a circuit in memory. -/
def PCells (w : World) (g : Nat) (i : Int) (vn vg vo : Value) : Prop := g < w.heap.size ∧ w.cell? ⟨g, 0, none⟩ = some (.int .i64 i) ∧ w.cell? ⟨g, 1, none⟩ = some vn ∧ w.cell? ⟨g, 2, none⟩ = some vg ∧ w.cell? ⟨g, 3, none⟩ = some vo
theorem PCells.below {w w' : World} {g : Nat} {i : Int} {vn vg vo : Value} (h : PCells w g i vn vg vo) (hb : Below w.heap.size w w') : PCells w' g i vn vg vo := by
  obtain ⟨hg, c0, c1, c2, c3⟩ := h
  exact ⟨Nat.lt_of_lt_of_le hg hb.size, (hb.cell (p := ⟨g, 0, none⟩) hg).trans c0, (hb.cell (p := ⟨g, 1, none⟩) hg).trans c1, (hb.cell (p := ⟨g, 2, none⟩) hg).trans c2, (hb.cell (p := ⟨g, 3, none⟩) hg).trans c3⟩
theorem PCells.boxed (w : World) (i : Int) (vn vg vo : Value) (t : TypeId) : PCells (w.alloc (.cells #[.int .i64 i, vn, vg, vo] t)) w.heap.size i vn vg vo :=
  ⟨by simp, World.cell?_alloc_new _ _ _ 0, World.cell?_alloc_new _ _ _ 1, World.cell?_alloc_new _ _ _ 2, World.cell?_alloc_new _ _ _ 3⟩
set_option maxHeartbeats 4000000 in
theorem specValid_any (v : Value) (c : Cz) (w : World) (h : CircAt w v c) :
    Calls Try.prog 59 #[v] w fun e w' => e = .returned (.bool (Cir.valid c)) ∧ Below w.heap.size w w' := by
  obtain ⟨vn, vg, vo, rfl, r1, r2, r3⟩ := h
  have hP := PCirc.boxed 30 r1 r2 r3
  have hC : CircAt (w.alloc (.cells #[.int .i64 c.ins, vn, vg, vo] 30)) (.agg #[.int .i64 c.ins, vn, vg, vo]) c := ⟨vn, vg, vo, rfl, Row.alloc r1 _, Row.alloc r2 _, Row.alloc r3 _⟩
  have hb0 : Below w.heap.size w (w.alloc (.cells #[.int .i64 c.ins, vn, vg, vo] 30)) := (Below.refl _ _).alloc (Nat.le_refl _) _
  obtain ⟨An, cn, hvn, hcn, hcmn⟩ := r1.shape
  obtain ⟨Ag, cg, hvg, hcg, hcmg⟩ := Row.shape r2
  obtain ⟨Ao, co, hvo, hco, hcmo⟩ := r3.shape
  subst hvn hvg hvo
  unfold maxLen at hcmn hcmg hcmo
  cases hs : Cir.sizes c
  · have hv : Cir.valid c = false := by unfold Cir.valid; rw [hs]; rfl
    rw [hv]
    clear hv hP hC r1 r2 r3
    have B0 := Lib.hid hb0
    clear hb0
    have hsc : (decide (0 ≤ c.ins ∧ c.ins ≤ 4) = false) ∨ (decide (0 ≤ c.ins ∧ c.ins ≤ 4) = true ∧ (3 : Int) < c.next.length) ∨ (decide (0 ≤ c.ins ∧ c.ins ≤ 4) = true ∧ (c.next.length : Int) ≤ 3 ∧ (14 : Int) < c.gates.length) ∨ (decide (0 ≤ c.ins ∧ c.ins ≤ 4) = true ∧ (c.next.length : Int) ≤ 3 ∧ (c.gates.length : Int) ≤ 14 ∧ (3 : Int) < c.outs.length) := by
      rw [decide_eq_false_iff_not, decide_eq_true_eq]
      rcases sizes_cases hs with g | ⟨g0, g1⟩ | ⟨g0, g1, g2⟩ | ⟨g0, g1, g2, g3⟩ | ⟨g0, g1, g2, g3, g4⟩
      · exact .inl (by omega)
      · exact .inl (by omega)
      · exact .inr (.inl ⟨⟨g0, g1⟩, g2⟩)
      · exact .inr (.inr (.inl ⟨⟨g0, g1⟩, g2, g3⟩))
      · exact .inr (.inr (.inr ⟨⟨g0, g1⟩, g2, g3, g4⟩))
    rcases hsc with d | ⟨d, g2⟩ | ⟨d, g2, g3⟩ | ⟨d, g2, g3, g4⟩
    all_goals
      clear hs
      have D := Lib.hid d
      clear d
      go_enter Try.func59, Try.ntmps59
      go_wp2_with fail
      refine (l1In_any _ _ _ _).mono ?_
      rintro e w' ⟨rfl, rfl⟩
      rw [D.out]
      go_wp2_with fail
      go_ret
      exact ⟨rfl, B0.out⟩
  · obtain ⟨s1, s2, s3, s4, s5⟩ : 0 ≤ c.ins ∧ c.ins ≤ 4 ∧ c.next.length ≤ 3 ∧ c.gates.length ≤ 14 ∧ c.outs.length ≤ 3 := by unfold Cir.sizes at hs; simpa using hs
    have hv : Cir.valid c = (Cir.gatesOk (Cir.first c) 0 (c.gates.drop 0) && (c.next ++ c.outs).all (Cir.isLit · (Cir.vars c))) := by unfold Cir.valid; rw [hs]; rfl
    have HV := Lib.hid hv
    have HP := Lib.hid hP
    have HC := Lib.hid hC
    have B0 := Lib.hid hb0
    have D : Hid (decide (0 ≤ c.ins ∧ c.ins ≤ 4) = true) := Lib.hid (decide_eq_true ⟨s1, s2⟩)
    have t1 : (c.next.length : Int) ≤ 3 := by omega
    have t2 : (c.gates.length : Int) ≤ 14 := by omega
    have t3 : (c.outs.length : Int) ≤ 3 := by omega
    have R2 := Lib.hid (Row.alloc r2 (.cells #[.int .i64 c.ins, .slice An c.next.length cn, .slice Ag c.gates.length cg, .slice Ao c.outs.length co] 30))
    have HF : Hid (Cir.vars c = Cir.first c + c.gates.length) := Lib.hid rfl
    have hfb : 1 ≤ Cir.first c ∧ Cir.first c ≤ 10 := by unfold Cir.first; omega
    obtain ⟨hf1, hf2⟩ := hfb
    clear hs hv hP hC hb0 r2
    generalize Cir.valid c = res at HV ⊢
    have R1x := Lib.hid r1
    have R3x := Lib.hid r3
    clear r1 r3
    go_enter Try.func59, Try.ntmps59
    go_wp2_with fail
    refine (l1In_any _ _ _ _).mono ?_
    rintro e w' ⟨rfl, rfl⟩
    rw [D.out]
    go_wp2_with fail
    refine (l1First_any _ c _ HC.out s1 (by omega) (by omega)).mono ?_
    rintro e w1 ⟨rfl, hb1⟩
    have B1 := Lib.hid (B0.out.trans (hb1.mono (by simp)))
    have R21 := Lib.hid (Row.below R2.out hb1)
    have RN := Lib.hid (Row.below (Row.alloc R1x.out (.cells #[.int .i64 c.ins, .slice An c.next.length cn, .slice Ag c.gates.length cg, .slice Ao c.outs.length co] 30)) hb1)
    have RO := Lib.hid (Row.below (Row.alloc R3x.out (.cells #[.int .i64 c.ins, .slice An c.next.length cn, .slice Ag c.gates.length cg, .slice Ao c.outs.length co] 30)) hb1)
    have K1 := Lib.hid ((PCells.boxed w c.ins (.slice An c.next.length cn) (.slice Ag c.gates.length cg) (.slice Ao c.outs.length co) 30).below hb1)
    clear hb1 R1x R3x HC B0 R2
    go_wp2_with fail
    go_loopw [4] (fun t wr => ∃ k : Nat, k ≤ c.gates.length ∧ t = .int .i64 k ∧ Hid (res = (Cir.gatesOk (Cir.first c) k (c.gates.drop k) && (c.next ++ c.outs).all (Cir.isLit · (Cir.vars c)))) ∧ Below w1.heap.size w1 wr) (fun t _ => c.gates.length - (intOf t).toNat)
    case atStart => exact ⟨0, Nat.zero_le _, rfl, HV, Below.refl _ _⟩
    case round =>
      obtain ⟨k, hk, rfl, hres, hb⟩ := hrel
      obtain ⟨kg, k0, k1, k2, k3⟩ := K1.out.below hb
      have Hb := Lib.hid hb
      have hz1 := B1.out.size
      have hz2 := hb.size
      by_cases hlt : k < c.gates.length
      · obtain ⟨b, o, x, rfl, hbl, hx, hs1, hs2⟩ := cubes_open R21.out hb rfl hlt
        have Hstep := Lib.hid (Cir.gatesOk_drop (f := Cir.first c) hx.out)
        have hbr : b < wr.heap.size := by omega
        have hwf := IntWalk.i64_in (Cir.first c + k) (by omega)
        clear hb HV
        have hV : -1000000 ≤ Cir.first c + k ∧ Cir.first c + k ≤ 1000000 := by omega
        obtain ⟨bb, hbb⟩ : ∃ bb, [x.1, x.2].all (Cir.isLit · (Cir.first c + k)) = bb := ⟨_, rfl⟩
        have HL : Hid (∀ w2 : World, Calls Try.prog 125 #[.slice (some ⟨w2.heap.size, 0, none⟩) 2 2, .int .i64 (Cir.first c + k)] (w2.alloc (.cells #[.int .i64 x.1, .int .i64 x.2] 3)).drew fun e w' => e = .returned (.bool bb) ∧ (w2.alloc (.cells #[.int .i64 x.1, .int .i64 x.2] 3)).drew = w') := Lib.hid fun w2 => by
          rw [← hbb]
          exact l1Lits_any _ [x.1, x.2] _ _ (Row.of_own (World.ownsRow_lit (base := 0) (e := 3) (size := 1) w2 #[.int .i64 x.1, .int .i64 x.2] 2 (Nat.zero_le _) (by unfold maxLen; omega) rfl)) hV.1 hV.2
        have hbb' : (Cir.isLit x.1 (Cir.first c + k) && Cir.isLit x.2 (Cir.first c + k)) = bb := by rw [← hbb]; simp
        cases bb
        · have hr : res = false := by rw [hres.out, Hstep.out, hbb']; rfl
          subst hr
          clear hbb hbb'
          go_wp2_with fail
          go_region_with ((go_at_call 125; refine (HL.out _).mono ?_; rintro e w' ⟨rfl, rfl⟩))
          all_goals
            go_wp2_with fail
            go_ret
            exact ⟨rfl, B1.out.trans (((Hb.out.alloc hz2 _).drew).mono hz1)⟩
        · have Hn : Hid (res = (Cir.gatesOk (Cir.first c) (k + 1) (c.gates.drop (k + 1)) && (c.next ++ c.outs).all (Cir.isLit · (Cir.vars c)))) := Lib.hid (by rw [hres.out, Hstep.out, hbb']; rfl)
          clear hbb hbb'
          go_wp2_with fail
          go_region_with ((go_at_call 125; refine (HL.out _).mono ?_; rintro e w' ⟨rfl, rfl⟩))
          all_goals
            go_wp2_with fail
            go_roundw
            case rel => exact ⟨k + 1, by omega, by go_num, Hn, (Hb.out.alloc hz2 _).drew⟩
            case measure => simp [intOf] <;> omega
      · have hr : Hid (res = (c.next.all (Cir.isLit · (Cir.first c + c.gates.length)) && c.outs.all (Cir.isLit · (Cir.first c + c.gates.length)))) := Lib.hid (by rw [hres.out, List.drop_eq_nil_of_le (by omega : c.gates.length ≤ k), HF.out, List.all_append]; rfl)
        have HRN := Lib.hid (Row.below RN.out hb)
        have HRO := Lib.hid (Row.below RO.out hb)
        have B2 := Lib.hid (B1.out.trans (hb.mono hz1))
        have hV : -1000000 ≤ Cir.first c + c.gates.length ∧ Cir.first c + c.gates.length ≤ 1000000 := by omega
        have hwf := IntWalk.i64_in (Cir.first c + c.gates.length) (by omega)
        clear hres hb HV
        have hL1 := l1Lits_any _ c.next (Cir.first c + c.gates.length) wr HRN.out hV.1 hV.2
        have hL2 := l1Lits_any _ c.outs (Cir.first c + c.gates.length) wr HRO.out hV.1 hV.2
        cases h1 : c.next.all (Cir.isLit · (Cir.first c + c.gates.length))
        · rw [h1] at hL1
          have HL1 := Lib.hid hL1
          have hrr : res = false := by rw [hr.out, h1]; rfl
          subst hrr
          clear hL1 hL2 h1
          go_wp2_with fail
          refine HL1.out.mono ?_
          rintro e w' ⟨rfl, rfl⟩
          go_wp2_with fail
          go_ret
          exact ⟨rfl, B2.out⟩
        · rw [h1] at hL1
          have HL1 := Lib.hid hL1
          have HL2 := Lib.hid hL2
          have hrr : Hid (res = c.outs.all (Cir.isLit · (Cir.first c + c.gates.length))) := Lib.hid (by rw [hr.out, h1]; rfl)
          clear hL1 hL2 h1
          go_wp2_with fail
          refine HL1.out.mono ?_
          rintro e w' ⟨rfl, rfl⟩
          go_wp2_with fail
          refine HL2.out.mono ?_
          rintro e w' ⟨rfl, rfl⟩
          go_wp2_with fail
          go_ret
          exact ⟨ret_bool hrr.out.symm, B2.out⟩
end Go.Proofs.Ytmlcbikljlhhkaa

namespace Go.Proofs.Ytmlcbikljlhhkaa
open Go.RowKit
/-! What laws do with slices of gates. -/
theorem toGate_any (c v : Int) (w : World) :
    Calls Try.prog 126 #[.agg #[.int .i64 c, .int .i64 v]] w
      fun e w' => e = .returned (.agg #[.int .i64 c, .int .i64 v]) ∧ Below w.heap.size w w' := by
  go_enter Try.func126, Try.ntmps126
  go_wp2
  refine bodyPost_ret (v := .agg #[.int .i64 c, .int .i64 v]) (by simp [results, Try.results126, go_sem]) rfl ⟨rfl, ?_⟩
  exact (((Below.refl _ _).alloc (Nat.le_refl _) _).alloc (by simp) _).alloc (by simp; omega) _
theorem info_gate : (Try.prog.info? 71).map (fun i => (i.zero, i.size, i.bytes)) = some (some (.agg #[.int .i64 0, .int .i64 0]), 2, 16) := by kernel_rfl
theorem toGateS_any (v : Value) (ks : List (Int × Int)) (w : World) (h : CubesAt w v ks) (hlen : ks.length ≤ 1048576) :
    Calls Try.prog 65 #[v] w
      fun e w' => ∃ v', e = .returned v' ∧ w'.ownsRow w.heap.size 71 2 v' ks.length (cubes ks) ∧ Below w.heap.size w w' := by
  have hmk := run_make_any (P := Try.prog) 28 71 _ 2 16 Try.underlying28 info_gate .i64 .i64 ks.length (by omega) (by omega)
  obtain ⟨A, c, hv, hc, hcm⟩ := h.shape
  subst hv
  go_enter Try.func65, Try.ntmps65
  go_wp2
  have hown0 := World.ownsRow_lit (base := w.heap.size) (e := 71) (size := 2) w (madeCells (Value.agg #[.int .i64 0, .int .i64 0]).cells (ks.length * 2)) ks.length (Nat.le_refl _) (by unfold maxLen; omega) (by simp [madeCells])
  have hb0 : Below w.heap.size w (w.alloc (.cells (madeCells (Value.agg #[.int .i64 0, .int .i64 0]).cells (ks.length * 2)) 71)) := (Below.refl _ _).alloc (Nat.le_refl _) _
  go_loopw [4] (fun i wr => ∃ (k : Nat) (cs : List Value), k ≤ ks.length ∧ i = .int .i64 k ∧ wr.ownsRow w.heap.size 71 2 (.slice (some ⟨w.heap.size, 0, none⟩) ks.length ks.length) ks.length cs ∧ cs.take (k * 2) = (cubes ks).take (k * 2) ∧ Below w.heap.size w wr)
    (fun i _ => ks.length - (intOf i).toNat)
  case atStart => exact ⟨0, _, Nat.zero_le _, rfl, hown0, rfl, hb0⟩
  case round =>
    obtain ⟨k, cs, hk, rfl, hown, htk, hb⟩ := hrel
    clear hmk hown0 hb0
    by_cases hlt : k < ks.length
    · obtain ⟨b, o, x, rfl, hbl, hx, hs1, hs2⟩ := cubes_open h hb rfl hlt
      have hl := hown.1
      have Hb := Lib.hid hb
      have Hown := Lib.hid hown
      have Htk := Lib.hid htk
      clear h hb hown htk
      go_wp2_with fail
      refine (toGate_any _ _ _).mono ?_
      rintro e w2 ⟨rfl, hb2⟩
      have ho2 := own_below Hown.out hb2
      obtain ⟨u0, _, hd0, hf0⟩ := own_slot ho2 (j := k * 2) (by omega)
      obtain ⟨u1, _, hd1, hf1⟩ := own_slot ho2 (j := k * 2 + 1) (by omega)
      obtain ⟨g1, g2⟩ := cubes_get hx.out
      have st := (ho2.stored (k * 2) (.int .i64 x.1)).1
      have st2 := Lib.hid (st.stored (k * 2 + 1) (.int .i64 x.2)).1
      have tk2 := Lib.hid (take_set2 (by omega) Htk.out g1 g2)
      have hbb := Lib.hid ((Hb.out.trans (hb2.mono Hb.out.size)))
      clear hb2 ho2 st g1 g2 hl
      go_wp2
      go_roundw
      case rel => exact ⟨k + 1, _, by omega, by go_num, st2.out, tk2.out, (hbb.out.setCell (Nat.le_refl _) _).setCell (Nat.le_refl _) _⟩
      case measure => simp [intOf]; omega
    · go_wp2
      go_ret
      have e : cs = cubes ks := by
        have hl := hown.1
        rw [List.take_of_length_le (by omega), List.take_of_length_le (by rw [cubes_length]; omega)] at htk
        exact htk
      exact ⟨_, rfl, e ▸ hown, hb⟩

theorem szGateS_ok (v : Value) (n : Nat) (cs : List Value) (w : World) (left : Int) (h : Row w 2 v n cs) (hl : left ≤ 1048576) (hn : (n : Int) ≤ left) :
    Calls Try.prog 58 #[v, .int .i64 left] w
      fun e w' => e = .returned (.int .i64 (left - n)) ∧ w = w' := by
  obtain ⟨A, c, hv, hc, hcm⟩ := h.shape
  subst hv
  unfold maxLen at hcm
  have h0 : 0 ≤ left - n := by omega
  go_enter Try.func58, Try.ntmps58
  go_wp2
  go_ret
  exact ⟨rfl, rfl⟩
theorem szGateS_no (v : Value) (n : Nat) (cs : List Value) (w : World) (left : Int) (h : Row w 2 v n cs) (hl : 0 ≤ left) (hn : left < n) :
    Calls Try.prog 58 #[v, .int .i64 left] w
      fun e w' => e = .returned (.int .i64 (-1)) ∧ w = w' := by
  obtain ⟨A, c, hv, hc, hcm⟩ := h.shape
  subst hv
  unfold maxLen at hcm
  have h0 : left - n < 0 := by omega
  go_enter Try.func58, Try.ntmps58
  go_wp2
  go_ret
  exact ⟨rfl, rfl⟩
theorem eqGate_any (a b c d : Int) (w : World) :
    Calls Try.prog 131 #[.agg #[.int .i64 a, .int .i64 b], .agg #[.int .i64 c, .int .i64 d]] w
      fun e w' => e = .returned (.bool (decide ((a, b) = (c, d)))) ∧ Below w.heap.size w w' := by
  by_cases h1 : a = c
  · by_cases h2 : b = d
    · subst h1 h2
      have d1 : (a != a) = false := by simp
      have d2 : (b != b) = false := by simp
      go_enter Try.func131, Try.ntmps131
      go_wp2
      go_ret
      exact ⟨ret_bool (by simp), ((Below.refl _ _).alloc (Nat.le_refl _) _).alloc (by simp) _⟩
    · subst h1
      have d1 : (a != a) = false := by simp
      have d2 : (b != d) = true := by simpa using h2
      go_enter Try.func131, Try.ntmps131
      go_wp2
      go_ret
      exact ⟨ret_bool (by simp [h2]), ((Below.refl _ _).alloc (Nat.le_refl _) _).alloc (by simp) _⟩
  · have d1 : (a != c) = true := by simpa using h1
    go_enter Try.func131, Try.ntmps131
    go_wp2
    go_ret
    exact ⟨ret_bool (by simp [h1]), ((Below.refl _ _).alloc (Nat.le_refl _) _).alloc (by simp) _⟩

set_option maxRecDepth 100000 in
theorem eqGateS_any (v v2 : Value) (xs ys : List (Int × Int)) (w : World) (h : CubesAt w v xs) (h2 : CubesAt w v2 ys) :
    Calls Try.prog 70 #[v, v2] w
      fun e w' => e = .returned (.bool (decide (xs = ys))) ∧ Below w.heap.size w w' := by
  obtain ⟨A, c, hv, hc, hcm⟩ := h.shape
  obtain ⟨A2, c2, hv2, hc2, hcm2⟩ := h2.shape
  subst hv hv2
  unfold maxLen at hcm hcm2
  by_cases he : xs.length = ys.length
  · have hb := Lib.hid he
    have he1 : ((xs.length : Int) != (ys.length : Int)) = false := by rw [he]; simp
    have he2 : xs.length ≤ ys.length := by omega
    clear he
    go_enter Try.func70, Try.ntmps70
    go_wp2
    go_loopw [5] (fun i wr => ∃ (k : Nat), k ≤ xs.length ∧ i = .int .i64 k ∧ xs.take k = ys.take k ∧ Below w.heap.size w wr)
      (fun i _ => xs.length - (intOf i).toNat)
    case atStart => exact ⟨0, Nat.zero_le _, rfl, rfl, Below.refl _ _⟩
    case round =>
      obtain ⟨k, hk, rfl, htk, hd⟩ := hrel
      by_cases hlt : k < xs.length
      · obtain ⟨b, o, x, rfl, hbl, hx, hs1, hs2⟩ := cubes_open h hd rfl hlt
        obtain ⟨b2, o2, y, rfl, hbl2, hy, ht1, ht2⟩ := cubes_open h2 hd rfl (show k < ys.length by omega)
        have hlt2 : k < ys.length := by omega
        have Ht := Lib.hid htk
        have Hd := Lib.hid hd
        clear htk h h2 hd
        go_wp2
        go_still_tail 8, (by kernel_rfl)
        change wpList _ _ _ _ _ wr.drew
        have Hd' := Lib.hid Hd.out.drew
        generalize wr.drew = w1 at *
        by_cases hxy : x = y
        · have Hxy := Lib.hid hxy
          have hdec : decide ((x.1, x.2) = (y.1, y.2)) = true := decide_eq_true hxy
          clear hxy
          go_wp2_with (go_at_call 131; refine (eqGate_any _ _ _ _ _).mono ?_; rintro e w2 ⟨rfl, hb2⟩; rw [hdec])
          go_roundw
          case rel => exact ⟨k + 1, by omega, by go_num, by rw [take_snoc hx.out, take_snoc hy.out, Ht.out, Hxy.out], Hd'.out.trans (hb2.mono Hd'.out.size)⟩
          case measure => simp [intOf]; omega
        · have hdec : decide ((x.1, x.2) = (y.1, y.2)) = false := decide_eq_false hxy
          have Hxy := Lib.hid hxy
          clear hxy
          go_wp2_with (go_at_call 131; refine (eqGate_any _ _ _ _ _).mono ?_; rintro e w2 ⟨rfl, hb2⟩; rw [hdec])
          go_ret
          exact ⟨ret_bool (decide_eq_false (take_ne hx.out hy.out Hxy.out)).symm, Hd'.out.trans (hb2.mono Hd'.out.size)⟩
      · go_wp2
        go_ret
        have e : xs = ys := by
          rw [List.take_of_length_le (by omega), List.take_of_length_le (by have := hb.out; omega)] at htk
          exact htk
        exact ⟨ret_bool (decide_eq_true e).symm, hd⟩
  · have hn : xs ≠ ys := fun e => he (by rw [e])
    have Hn := Lib.hid hn
    have he1 : ((xs.length : Int) != (ys.length : Int)) = true := by rw [bne_iff_ne]; omega
    clear he hn
    go_enter Try.func70, Try.ntmps70
    go_wp2
    go_ret
    exact ⟨ret_bool (decide_eq_false Hn.out).symm, Below.refl _ _⟩
end Go.Proofs.Ytmlcbikljlhhkaa
