import Derived.Test.YtmlmnelbphjfbaaS02
import Derived.BigRegion
import Derived.Test.YtmlmnelbphjfbaaS01
import Derived.Laws.CopyOwn
set_option linter.unusedVariables false
set_option linter.unusedSimpArgs false
namespace Go.Proofs.Ytmlmnelbphjfbaa
open Go.RowKit
namespace Cir
/-- The table of a literal of a circuit without latches, from its lowest bits. -/
def tab (c : Ci) (l : Nat) : Nat → Nat
  | 0 => 0
  | k + 1 => tab c l k + (if lit (vals c [] (bits k c.ins)) l then 2 ^ k else 0)
theorem tab_lt (c : Ci) (l : Nat) : ∀ k, tab c l k < 2 ^ k
  | 0 => by simp [tab]
  | k + 1 => by
    have := tab_lt c l k
    rw [tab, Nat.pow_succ]
    split <;> omega
theorem tab_or (c : Ci) (l k : Nat) : tab c l k ||| 2 ^ k = tab c l k + 2 ^ k := by
  have h := Nat.two_pow_add_eq_or_of_lt (tab_lt c l k) 1
  rw [Nat.mul_one] at h
  rw [Nat.or_comm, ← h, Nat.add_comm]
end Cir
set_option maxRecDepth 100000
set_option maxHeartbeats 4000000
end Go.Proofs.Ytmlmnelbphjfbaa

namespace Go.Proofs.Ytmlmnelbphjfbaa
open Go.RowKit
set_option maxRecDepth 100000
/-! The values of a circuit, by the program. -/
theorem bits_snoc (x k : Nat) : Cir.bits x (k + 1) = Cir.bits x k ++ [x.testBit k] := by
  unfold Cir.bits
  rw [List.range_succ, List.map_append]
  rfl
theorem bits_get {x n k : Nat} (h : k < n) : (bools (Cir.bits x n))[k]? = some (.bool (x.testBit k)) := by
  simp [bools, Cir.bits, h]
end Go.Proofs.Ytmlmnelbphjfbaa

namespace Go.Proofs.Ytmlmnelbphjfbaa
/-! Circuits, plainly: the natural circuit of a valid one; ternary values; what the functions answer, as Lean functions. -/
namespace Cir
def nat (c : Cz) : Ci := { ins := c.ins.toNat, next := c.next.map Int.toNat, gates := c.gates.map fun g => (g.1.toNat, g.2.toNat), outs := c.outs.map Int.toNat }
theorem nat_toCz (d : Ci) : nat (toCz d) = d := by
  have e1 : ∀ l : List Nat, (l.map Int.ofNat).map Int.toNat = l := fun l => by
    rw [List.map_map]
    exact (List.map_congr_left fun x _ => (by simp : (Int.toNat ∘ Int.ofNat) x = id x)).trans (List.map_id l)
  have e2 : ∀ l : List (Nat × Nat), (l.map fun g => ((g.1 : Int), (g.2 : Int))).map (fun g => (g.1.toNat, g.2.toNat)) = l := fun l => by
    rw [List.map_map]
    exact (List.map_congr_left fun x _ => (by simp : ((fun g : Int × Int => (g.1.toNat, g.2.toNat)) ∘ fun g : Nat × Nat => ((g.1 : Int), (g.2 : Int))) x = id x)).trans (List.map_id l)
  unfold nat toCz
  simp only [e1, e2, Int.toNat_natCast]
theorem nat_ok {c : Cz} (h : valid c = true) : c = toCz (nat c) ∧ Ok (nat c) := by
  obtain ⟨d, rfl, hd⟩ := valid_nat h
  rw [nat_toCz]
  exact ⟨rfl, hd⟩
theorem vars_toCz (d : Ci) : vars (toCz d) = (nvars d : Nat) := by
  simp [vars, first, toCz, nvars, nfirst]
theorem first_toCz (d : Ci) : first (toCz d) = (nfirst d : Nat) := by
  simp [first, toCz, nfirst]
theorem bits_length (x n : Nat) : (bits x n).length = n := by simp [bits]
/-! ### Ternary values: 0, 1, and 2 for unknown -/
def tlit (v : List Nat) (l : Nat) : Nat := if v.getD (l / 2) 0 = 2 ∨ l % 2 = 0 then v.getD (l / 2) 0 else 1 - v.getD (l / 2) 0
def tand (a b : Nat) : Nat := if a = 0 ∨ b = 0 then 0 else if a = 1 ∧ b = 1 then 1 else 2
def tgval (v : List Nat) (g : Nat × Nat) : Nat := tand (tlit v g.1) (tlit v g.2)
def tevalG (gs : List (Nat × Nat)) (v : List Nat) : List Nat := gs.foldl (fun v g => v ++ [tgval v g]) v
def tvals (c : Ci) (st inp : List Nat) : List Nat := tevalG c.gates (0 :: (inp ++ st))
theorem tevalG_length : ∀ (gs : List (Nat × Nat)) (v : List Nat), (tevalG gs v).length = v.length + gs.length
  | [], v => rfl
  | g :: gs, v => by
    rw [tevalG, List.foldl_cons]
    have := tevalG_length gs (v ++ [tgval v g])
    rw [tevalG] at this
    rw [this]
    simp
    omega
theorem tevalG_take_snoc {gs : List (Nat × Nat)} {k : Nat} {g : Nat × Nat} (h : gs[k]? = some g) (v : List Nat) : tevalG (gs.take (k + 1)) v = tevalG (gs.take k) v ++ [tgval (tevalG (gs.take k) v) g] := by
  unfold tevalG
  rw [List.take_add_one, h, List.foldl_append]
  rfl
theorem tvals_length (c : Ci) {st inp : List Nat} (h1 : inp.length = c.ins) (h2 : st.length = c.next.length) : (tvals c st inp).length = nvars c := by
  rw [tvals, tevalG_length]
  simp [nvars, nfirst, h1, h2]
  omega
theorem tand_le (a b : Nat) : tand a b ≤ 2 := by unfold tand; split <;> (try split) <;> omega
theorem tlit_le {v : List Nat} (h : ∀ x ∈ v, x ≤ 2) (l : Nat) : tlit v l ≤ 2 := by
  have hx : v.getD (l / 2) 0 ≤ 2 := by
    rw [List.getD_eq_getElem?_getD]
    cases hi : v[l / 2]? with
    | none => simp
    | some x => exact h x (List.mem_of_getElem? hi)
  unfold tlit
  split <;> omega
theorem tevalG_le : ∀ (gs : List (Nat × Nat)) {v : List Nat}, (∀ x ∈ v, x ≤ 2) → ∀ x ∈ tevalG gs v, x ≤ 2
  | [], v, h => h
  | g :: gs, v, h => by
    have : tevalG (g :: gs) v = tevalG gs (v ++ [tgval v g]) := rfl
    rw [this]
    refine tevalG_le gs fun x hx => ?_
    rcases List.mem_append.1 hx with h1 | h1
    · exact h x h1
    · rw [List.mem_singleton.1 h1]; exact tand_le _ _
theorem tvals_le (c : Ci) {st inp : List Nat} (h1 : ∀ x ∈ st, x ≤ 2) (h2 : ∀ x ∈ inp, x ≤ 2) : ∀ x ∈ tvals c st inp, x ≤ 2 := by
  refine tevalG_le _ fun x hx => ?_
  rcases List.mem_cons.1 hx with rfl | hx
  · omega
  · rcases List.mem_append.1 hx with h | h
    · exact h2 x h
    · exact h1 x h
def tnext (c : Ci) (v : List Nat) : List Nat := c.next.map (tlit v)
/-- A ternary value that is right for a bit. -/
def Rt (t : Nat) (b : Bool) : Prop := t = 2 ∨ t = b.toNat
theorem rt_lit {v : List Nat} {u : List Bool} (hl : v.length = u.length) (h : ∀ (i t : Nat) (b : Bool), v[i]? = some t → u[i]? = some b → Rt t b) (l : Nat) (hlt : l / 2 < v.length) : Rt (tlit v l) (lit u l) := by
  have hv : v[l / 2]? = some (v[l / 2]'hlt) := List.getElem?_eq_getElem hlt
  have hu : u[l / 2]? = some (u[l / 2]'(by omega)) := List.getElem?_eq_getElem (by omega)
  have := h _ _ _ hv hu
  unfold tlit lit
  rw [List.getD_eq_getElem?_getD, List.getD_eq_getElem?_getD, hv, hu]
  generalize v[l / 2]'hlt = t at this
  generalize u[l / 2]'(by omega) = b at this
  simp only [Option.getD_some]
  unfold Rt at this ⊢
  rcases this with rfl | rfl
  · simp
  · right
    rcases Nat.mod_two_eq_zero_or_one l with h0 | h0
    · rw [h0]; cases b <;> simp
    · rw [h0]; cases b <;> simp
theorem rt_and {a b : Nat} {x y : Bool} (h1 : Rt a x) (h2 : Rt b y) : Rt (tand a b) (x && y) := by
  unfold Rt at *
  rcases h1 with rfl | rfl <;> rcases h2 with rfl | rfl <;> (try cases x) <;> (try cases y) <;> simp [tand]
def RtAll (v : List Nat) (u : List Bool) : Prop := v.length = u.length ∧ ∀ (i t : Nat) (b : Bool), v[i]? = some t → u[i]? = some b → Rt t b
theorem RtAll.snoc {v : List Nat} {u : List Bool} (h : RtAll v u) {t : Nat} {b : Bool} (ht : Rt t b) : RtAll (v ++ [t]) (u ++ [b]) := by
  refine ⟨by simp [h.1], fun i t' b' h1 h2 => ?_⟩
  rcases Nat.lt_or_ge i v.length with hi | hi
  · rw [List.getElem?_append_left hi] at h1
    rw [List.getElem?_append_left (by have := h.1; omega)] at h2
    exact h.2 i _ _ h1 h2
  · rw [List.getElem?_append_right hi] at h1
    rw [List.getElem?_append_right (by have := h.1; omega)] at h2
    have e : u.length = v.length := h.1.symm
    rw [e] at h2
    rcases hj : i - v.length with _ | j
    · rw [hj] at h1 h2
      simp at h1 h2
      subst h1 h2
      exact ht
    · rw [hj] at h1
      simp at h1
theorem rt_eval : ∀ (gs : List (Nat × Nat)) (f : Nat) {v : List Nat} {u : List Bool}, RtAll v u → v.length = f → (∀ (k : Nat) (g : Nat × Nat), gs[k]? = some g → g.1 < 2 * (f + k) ∧ g.2 < 2 * (f + k)) → RtAll (tevalG gs v) (evalG gs u)
  | [], f, v, u, h, _, _ => h
  | g :: gs, f, v, u, h, hf, hg => by
    have e1 : tevalG (g :: gs) v = tevalG gs (v ++ [tgval v g]) := rfl
    have e2 : evalG (g :: gs) u = evalG gs (u ++ [gval u g]) := rfl
    rw [e1, e2]
    have h0 := hg 0 g rfl
    refine rt_eval gs (f + 1) (h.snoc (rt_and (rt_lit h.1 h.2 _ (by omega)) (rt_lit h.1 h.2 _ (by omega)))) (by simp [hf]) fun k g' hk => ?_
    have := hg (k + 1) g' (by simpa using hk)
    omega
theorem rtAll_cons {v : List Nat} {u : List Bool} (h : RtAll v u) {t : Nat} {b : Bool} (ht : Rt t b) : RtAll (t :: v) (b :: u) := by
  refine ⟨by simp [h.1], fun i t' b' h1 h2 => ?_⟩
  cases i with
  | zero => simp at h1 h2; subst h1 h2; exact ht
  | succ i => simp at h1 h2; exact h.2 i _ _ h1 h2
theorem rtAll_append {v v' : List Nat} {u u' : List Bool} (h : RtAll v u) (h' : RtAll v' u') : RtAll (v ++ v') (u ++ u') := by
  refine ⟨by simp [h.1, h'.1], fun i t b h1 h2 => ?_⟩
  rcases Nat.lt_or_ge i v.length with hi | hi
  · rw [List.getElem?_append_left hi] at h1
    rw [List.getElem?_append_left (by have := h.1; omega)] at h2
    exact h.2 i _ _ h1 h2
  · rw [List.getElem?_append_right hi] at h1
    rw [List.getElem?_append_right (by have := h.1; omega)] at h2
    rw [← h.1] at h2
    exact h'.2 _ _ _ h1 h2
/-- A known ternary value is right for all completions. -/
theorem rt_vals (c : Ci) (hc : Ok c) {st inp : List Nat} {st' inp' : List Bool} (h1 : RtAll inp inp') (h2 : RtAll st st') (l1 : inp.length = c.ins) (l2 : st.length = c.next.length) : RtAll (tvals c st inp) (vals c st' inp') := by
  refine rt_eval c.gates (nfirst c) (rtAll_cons (rtAll_append h1 h2) (.inr rfl)) (by simp [nfirst, l1, l2]; omega) fun k g hk => ?_
  exact hc.gate k g hk
end Cir
end Go.Proofs.Ytmlmnelbphjfbaa

namespace Go.Proofs.Ytmlmnelbphjfbaa
open Go.RowKit
set_option maxRecDepth 100000
/-! The tables of literals. -/
theorem bools_lit0 (w : World) (t : TypeId) : BoolsAt (w.alloc (.cells #[] t)) (.slice (some ⟨w.heap.size, 0, none⟩) 0 0) [] :=
  ⟨rfl, _, 0, rfl, Nat.le_refl _, Nat.zero_le _, fun h => absurd h (by simp)⟩
end Go.Proofs.Ytmlmnelbphjfbaa

namespace Go.Proofs.Ytmlmnelbphjfbaa
open Go.RowKit
set_option maxRecDepth 100000
/-! The values of all variables, by the program. -/
theorem own_of_block {w : World} {base g n : Nat} {e : TypeId} {cs : List Value} (hb : base ≤ g) (hh : w.heap[g]? = some (.cells cs.toArray e (0, 0))) (hl : cs.length = n) (hm : n ≤ maxLen) : w.ownsRow base e 1 (.slice (some ⟨g, 0, none⟩) n n) n cs :=
  ⟨by omega, .inr ⟨g, n, cs.toArray, rfl, hb, hh, Nat.le_refl _, hm, by simp; omega, by rw [List.take_of_length_le]; simp; omega⟩⟩
theorem splice_two {α : Type} (a b : List α) (z : α) (n k : Nat) (hk : k = 1 + a.length) (hn : 1 + a.length + b.length ≤ n) : splice (splice (List.replicate n z) 1 a) k b = z :: (a ++ b) ++ List.replicate (n - (1 + a.length + b.length)) z := by
  subst hk
  obtain ⟨m, rfl⟩ : ∃ m, n = 1 + a.length + b.length + m := ⟨n - (1 + a.length + b.length), by omega⟩
  have e1 : splice (List.replicate (1 + a.length + b.length + m) z) 1 a = (z :: a) ++ List.replicate (b.length + m) z := by
    unfold splice
    rw [List.take_replicate, List.drop_replicate, show min 1 (1 + a.length + b.length + m) = 1 from by omega, show 1 + a.length + b.length + m - (1 + a.length) = b.length + m from by omega]
    rfl
  rw [e1]
  unfold splice
  rw [List.take_append_of_le_length (by simp; omega), List.take_of_length_le (by simp; omega), List.drop_append, List.drop_eq_nil_of_le (by simp; omega), List.nil_append, List.drop_replicate, show b.length + m - (1 + a.length + b.length - (z :: a).length) = m from by simp; omega, show 1 + a.length + b.length + m - (1 + a.length + b.length) = m from by omega]
  simp
theorem lit_append {A B : List Bool} {l : Nat} (h : l / 2 < A.length) : Cir.lit (A ++ B) l = Cir.lit A l := by
  unfold Cir.lit
  rw [List.getD_eq_getElem?_getD, List.getD_eq_getElem?_getD, List.getElem?_append_left h]
/-- A stop for the walk, at a copy. -/
structure Stop (p : Prop) : Prop where
  out : p
theorem stop_copy {P : Program} {w : World} {ops : Array Oper} {rest : List Oper} {o : Oper} {a : Act} {Q : Exit → Act → World → Prop} (d s : Operand) (dT sT : TypeId)
    (ho : o.op = .call { callee := .builtin .copy, args := #[d, s], argTypes := #[dT, sT] }) (h : Stop (wpList P ops Q (o :: rest) a w)) : wpList P ops Q (o :: rest) a w := h.out
theorem stop_slice {P : Program} {w : World} {ops : Array Oper} {rest : List Oper} {o : Oper} {a : Act} {Q : Exit → Act → World → Prop} (t : TypeId) (x : Operand) (lo hi mx : Option Operand)
    (ho : o.op = .slice t x lo hi mx) (h : Stop (wpList P ops Q (o :: rest) a w)) : wpList P ops Q (o :: rest) a w := h.out
end Go.Proofs.Ytmlmnelbphjfbaa

namespace Go.Proofs.Ytmlmnelbphjfbaa
open Go.RowKit
set_option maxRecDepth 100000
namespace Cir
/-- The values of a literal, an assignment each. -/
def litAt (d : Ci) (l x : Nat) : Bool := lit (vals d (bits (x / 2 ^ d.ins) d.next.length) (bits x d.ins)) l
def litTab (d : Ci) (l n : Nat) : List Bool := (List.range n).map (litAt d l)
theorem litTab_snoc (d : Ci) (l n : Nat) : litTab d l (n + 1) = litTab d l n ++ [litAt d l n] := by
  unfold litTab
  rw [List.range_succ, List.map_append]
  rfl
theorem litTab_length (d : Ci) (l n : Nat) : (litTab d l n).length = n := by simp [litTab]
theorem litTab_get (d : Ci) (l : Nat) {n k : Nat} (h : k < n) : (litTab d l n)[k]? = some (litAt d l k) := by simp [litTab, h]
theorem litAt_flat {d : Ci} (h : d.next = []) (l x : Nat) : litAt d l x = lit (vals d [] (bits x d.ins)) l := by
  unfold litAt
  rw [h]
  rfl
/-- What TableOf answers. -/
def tabI (c : Cz) (l : Int) : Int := if valid c = true ∧ c.next = [] ∧ isLit l (vars c) = true then (tab (nat c) l.toNat (2 ^ (nat c).ins) : Nat) else -1
end Cir
theorem valid_sizes {c : Cz} (h : Cir.valid c = true) : 0 ≤ c.ins ∧ c.ins ≤ 4 ∧ c.next.length ≤ 3 ∧ c.gates.length ≤ 14 ∧ c.outs.length ≤ 3 := by
  unfold Cir.valid at h
  rw [Bool.and_eq_true, Bool.and_eq_true] at h
  have := h.1.1
  unfold Cir.sizes at this
  simpa using this
theorem next_nil {c : Cz} (h : c.next = []) : (Cir.nat c).next = [] := by unfold Cir.nat; rw [h]; rfl
theorem table_ok {c : Cz} {l : Int} (h : Cir.valid c = true ∧ c.next = [] ∧ Cir.isLit l (Cir.vars c) = true) : ∃ (d : Ci) (m : Nat), c = Cir.toCz d ∧ l = (m : Int) ∧ Cir.Ok d ∧ d.next = [] ∧ m < 2 * Cir.nvars d ∧ Cir.tabI c l = (Cir.tab d m (2 ^ d.ins) : Nat) := by
  obtain ⟨h1, h2⟩ := Cir.nat_ok h.1
  have h3 := h.2.2
  unfold Cir.isLit at h3
  rw [decide_eq_true_eq] at h3
  have h4 : Cir.vars c = (Cir.nvars (Cir.nat c) : Nat) := by
    rw [← Cir.vars_toCz, ← h1]
  exact ⟨Cir.nat c, l.toNat, h1, by omega, h2, next_nil h.2.1, by omega, by unfold Cir.tabI; rw [if_pos h]⟩
theorem table_no {c : Cz} {l : Int} (h : ¬ (Cir.valid c = true ∧ c.next = [] ∧ Cir.isLit l (Cir.vars c) = true)) : (Cir.valid c = false ∨ (Cir.valid c = true ∧ 0 < c.next.length) ∨ (Cir.valid c = true ∧ c.next.length = 0 ∧ Cir.isLit l (Cir.vars c) = false)) ∧ Cir.tabI c l = -1 := by
  refine ⟨?_, by unfold Cir.tabI; rw [if_neg h]⟩
  cases hv : Cir.valid c
  · exact .inl rfl
  · by_cases hn : c.next = []
    · refine .inr (.inr ⟨rfl, by rw [hn]; rfl, ?_⟩)
      cases hl : Cir.isLit l (Cir.vars c)
      · rfl
      · exact absurd ⟨hv, hn, hl⟩ h
    · exact .inr (.inl ⟨rfl, List.length_pos_iff.2 hn⟩)
end Go.Proofs.Ytmlmnelbphjfbaa

namespace Go.Proofs.Ytmlmnelbphjfbaa
open Go.RowKit
set_option maxRecDepth 100000
/-! Ternary simulation: the small functions. -/
theorem tlit_of {v : List Nat} {l x : Nat} (h : v[l / 2]? = some x) : Cir.tlit v l = if x = 2 ∨ l % 2 = 0 then x else 1 - x := by
  unfold Cir.tlit
  rw [List.getD_eq_getElem?_getD, h]
  rfl
def Cir.tern (x : Int) : Bool := decide (0 ≤ x ∧ x ≤ 2)
theorem all_dropT {p : Int → Bool} {l : List Int} {k : Nat} {x : Int} (h : l[k]? = some x) : (l.drop k).all p = (p x && (l.drop (k + 1)).all p) := all_drop h
end Go.Proofs.Ytmlmnelbphjfbaa

namespace Go.Proofs.Ytmlmnelbphjfbaa
open Go.RowKit
set_option maxRecDepth 100000
/-! Ternary simulation: the values of all variables, by the program. -/
theorem tlit_append {A B : List Nat} {l : Nat} (h : l / 2 < A.length) : Cir.tlit (A ++ B) l = Cir.tlit A l := by
  unfold Cir.tlit
  rw [List.getD_eq_getElem?_getD, List.getD_eq_getElem?_getD, List.getElem?_append_left h]
end Go.Proofs.Ytmlmnelbphjfbaa

namespace Go.Proofs.Ytmlmnelbphjfbaa
open Go.RowKit
set_option maxRecDepth 100000
/-! Values of lists of literals; numbers of bits. -/
theorem lits_snoc {v : List Bool} {ls : List Nat} {k l : Nat} (h : ls[k]? = some l) : Cir.lits v (ls.take (k + 1)) = Cir.lits v (ls.take k) ++ [Cir.lit v l] := by
  unfold Cir.lits
  rw [take_snoc h, List.map_append]
  rfl
theorem lits_length (v : List Bool) (ls : List Nat) : (Cir.lits v ls).length = ls.length := List.length_map _
theorem l2Lits_any (v vl : Value) (xs : List Bool) (ls : List Nat) (w : World) (h : BoolsAt w v xs) (hl : NatsAt w vl ls) (hlt : ∀ l ∈ ls, l < 2 * xs.length) (hn : ls.length ≤ 1000) (hx : xs.length ≤ 1000) :
    Calls Try.prog 54 #[v, vl] w (OwnBools (Cir.lits xs ls) w) := by
  obtain ⟨A, c, rfl, hc, hcm⟩ := hl.shape
  have Hl := Lib.hid hl
  have H := Lib.hid h
  have HLt := Lib.hid hlt
  clear hl h hlt
  go_enter Try.func54, Try.ntmps54
  go_wp2_with fail
  go_loopw [5, 6] (fun v i wr => ∃ (vv : Value) (k : Nat), vv = v ∧ k ≤ ls.length ∧ i = .int .i64 k ∧ Hid (wr.ownsRow w.heap.size 4 1 v k (bools (Cir.lits xs (ls.take k)))) ∧ Below w.heap.size w wr) (fun _ i _ => ls.length - (intOf i).toNat)
  case atStart => exact ⟨_, 0, rfl, Nat.zero_le _, rfl, Lib.hid (World.ownsRow_lit (base := w.heap.size) (e := 4) (size := 1) w #[] 0 (Nat.le_refl _) (by unfold maxLen; omega) rfl), (Below.refl _ _).alloc (Nat.le_refl _) _⟩
  case round =>
    obtain ⟨vv, k, hvv, hk, rfl, Ho, hb⟩ := hrel
    subst hvv
    by_cases hlt : k < ls.length
    · have hz := hb.size
      have Hb := Lib.hid hb
      obtain ⟨b, o, l, rfl, hbl, hx0, hs0⟩ := nats_cell (nats_row (Hl.out.below hb)) rfl hlt
      have hl2 := HLt.out l (List.mem_of_getElem? hx0.out)
      have HS : Hid (bools (Cir.lits xs (ls.take (k + 1))) = bools (Cir.lits xs (ls.take k)) ++ [.bool (Cir.lit xs l)]) := Lib.hid (by rw [lits_snoc hx0.out, bools_append]; rfl)
      have Hx := Lib.hid (Row.below H.out hb)
      clear hb
      go_wp2_with fail
      refine (l2Lit_any _ xs l _ Hx.out hl2 (by omega)).mono ?_
      rintro e w' ⟨rfl, rfl⟩
      generalize Cir.lit xs l = u at *
      have Hlit := Lib.hid (Row.of_own (World.ownsRow_lit (base := wr.heap.size) (e := 4) (size := 1) wr #[.bool u] 1 (Nat.le_refl _) (by unfold maxLen; omega) rfl))
      go_wp2_with (at_builtin; refine append_bools rfl (.tmp 14) (.tmp 21) rfl w.heap.size _ k _ rfl (Ho.out.alloc _) _ 1 [.bool u] rfl Hlit.out (by simp [Value.oneCell']) (by omega) (by simp; omega) ?_; intro v7 w7 hown7 hg7 hat7; have Ho7 := Lib.hid hown7; have Hg7 := Lib.hid hg7; clear hown7 hg7 hat7)
      go_roundw
      case rel => exact ⟨_, k + 1, rfl, by omega, by go_num, Lib.hid (by rw [HS.out]; exact Ho7.out), (Hb.out.alloc hz _).grown Hg7.out (Hb.out.alloc hz _).size (own_ge0 Ho.out)⟩
      case measure => simp [intOf] <;> omega
    · obtain rfl : k = ls.length := by omega
      go_wp2_with fail
      go_ret
      exact ⟨_, rfl, by rw [lits_length]; have := Ho.out; rwa [List.take_length] at this, hb⟩
/-! ### numbers -/
theorem num_append : ∀ (a b : List Bool), Cir.num (a ++ b) = Cir.num a + 2 ^ a.length * Cir.num b
  | [], b => by simp [Cir.num]
  | x :: a, b => by
    rw [List.cons_append, Cir.num, Cir.num, num_append a b, List.length_cons, Nat.pow_succ]
    rw [Nat.mul_add, ← Nat.mul_assoc, Nat.mul_comm 2 (2 ^ a.length)]
    omega
theorem num_snoc (a : List Bool) (b : Bool) : Cir.num (a ++ [b]) = Cir.num a + (if b then 2 ^ a.length else 0) := by
  rw [num_append]
  cases b <;> simp [Cir.num]
theorem num_drop {l : List Bool} {k : Nat} {b : Bool} (h : l[k]? = some b) : Cir.num (l.drop k) = (if b then 1 else 0) + 2 * Cir.num (l.drop (k + 1)) := by
  obtain ⟨hk, rfl⟩ := List.getElem?_eq_some_iff.1 h
  rw [List.drop_eq_getElem_cons hk, Cir.num]
theorem num_or {a : List Bool} : Cir.num a ||| 2 ^ a.length = Cir.num a + 2 ^ a.length := by
  have h := Cir.num_lt a
  rw [Nat.or_comm]
  have := Nat.two_pow_add_eq_or_of_lt h 1
  rw [Nat.mul_one] at this
  omega
theorem l16Number_any (v : Value) (xs : List Bool) (w : World) (h : BoolsAt w v xs) (hx : xs.length ≤ 16) :
    Calls Try.prog 45 #[v] w fun e w' => e = .returned (.int .i64 (Cir.num xs : Nat)) ∧ w = w' := by
  obtain ⟨A, c, hv, hc, hcm⟩ := Row.shape h
  subst hv
  have H := Lib.hid h
  have H0 : Hid (xs.drop xs.length = []) := Lib.hid (List.drop_eq_nil_of_le (Nat.le_refl _))
  have HD : Hid (xs.drop 0 = xs) := Lib.hid rfl
  clear h
  go_enter Try.func45, Try.ntmps45
  go_wp2_with fail
  go_loop [3, 4] (fun x i => ∃ (k : Nat), k ≤ xs.length ∧ i = .int .i64 ((k : Int) - 1) ∧ x = .int .i64 (Cir.num (xs.drop k) : Nat)) (fun _ i => (intOf i + 1).toNat)
  case atStart => exact ⟨xs.length, Nat.le_refl _, rfl, by rw [H0.out]; rfl⟩
  case round =>
    obtain ⟨k, hk, rfl, rfl⟩ := hrel
    by_cases hlt : 0 < k
    · obtain ⟨j, rfl⟩ : ∃ j, k = j + 1 := ⟨k - 1, by omega⟩
      have ej : ((j + 1 : Nat) : Int) - 1 = (j : Int) := by omega
      rw [ej]
      obtain ⟨b, o, u, rfl, hbl, hx0, hs0⟩ := bools_open H.out (Below.refl _ _) rfl (show j < xs.length by omega)
      have HS : Hid (Cir.num (xs.drop j) = (if u then 1 else 0) + 2 * Cir.num (xs.drop (j + 1))) := Lib.hid (num_drop hx0.out)
      have hlt2 : Cir.num (xs.drop (j + 1)) < 65536 := by
        have h1 := Cir.num_lt (xs.drop (j + 1))
        have h2 : 2 ^ (xs.drop (j + 1)).length ≤ 2 ^ 16 := Nat.pow_le_pow_right (show 0 < 2 by decide) (by rw [List.length_drop]; omega)
        omega
      generalize Cir.num (xs.drop (j + 1)) = N at *
      clear ej
      cases u
      · go_wp2_with fail
        go_round
        case rel => exact ⟨j, by omega, by go_num, by rw [HS.out]; simp only [Bool.false_eq_true, if_false, Nat.zero_add]; rfl⟩
        case measure => simp [intOf] <;> omega
      · go_wp2_with fail
        go_round
        case rel => exact ⟨j, by omega, by go_num, by first | (rw [HS.out]; done) | (rw [HS.out]; go_num)⟩
        case measure => simp [intOf] <;> omega
    · obtain rfl : k = 0 := by omega
      go_wp2_with fail
      go_ret
      exact ⟨rfl, rfl⟩
end Go.Proofs.Ytmlmnelbphjfbaa

namespace Go.Proofs.Ytmlmnelbphjfbaa
open Go.RowKit
set_option maxRecDepth 100000
/-! One clock cycle, by the program. -/
theorem toCz_next (d : Ci) : (Cir.toCz d).next.length = d.next.length := List.length_map _
theorem toCz_outs (d : Ci) : (Cir.toCz d).outs.length = d.outs.length := List.length_map _
theorem toCz_gates (d : Ci) : (Cir.toCz d).gates.length = d.gates.length := List.length_map _
end Go.Proofs.Ytmlmnelbphjfbaa

namespace Go.Proofs.Ytmlmnelbphjfbaa
open Go.RowKit
set_option maxRecDepth 100000
/-! One clock cycle, by the reference. -/
/-- What l2Step makes. -/
def OwnStep (so st : List Bool) (w : World) (e : Ending) (w' : World) : Prop := ∃ a b, e = .returned (.agg #[a, b]) ∧ w'.ownsRow w.heap.size 4 1 a so.length (bools so) ∧ w'.ownsRow w.heap.size 4 1 b st.length (bools st) ∧ Below w.heap.size w w'
/-- The result's cells. -/
def R1Step (g0 : Nat) (so st : List Bool) (w : World) : Prop := ∃ a b, g0 + 1 < w.heap.size ∧ w.cell? ⟨g0 + 1, 0, none⟩ = some a ∧ w.cell? ⟨g0 + 1, 1, none⟩ = some b ∧ w.ownsRow (g0 + 2) 4 1 a so.length (bools so) ∧ w.ownsRow (g0 + 2) 4 1 b st.length (bools st)
theorem R1Step.below {g0 : Nat} {so st : List Bool} {w w' : World} (h : R1Step g0 so st w) (hb : Below w.heap.size w w') : R1Step g0 so st w' := by
  obtain ⟨a, b, hg, c0, c1, o0, o1⟩ := h
  exact ⟨a, b, Nat.lt_of_lt_of_le hg hb.size, (hb.cell (p := ⟨g0 + 1, 0, none⟩) hg).trans c0, (hb.cell (p := ⟨g0 + 1, 1, none⟩) hg).trans c1, own_below o0 hb, own_below o1 hb⟩
set_option maxHeartbeats 4000000 in
theorem l2Step_any (v vs vi : Value) (d : Ci) (st inp : List Bool) (w : World) (h : CircAt w v (Cir.toCz d)) (hd : Cir.Ok d) (hs : BoolsAt w vs st) (hi : BoolsAt w vi inp) (h1 : inp.length = d.ins) (h2 : st.length = d.next.length) :
    Calls Try.prog 51 #[v, vs, vi] w (OwnStep (Cir.lits (Cir.vals d st inp) d.outs) (Cir.lits (Cir.vals d st inp) d.next) w) := by
  have l2 := hd.nexts
  have l3 := hd.outss
  have HN := Lib.hid hd.next
  have HO := Lib.hid hd.out
  have HC := Lib.hid h
  obtain ⟨vn, vg, vo, rfl, r1, r2, r3⟩ := h
  obtain ⟨An, cn, rfl, hcn, hcmn⟩ := NatsAt.shape (xs := d.next) r1
  obtain ⟨Ao, co, rfl, hco, hcmo⟩ := NatsAt.shape (xs := d.outs) r3
  have hins : (Cir.toCz d).ins = (d.ins : Int) := rfl
  rw [hins] at HC ⊢
  obtain ⟨ag, hag⟩ : ∃ ag, ag = Obj.cells #[.int .i64 d.ins, .slice An d.next.length cn, vg, .slice Ao d.outs.length co] 48 := ⟨_, rfl⟩
  have hbz := bel_new w ag
  obtain ⟨z, p0, p1, p2, p3⟩ := PCells.boxed w d.ins (.slice An d.next.length cn) vg (.slice Ao d.outs.length co) 48
  rw [← hag] at z p0 p1 p2 p3
  have HL : Hid ((Cir.vals d st inp).length = Cir.nvars d) := Lib.hid (Cir.vals_length d h1 h2)
  have hnv : Cir.nvars d ≤ 22 := by have := hd.gatess; have := hd.ins; unfold Cir.nvars Cir.nfirst; omega
  have hb1 := bel_new (w.alloc ag) (.cells #[.slice none 0 0, .slice none 0 0] 75)
  have B0 := Lib.hid (hbz.trans (hb1.mono hbz.size))
  have P0 := Lib.hid (PCells.below ⟨z, p0, p1, p2, p3⟩ hb1)
  have R1 : Hid (NatsAt w (.slice An d.next.length cn) d.next) := Lib.hid r1
  have R3 : Hid (NatsAt w (.slice Ao d.outs.length co) d.outs) := Lib.hid r3
  have HW : Hid (((w.alloc ag).alloc (.cells #[.slice none 0 0, .slice none 0 0] 75)).heap[w.heap.size + 1]? = some (.cells #[.slice none 0 0, .slice none 0 0] 75 (0, 0))) := Lib.hid (by
    have := heap_alloc_new (w.alloc ag) (.cells #[.slice none 0 0, .slice none 0 0] 75)
    rwa [World.size_alloc] at this)
  have HV := Lib.hid (l2Values_any _ _ _ d st inp _ (HC.out.below B0.out) hd (Row.below hs B0.out) (Row.below hi B0.out) h1 h2)
  have hsz : ((w.alloc ag).alloc (.cells #[.slice none 0 0, .slice none 0 0] 75)).heap.size = w.heap.size + 2 := by simp
  clear r1 r2 r3 z p0 p1 p2 p3 hbz hb1 hs hi h1 h2 HC hd hins
  go_enter Try.func51, Try.ntmps51
  obtain ⟨z, p0, p1, p2, p3⟩ := P0.out
  go_wp2_with fail
  rw [← hag]
  clear hag
  generalize (w.alloc ag).alloc (.cells #[.slice none 0 0, .slice none 0 0] 75) = W at *
  generalize Cir.vals d st inp = V at *
  refine HV.out.mono ?_
  rintro e w1 ⟨v1, rfl, hO1, hb1⟩
  have B1 := Lib.hid (B0.out.trans (hb1.mono B0.out.size))
  have HW1 := Lib.hid ((hb1.block _ (by omega)).trans HW.out)
  have HV1 := Lib.hid (own_mono hO1 (show w.heap.size + 2 ≤ W.heap.size by omega))
  have P1 := Lib.hid (P0.out.below hb1)
  have z1 := hb1.size
  clear hb1 hO1 P0 HW HV p0 p1 p2 p3 z B0
  obtain ⟨z, p0, p1, p2, p3⟩ := P1.out
  go_wp2_with fail
  obtain ⟨G, hG⟩ : ∃ G, G = w.heap.size + 1 := ⟨_, rfl⟩
  have hO := fun ops a => stepRS_ok (Pg := Try.prog) (ops := ops) (w := w1) (a := a) (E := fun g => g = w.heap.size + 1) (R0 := fun w' => w'.heap[w.heap.size + 1]? = some (.cells #[.slice none 0 0, .slice none 0 0] 75 (0, 0)))
    (R1 := R1Step w.heap.size (Cir.lits V d.outs) (Cir.lits V d.next)) (d := 9) (fun g hg => by have h : g = w.heap.size + 1 := hg; omega) (fun w1 w2 h hb => (hb.block _ (heap_lt h)).trans h) (fun _ _ => R1Step.below)
  have HBw : ∀ w', Only (fun g => g = w.heap.size + 1) w1 w' → Below w.heap.size w w' := fun w' ho => Only.below B1.out ho B1.out.size (fun g hg => by have h : g = w.heap.size + 1 := hg; omega)
  have HVw : ∀ w', Only (fun g => g = w.heap.size + 1) w1 w' → BoolsAt w' v1 V := fun w' ho => ownBools_at (own_only HV1.out ho (fun g hg he => by have h1 := (HV1.out.lt g hg).1; have h : g = w.heap.size + 1 := he; omega))
  refine wp_region_rs (stepRS Try.prog _ w1 _ (fun g => g = w.heap.size + 1) (fun w' => w'.heap[w.heap.size + 1]? = some (.cells #[.slice none 0 0, .slice none 0 0] 75 (0, 0))) (R1Step w.heap.size (Cir.lits V d.outs) (Cir.lits V d.next)) 9) (hO _ _) (by kernel_rfl) (by kernel_rfl) (by kernel_rfl) (Nat.le_of_ble_eq_true rfl) trivial HW1.out ?_
  refine rs_old (hO _ _) (.inl (Nat.ne_of_beq_eq_false rfl)) _ (.inl rfl) _ rfl rfl ?_
  apply rs_eq (hO _ _) (.inl (Nat.ne_of_beq_eq_false rfl))
  · intro ρ w' ho hK
    have ho : Only _ w1 w' := ho
    obtain ⟨h0, -⟩ := hK
    have h0' : ρ (.tmp 3) = _ := h0
    go_simp
    try exact rfl
  apply rs_eq (hO _ _) (.inl (Nat.ne_of_beq_eq_false rfl))
  · intro ρ w' ho hK
    have ho : Only _ w1 w' := ho
    obtain ⟨h0, -⟩ := hK
    have h0' : ρ (.tmp 13) = _ := h0
    have q1 := cell_on ho (by omega) z p1
    have q3 := cell_on ho (by omega) z p3
    go_simp
    try exact rfl
  refine rs_call (hO _ _) (.inl (Nat.ne_of_beq_eq_false rfl)) (TOwn (w.heap.size + 2) 4 1 (Cir.lits V d.outs).length (bools (Cir.lits V d.outs))) (stb_own (fun g hg => by have h : g = w.heap.size + 1 := hg; omega) _ _ _ _) 54 _ _ rfl (fun ρ w' ho hK => by
    have ho : Only _ w1 w' := ho
    obtain ⟨h0, h1, h2, -⟩ := hK
    have h0' : ρ (.func 54) = .func (.func 54) #[] #[] := h0
    have h1' : ρ (.tmp 12) = _ := h1
    have h2' : ρ (.tmp 14) = _ := h2
    refine ⟨#[ρ (.tmp 12), ρ (.tmp 14)], ?_, ?_⟩
    · go_simp
    · rw [h1', h2']
      refine (l2Lits_any _ _ V d.outs w' (HVw _ ho) (R3.out.below (HBw _ ho)) (by rw [HL.out]; exact HO.out) (by omega) (by rw [HL.out]; omega)).mono ?_
      rintro e w2 ⟨v2, rfl, hO2, hb2⟩
      exact ⟨v2, rfl, own_mono hO2 (by have := ho.size; omega), hb2⟩) ?_
  refine rs_old (hO _ _) (.inl (Nat.ne_of_beq_eq_false rfl)) _ (.inl rfl) _ rfl rfl ?_
  apply rs_eq (hO _ _) (.inl (Nat.ne_of_beq_eq_false rfl))
  · intro ρ w' ho hK
    have ho : Only _ w1 w' := ho
    obtain ⟨h0, -⟩ := hK
    have h0' : ρ (.tmp 3) = _ := h0
    go_simp
    try exact rfl
  apply rs_eq (hO _ _) (.inl (Nat.ne_of_beq_eq_false rfl))
  · intro ρ w' ho hK
    have ho : Only _ w1 w' := ho
    obtain ⟨h0, -⟩ := hK
    have h0' : ρ (.tmp 17) = _ := h0
    have q1 := cell_on ho (by omega) z p1
    have q3 := cell_on ho (by omega) z p3
    go_simp
    try exact rfl
  refine rs_call (hO _ _) (.inl (Nat.ne_of_beq_eq_false rfl)) (TOwn (w.heap.size + 2) 4 1 (Cir.lits V d.next).length (bools (Cir.lits V d.next))) (stb_own (fun g hg => by have h : g = w.heap.size + 1 := hg; omega) _ _ _ _) 54 _ _ rfl (fun ρ w' ho hK => by
    have ho : Only _ w1 w' := ho
    obtain ⟨h0, h1, h2, -⟩ := hK
    have h0' : ρ (.func 54) = .func (.func 54) #[] #[] := h0
    have h1' : ρ (.tmp 16) = _ := h1
    have h2' : ρ (.tmp 18) = _ := h2
    refine ⟨#[ρ (.tmp 16), ρ (.tmp 18)], ?_, ?_⟩
    · go_simp
    · rw [h1', h2']
      refine (l2Lits_any _ _ V d.next w' (HVw _ ho) (R1.out.below (HBw _ ho)) (by rw [HL.out]; exact HN.out) (by omega) (by rw [HL.out]; omega)).mono ?_
      rintro e w2 ⟨v2, rfl, hO2, hb2⟩
      exact ⟨v2, rfl, own_mono hO2 (by have := ho.size; omega), hb2⟩) ?_
  refine rs_look (hO _ _) (.inl (Nat.ne_of_beq_eq_false rfl)) (TOwn2 (w.heap.size + 2) 4 (Cir.lits V d.outs).length (bools (Cir.lits V d.outs)) 4 (Cir.lits V d.next).length (bools (Cir.lits V d.next))) (stb_own2 (fun g hg => by have h : g = w.heap.size + 1 := hg; omega) _ _ _ _ _ _) (fun ρ w' ho hK => by
    have ho : Only _ w1 w' := ho
    obtain ⟨h1, h2, -⟩ := hK
    have h1' : w'.ownsRow (w.heap.size + 2) 4 1 (ρ (.tmp 15)) (Cir.lits V d.outs).length (bools (Cir.lits V d.outs)) := h1
    have h2' : w'.ownsRow (w.heap.size + 2) 4 1 (ρ (.tmp 19)) (Cir.lits V d.next).length (bools (Cir.lits V d.next)) := h2
    obtain ⟨A1, c1, e1⟩ := slice_of_own h1'
    obtain ⟨A2, c2, e2⟩ := slice_of_own h2'
    refine ⟨.agg #[ρ (.tmp 15), ρ (.tmp 19)], ?_, ⟨_, _, rfl, h1', h2'⟩⟩
    go_simp) ?_
  refine rs_do rfl rfl rfl (fun ρ w' ho h0 hK => by
    have ho : Only _ w1 w' := ho
    obtain ⟨h1, h2, -⟩ := hK
    have h1' : ρ (.tmp 6) = .pointer (some ⟨w.heap.size + 1, 0, none⟩) := h1
    obtain ⟨a, b, e2, oa, ob⟩ : (TOwn2 (w.heap.size + 2) 4 (Cir.lits V d.outs).length (bools (Cir.lits V d.outs)) 4 (Cir.lits V d.next).length (bools (Cir.lits V d.next))) w' (ρ (.tmp 20)) := h2
    obtain ⟨A1, c1, rfl⟩ := slice_of_own oa
    obtain ⟨A2, c2, rfl⟩ := slice_of_own ob
    have hl := heap_lt h0
    have k0 := blk_cell h0 0
    have k1 := blk_cell h0 1
    have f0 := blk_free h0 0
    have f1 := blk_free h0 1
    simp at k0 k1
    have s1 := heap_setCell_same w' (w.heap.size + 1) 0 _ _ (.slice A1 (Cir.lits V d.outs).length c1) h0
    have s2 := heap_setCell_same _ (w.heap.size + 1) 1 _ _ (.slice A2 (Cir.lits V d.next).length c2) s1
    refine ⟨(w'.setCell ⟨w.heap.size + 1, 0, none⟩ (.slice A1 (Cir.lits V d.outs).length c1)).setCell ⟨w.heap.size + 1, 1, none⟩ (.slice A2 (Cir.lits V d.next).length c2), ?_, ⟨_, _, heap_lt s2, blk_cell s2 0, blk_cell s2 1, ?_, ?_⟩, ?_⟩
    · clear s1 s2
      go_simp
    · exact own_set (own_set oa (by omega)) (by omega)
    · exact own_set (own_set ob (by omega)) (by omega)
    · exact (Only.grown (set_grown w' (w.heap.size + 1) 0 _) (fun q hq => (Option.some.inj hq).symm)).trans (Only.grown (set_grown _ (w.heap.size + 1) 1 _) (fun q hq => (Option.some.inj hq).symm))) ?_
  intro f w9 k9 hk9 hI9 ht9 hcp9
  have E0 : f 0 = _ := ht9 0 (Nat.le_of_ble_eq_true rfl)
  conv at E0 => rhs; whnf
  have E1 : f 1 = _ := ht9 1 (Nat.le_of_ble_eq_true rfl)
  have E2 : f 2 = _ := ht9 2 (Nat.le_of_ble_eq_true rfl)
  have E3 : (TOwn (w.heap.size + 2) 4 1 (Cir.lits V d.outs).length (bools (Cir.lits V d.outs))) w9 (f 3) := ht9 3 (Nat.le_of_ble_eq_true rfl)
  have E4 : f 4 = _ := ht9 4 (Nat.le_of_ble_eq_true rfl)
  conv at E4 => rhs; whnf
  have E5 : f 5 = _ := ht9 5 (Nat.le_of_ble_eq_true rfl)
  have E6 : f 6 = _ := ht9 6 (Nat.le_of_ble_eq_true rfl)
  have E7 : (TOwn (w.heap.size + 2) 4 1 (Cir.lits V d.next).length (bools (Cir.lits V d.next))) w9 (f 7) := ht9 7 (Nat.le_of_ble_eq_true rfl)
  have E8 : (TOwn2 (w.heap.size + 2) 4 (Cir.lits V d.outs).length (bools (Cir.lits V d.outs)) 4 (Cir.lits V d.next).length (bools (Cir.lits V d.next))) w9 (f 8) := ht9 8 (Nat.le_of_ble_eq_true rfl)
  have E9 : (TAny) w9 (f 9) := ht9 9 (Nat.le_of_ble_eq_true rfl)
  have Ho9 : Only _ w1 w9 := hI9.2.1
  have HJ9 := hI9.2.2
  simp only [putAll, E0, E1, E2, E4, E5, E6, Nat.zero_add, Nat.reduceAdd, Act.put, List.setIfInBounds_toArray, List.set_cons_succ, List.set_cons_zero]
  clear E0 E1 E2 E4 E5 E6
  clear hI9 ht9 hcp9 hk9
  generalize f 3 = r3 at *
  generalize f 7 = r7 at *
  generalize f 8 = r8 at *
  generalize f 9 = r9 at *
  have hR : R1Step w.heap.size (Cir.lits V d.outs) (Cir.lits V d.next) w9 := HJ9
  have B := Lib.hid (HBw _ Ho9)
  obtain ⟨a, b, hg, c0, c1, oa, ob⟩ := hR
  have Oa := Lib.hid oa
  have Ob := Lib.hid ob
  clear E3 E7 E8 E9 HJ9 Ho9 oa ob HBw HVw hO p0 p1 p2 p3
  go_wp2_with fail
  exact bodyPost_ret (v := .agg #[a, b]) (by simp [results, Try.results51, go_sem, c0, c1]) rfl ⟨_, _, rfl, own_mono Oa.out (by omega), own_mono Ob.out (by omega), B.out⟩
end Go.Proofs.Ytmlmnelbphjfbaa

namespace Go.Proofs.Ytmlmnelbphjfbaa
open Go.RowKit Go.Op Go.Instr
set_option maxRecDepth 100000
/-! What laws do with lists and circuits. -/
theorem sameInts_same (v v2 : Value) (xs : List Int) (w : World) (h : IntsAt w v xs) (h2 : IntsAt w v2 xs) :
    Calls Try.prog 12 #[v, v2] w
      fun e w' => e = .returned (.bool true) ∧ Below w.heap.size w w' := by
  obtain ⟨A, c, hv, hc, hcm⟩ := h.shape
  obtain ⟨A2, c2, hv2, hc2, hcm2⟩ := h2.shape
  subst hv hv2
  unfold maxLen at hcm hcm2
  have he1 : ((xs.length : Int) != (xs.length : Int)) = false := by simp
  go_enter Try.func12, Try.ntmps12
  go_wp2
  go_loopw [5] (fun i wr => ∃ (k : Nat), k ≤ xs.length ∧ i = .int .i64 k ∧ Below w.heap.size w wr)
    (fun i _ => xs.length - (intOf i).toNat)
  case atStart => exact ⟨0, Nat.zero_le _, rfl, Below.refl _ _⟩
  case round =>
    obtain ⟨k, hk, rfl, hd⟩ := hrel
    by_cases hlt : k < xs.length
    · obtain ⟨b, o, x, rfl, hbl, hx, hs1⟩ := ints_open h hd rfl hlt
      obtain ⟨b2, o2, y, rfl, hbl2, hy, ht1⟩ := ints_open h2 hd rfl hlt
      obtain rfl : x = y := Option.some.inj (hx.out.symm.trans hy.out)
      have Hd := Lib.hid hd
      have hz := hd.size
      have g1 := gw_cell hs1 (by simp only; omega)
      have g3 := gw_cell ht1 (by simp only; omega)
      have hne : (x != x) = false := by simp
      clear h h2 hd hs1 ht1 hx hy
      go_wp2
      refine wp_region_grow (by kernel_rfl) (by kernel_rfl) ?_
      repeat (go_big_quiet_step ((fail)))
      refine wpQuiet_nil ?_
      intro _ hw'
      obtain ⟨nq, hw''⟩ := hw'
      subst hw''
      have hgq := gw_below nq
      generalize gw nq = wq at *
      clear nq
      clear hne g1 g3
      go_wp2_with fail
      go_roundw
      case rel => exact ⟨k + 1, by omega, by go_num, Hd.out.trans (hgq.mono hz)⟩
      case measure => simp [intOf] <;> omega
    · go_wp2
      go_ret
      exact ⟨rfl, hd⟩
theorem own_set' {w : World} {base n size : Nat} {e : TypeId} {v : Value} {xs : List Value} {g i : Nat} {u : Value} (h : w.ownsRow base e size v n xs) (hg : g < base) : (w.setCell ⟨g, i, none⟩ u).ownsRow base e size v n xs :=
  own_kept h (set_grown w g i u) fun k hk e => by have := (h.lt k hk).1; have := Option.some.inj e; omega
theorem run_eql_nilB (w : World) (g n c : Nat) : (binOp .eql 70 (.slice (some ⟨g, 0, none⟩) n c) (.slice none 0 0)).run Try.prog w = .ok (.bool false) w := by kernel_rfl
end Go.Proofs.Ytmlmnelbphjfbaa

namespace Go.Proofs.Ytmlmnelbphjfbaa
open Go.RowKit
set_option maxRecDepth 100000
/-! A drawn circuit. -/
theorem Only.aft {E F : Nat → Prop} {a b c : World} (h : Only E a b) (h' : Only F b c) (hF : ∀ g, F g → a.heap.size ≤ g ∨ E g) : Only E a c :=
  ⟨h'.os.trans h.os, h'.tape.trans h.tape, h'.output.trans h.output, Nat.le_trans h.size h'.size, fun k hk hn => (h'.block k (Nat.lt_of_lt_of_le hk h.size) (fun hf => by
    rcases hF k hf with h1 | h1
    · omega
    · exact hn h1)).trans (h.block k hk hn)⟩
theorem odd_every (n : Int) (R P : Nat) (w : World) (h : Rd w R P) (hP : P ≤ 1000000) (h1 : 0 ≤ n) (h2 : n ≤ 1000000) :
    Calls Try.prog 24 #[.pointer (some ⟨R, 0, none⟩), .int .i64 n] w (Odd R P w) := by
  by_cases hn : n = 0
  · subst hn
    refine (odd_zero R P w h).mono ?_
    rintro e w' ⟨rfl, rfl⟩
    exact ⟨false, rfl, h.more (by omega), World.grownBy.refl w _⟩
  · exact odd_any n R P w h hP (by omega) h2
theorem ix_drawn : IxOk Try.prog 28 := by
  intro w g n j h1 h2
  have : (j : Int) < (n : Int) := by omega
  simp [Instr.indexAt, go_sem, Try.underlying28, Result.andThen, h1]
theorem fn_draw : FnOk Try.prog 23 := by
  intro args w
  kernel_rfl
theorem ag_drawn : ∀ w, (isAgg 3).run Try.prog w = .ok false w := by
  intro w
  kernel_rfl
/-- pick, whatever is asked for. -/
theorem pick_upto (n : Int) (hi : Nat) (R P : Nat) (w : World) (h : Rd w R P) (hP : P ≤ 1000000) (h1 : 1 ≤ n) (h2 : n ≤ hi + 1) (h3 : hi ≤ 999999) :
    Calls Try.prog 23 #[.pointer (some ⟨R, 0, none⟩), .int .i64 n] w fun e w' => ∃ x : Int, 0 ≤ x ∧ x ≤ hi ∧ e = .returned (.int .i64 x) ∧ Rd w' R (P + 1) ∧ w.grownBy w' (some R) :=
  (pick_any n R P w h hP h1 (by omega)).mono fun _ _ ⟨x, h4, h5, h6⟩ => ⟨x, h4, by omega, h6⟩
/-- A circuit under construction: its box, its rows. -/
structure CB (gm : Nat) (c : Cz) (vN vG vO : Value) (w : World) : Prop where
  box : w.heap[gm]? = some (.cells #[.int .i64 c.ins, vN, vG, vO] 48 (0, 0))
  n : w.ownsRow (gm + 1) 3 1 vN c.next.length (ints c.next)
  g : w.ownsRow (gm + 1) 59 2 vG c.gates.length (cubes c.gates)
  o : w.ownsRow (gm + 1) 3 1 vO c.outs.length (ints c.outs)
  ng : Apart vN vG
  no : Apart vN vO
  go : Apart vG vO
theorem ints_app4 (xs : List Int) (a b c d : Int) : ints (xs ++ [a, b, c, d]) = ints xs ++ [.int .i64 a, .int .i64 b, .int .i64 c, .int .i64 d] := by simp [ints]
theorem blk_lt {w : World} {g : Nat} {o : Obj} (h : w.heap[g]? = some o) : g < w.heap.size := by
  rcases Nat.lt_or_ge g w.heap.size with hl | hl
  · exact hl
  · rw [Array.getElem?_eq_none hl] at h
    cases h
theorem CB.start {ins : Int} {w : World} (_ : True) : CB w.heap.size ⟨ins, [], [], []⟩ (.slice none 0 0) (.slice none 0 0) (.slice none 0 0) (w.alloc (.cells #[.int .i64 ins, .slice none 0 0, .slice none 0 0, .slice none 0 0] 48)) :=
  ⟨heap_alloc_new _ _, World.ownsRow_nil _ _ _ _, World.ownsRow_nil _ _ _ _, World.ownsRow_nil _ _ _ _, fun _ h => by simp [Value.ownBlock] at h, fun _ h => by simp [Value.ownBlock] at h, fun _ h => by simp [Value.ownBlock] at h⟩
section
variable {gm : Nat} {c : Cz} {vN vG vO : Value} {w w' : World}
theorem CB.only {E : Nat → Prop} (h : CB gm c vN vG vO w) (ho : Only E w w') (hE : ∀ g, gm ≤ g → ¬ E g) : CB gm c vN vG vO w' :=
  ⟨(ho.block gm (blk_lt h.box) (hE gm (Nat.le_refl _))).trans h.box, own_only h.n ho (fun g hg => hE g (by have := (h.n.lt g hg).1; omega)), own_only h.g ho (fun g hg => hE g (by have := (h.g.lt g hg).1; omega)), own_only h.o ho (fun g hg => hE g (by have := (h.o.lt g hg).1; omega)), h.ng, h.no, h.go⟩
theorem CB.drawn {R : Nat} (h : CB gm c vN vG vO w) (hg : w.grownBy w' (some R)) (hR : R < gm) : CB gm c vN vG vO w' :=
  h.only (E := (· = R)) (Only.grown hg fun k hk => (Option.some.inj hk).symm) fun g hg e => by subst e; omega
theorem CB.below (h : CB gm c vN vG vO w) (hb : Below w.heap.size w w') : CB gm c vN vG vO w' :=
  h.only (E := fun _ => False) (Only.of_below _ hb) fun _ _ e => e
theorem CB.cells (h : CB gm c vN vG vO w) : gm < w.heap.size ∧ w.cell? ⟨gm, 0, none⟩ = some (.int .i64 c.ins) ∧ w.cell? ⟨gm, 1, none⟩ = some vN ∧ w.cell? ⟨gm, 2, none⟩ = some vG ∧ w.cell? ⟨gm, 3, none⟩ = some vO :=
  ⟨blk_lt h.box, blk_cell h.box 0, blk_cell h.box 1, blk_cell h.box 2, blk_cell h.box 3⟩
theorem CB.free (h : CB gm c vN vG vO w) : w.frozen? ⟨gm, 0, none⟩ = false ∧ w.frozen? ⟨gm, 1, none⟩ = false ∧ w.frozen? ⟨gm, 2, none⟩ = false ∧ w.frozen? ⟨gm, 3, none⟩ = false :=
  ⟨blk_free h.box 0, blk_free h.box 1, blk_free h.box 2, blk_free h.box 3⟩
/-- Another number in the box. -/
theorem CB.setIns (h : CB gm c vN vG vO w) (x : Int) : CB gm { c with ins := x } vN vG vO (w.setCell ⟨gm, 0, none⟩ (.int .i64 x)) :=
  ⟨heap_setCell_same w gm 0 _ _ _ h.box, own_set' h.n (Nat.lt_succ_self _), own_set' h.g (Nat.lt_succ_self _), own_set' h.o (Nat.lt_succ_self _), h.ng, h.no, h.go⟩
theorem apart_at {v v' u : Value} (h : Apart v u) (hat : ∀ g, v'.ownBlock = some g → v.ownBlock = some g ∨ w.heap.size ≤ g) (hu : ∀ g, u.ownBlock = some g → g < w.heap.size) : Apart v' u := fun g hg e => by
  rcases hat g hg with h1 | h1
  · exact h g h1 e
  · have := hu g e; omega
theorem at_of {v v' : Value} (hat : v'.ownBlock = v.ownBlock ∨ v'.ownBlock = some w.heap.size) : ∀ g, v'.ownBlock = some g → v.ownBlock = some g ∨ w.heap.size ≤ g := fun g hg => by
  rcases hat with h | h
  · exact .inl (h ▸ hg)
  · rw [h] at hg; exact .inr (by have := Option.some.inj hg; omega)
/-- More of a row: what lies elsewhere. w0: the world in which the row was v; w1: that of the append. -/
theorem CB.addN {w1 : World} {E : Nat → Prop} {v' : Value} {xs : List Int} (h : CB gm c vN vG vO w) (ho : Only E w w1) (hE : ∀ g, gm ≤ g → vN.ownBlock ≠ some g → ¬ E g) (hown : w1.ownsRow (gm + 1) 3 1 v' xs.length (ints xs)) (hat : ∀ g, v'.ownBlock = some g → vN.ownBlock = some g ∨ w.heap.size ≤ g) :
    CB gm { c with next := xs } v' vG vO (w1.setCell ⟨gm, 1, none⟩ v') := by
  have hgm : vN.ownBlock ≠ some gm := fun e => by have := (h.n.lt gm e).1; omega
  have hbox := (ho.block gm (blk_lt h.box) (hE gm (Nat.le_refl _) hgm)).trans h.box
  exact ⟨heap_setCell_same w1 gm 1 _ _ _ hbox, own_set' hown (Nat.lt_succ_self _), own_set' (own_only h.g ho fun g hg => hE g (by have := (h.g.lt g hg).1; omega) fun e => h.ng g e hg) (Nat.lt_succ_self _), own_set' (own_only h.o ho fun g hg => hE g (by have := (h.o.lt g hg).1; omega) fun e => h.no g e hg) (Nat.lt_succ_self _), apart_at h.ng hat fun g hg => (h.g.lt g hg).2, apart_at h.no hat fun g hg => (h.o.lt g hg).2, h.go⟩
theorem CB.addG {w1 : World} {E : Nat → Prop} {v' : Value} {xs : List (Int × Int)} (h : CB gm c vN vG vO w) (ho : Only E w w1) (hE : ∀ g, gm ≤ g → vG.ownBlock ≠ some g → ¬ E g) (hown : w1.ownsRow (gm + 1) 59 2 v' xs.length (cubes xs)) (hat : ∀ g, v'.ownBlock = some g → vG.ownBlock = some g ∨ w.heap.size ≤ g) :
    CB gm { c with gates := xs } vN v' vO (w1.setCell ⟨gm, 2, none⟩ v') := by
  have hgm : vG.ownBlock ≠ some gm := fun e => by have := (h.g.lt gm e).1; omega
  have hbox := (ho.block gm (blk_lt h.box) (hE gm (Nat.le_refl _) hgm)).trans h.box
  exact ⟨heap_setCell_same w1 gm 2 _ _ _ hbox, own_set' (own_only h.n ho fun g hg => hE g (by have := (h.n.lt g hg).1; omega) fun e => h.ng g hg e) (Nat.lt_succ_self _), own_set' hown (Nat.lt_succ_self _), own_set' (own_only h.o ho fun g hg => hE g (by have := (h.o.lt g hg).1; omega) fun e => h.go g e hg) (Nat.lt_succ_self _), (apart_at h.ng.symm hat fun g hg => (h.n.lt g hg).2).symm, h.no, apart_at h.go hat fun g hg => (h.o.lt g hg).2⟩
theorem CB.addO {w1 : World} {E : Nat → Prop} {v' : Value} {xs : List Int} (h : CB gm c vN vG vO w) (ho : Only E w w1) (hE : ∀ g, gm ≤ g → vO.ownBlock ≠ some g → ¬ E g) (hown : w1.ownsRow (gm + 1) 3 1 v' xs.length (ints xs)) (hat : ∀ g, v'.ownBlock = some g → vO.ownBlock = some g ∨ w.heap.size ≤ g) :
    CB gm { c with outs := xs } vN vG v' (w1.setCell ⟨gm, 3, none⟩ v') := by
  have hgm : vO.ownBlock ≠ some gm := fun e => by have := (h.o.lt gm e).1; omega
  have hbox := (ho.block gm (blk_lt h.box) (hE gm (Nat.le_refl _) hgm)).trans h.box
  exact ⟨heap_setCell_same w1 gm 3 _ _ _ hbox, own_set' (own_only h.n ho fun g hg => hE g (by have := (h.n.lt g hg).1; omega) fun e => h.no g hg e) (Nat.lt_succ_self _), own_set' (own_only h.g ho fun g hg => hE g (by have := (h.g.lt g hg).1; omega) fun e => h.go g hg e) (Nat.lt_succ_self _), own_set' hown (Nat.lt_succ_self _), h.ng, (apart_at h.no.symm hat fun g hg => (h.n.lt g hg).2).symm, (apart_at h.go.symm hat fun g hg => (h.g.lt g hg).2).symm⟩
end
theorem info_gate' : (Try.prog.info? 59).map (fun i => (i.zero, i.size, i.bytes)) = some (some (.agg #[.int .i64 0, .int .i64 0]), 2, 16) := by kernel_rfl
theorem append_gates {w : World} {ops : Array Oper} {rest : List Oper} {o : Oper} {a : Act} {Q : Exit → Act → World → Prop} (hgd : o.guard = none) (s x : Operand)
    (ho : o.op = .call { callee := .builtin .append, args := #[s, x], argTypes := #[46, 46] })
    (base : Nat) (v : Value) (n : Nat) (xs : List Value) (hs : a.eval s = v) (hown : w.ownsRow base 59 2 v n xs) (sv : Value) (m : Nat) (news : List Value) (hx : a.eval x = sv) (hr : Row w 2 sv m news) (h1 : ∀ u ∈ news, u.oneCell' = true)
    (h63 : n + m ≤ 1000000) (hbase : base ≤ w.heap.size)
    (h : ∀ v' w', w'.ownsRow base 59 2 v' (n + m) (xs ++ news) → w.grownBy w' v.ownBlock → (v'.ownBlock = v.ownBlock ∨ v'.ownBlock = some w.heap.size) → wpList Try.prog ops Q rest (a.put o.dst v') w') : wpList Try.prog ops Q (o :: rest) a w := by
  obtain ⟨i, hi, hz0, hz1, hz2⟩ := info_parts info_gate'
  exact wpList_append_at hgd s x 46 ho base 59 i _ 2 16 Try.underlying46 hi hz0 hz1 hz2 rfl (by decide) v n xs hs hown sv m news hx hr h1 (by unfold maxLen; omega) (by omega) hbase h
/-- The append's world, as the box sees it. -/
theorem app_only {w w' : World} {o : Obj} {v : Value} (hg : (w.alloc o).grownBy w' v.ownBlock) : Only (fun g => v.ownBlock = some g) w w' :=
  (Only.of_below _ (bel_new w o)).trans (Only.grown hg fun _ hk => hk)
theorem app_at {w : World} {o : Obj} {v v' : Value} (hat : v'.ownBlock = v.ownBlock ∨ v'.ownBlock = some (w.alloc o).heap.size) : ∀ g, v'.ownBlock = some g → v.ownBlock = some g ∨ w.heap.size ≤ g := fun g hg =>
  (at_of hat g hg).imp id fun h => by rw [World.size_alloc] at h; omega
theorem app_rd {w w' : World} {o : Obj} {v : Value} {R P B n size : Nat} {e : TypeId} {xs : List Value} (h : Rd w R P) (hg : (w.alloc o).grownBy w' v.ownBlock) (hown : w.ownsRow B e size v n xs) (hB : R < B) : Rd w' R P :=
  (h.alloc o).grown hg fun k hk => by have := (hown.lt k hk).1; omega
def gsLen (gm : Nat) (w : World) : Nat := match w.cell? ⟨gm, 2, none⟩ with
  | some (.slice _ n _) => n
  | _ => 0
theorem gsLen_is {gm : Nat} {c : Cz} {vN vG vO : Value} {w : World} (h : CB gm c vN vG vO w) : gsLen gm w = c.gates.length := by
  obtain ⟨A, k, e⟩ := slice_of_own h.g
  subst e
  obtain ⟨_, _, _, h2, _⟩ := h.cells
  unfold gsLen
  rw [h2]
/-- A circuit of the call's own. -/
def OwnC (B : Nat) (v : Value) (c : Cz) (w : World) : Prop := ∃ vN vG vO, v = .agg #[.int .i64 c.ins, vN, vG, vO] ∧ w.ownsRow B 3 1 vN c.next.length (ints c.next) ∧ w.ownsRow B 59 2 vG c.gates.length (cubes c.gates) ∧ w.ownsRow B 3 1 vO c.outs.length (ints c.outs) ∧ Apart vN vG ∧ Apart vN vO ∧ Apart vG vO
theorem OwnC.at {B : Nat} {v : Value} {c : Cz} {w : World} (h : OwnC B v c w) : CircAt w v c := by
  obtain ⟨vN, vG, vO, rfl, h1, h2, h3, -⟩ := h
  exact ⟨vN, vG, vO, rfl, Row.of_own h1, Row.of_own h2, Row.of_own h3⟩
def LitS (x : Int) : Prop := -100 ≤ x ∧ x ≤ 1000
/-- What is known of a drawn circuit's numbers. -/
structure Small (c : Cz) : Prop where
  i1 : -1 ≤ c.ins
  i2 : c.ins ≤ 5
  n : c.next.length ≤ 4
  g : c.gates.length ≤ 15
  o : c.outs.length ≤ 7
  ln : ∀ x ∈ c.next, LitS x
  lg : ∀ x ∈ c.gates, LitS x.1 ∧ LitS x.2
  lo : ∀ x ∈ c.outs, LitS x
def DrewC (R P : Nat) (w : World) (e : Ending) (w' : World) : Prop := ∃ v c, e = .returned v ∧ OwnC w.heap.size v c w' ∧ Small c ∧ Rd w' R (P + 10000) ∧ w.grownBy w' (some R)
theorem only_drawn {E : Nat → Prop} {a b c : World} {R : Nat} (h : Only E a b) (hg : b.grownBy c (some R)) (hR : a.heap.size ≤ R ∨ E R) : Only E a c :=
  h.aft (F := (· = R)) (Only.grown hg fun k hk => (Option.some.inj hk).symm) fun g hg => by subst hg; exact hR
theorem only_alloc {E : Nat → Prop} {a b : World} (h : Only E a b) (o : Obj) : Only E a (b.alloc o) :=
  h.trans (Only.of_below _ (bel_new b o))
theorem only_set {E : Nat → Prop} {a b : World} {g i : Nat} {v : Value} (h : Only E a b) (hg : a.heap.size ≤ g) : Only E a (b.setCell ⟨g, i, none⟩ v) :=
  h.aft (F := (· = g)) (Only.grown (set_grown b g i v) fun k hk => (Option.some.inj hk).symm) fun k hk => by subst hk; exact .inl hg
theorem rd_set {w : World} {R P g i : Nat} {v : Value} (h : Rd w R P) (hg : R < g) : Rd (w.setCell ⟨g, i, none⟩ v) R P :=
  h.grown (set_grown w g i v) fun k hk => by have := Option.some.inj hk; omega
theorem res_set {w : World} {g k i : Nat} {o : Obj} {v : Value} (h : w.heap[k]? = some o) (hg : k ≠ g) : (w.setCell ⟨g, i, none⟩ v).heap[k]? = some o :=
  ((set_grown w g i v).block k (blk_lt h) (fun e => hg (Option.some.inj e))).trans h
theorem res_grown {w w' : World} {k : Nat} {r : Option Nat} {o : Obj} (h : w.heap[k]? = some o) (hg : w.grownBy w' r) (hr : r ≠ some k) : w'.heap[k]? = some o :=
  (hg.block k (blk_lt h) (fun e => hr e.symm)).trans h
theorem cb_set {gm : Nat} {c : Cz} {vN vG vO : Value} {w : World} (h : CB gm c vN vG vO w) {k i : Nat} (u : Value) (hk : k < gm) : CB gm c vN vG vO (w.setCell ⟨k, i, none⟩ u) :=
  h.only (E := (· = k)) (Only.grown (set_grown w k i u) fun g hg => (Option.some.inj hg).symm) fun g hg e => by subst e; omega
theorem finC {gm : Nat} {c : Cz} {vN vG vO : Value} {w0 w : World} {R P Q : Nat} (HC : CB gm c vN vG vO w) (HO : Only (· = R) w0 w) (Hr : Rd w R Q) (hk : w0.heap.size < gm) (hR : R < w0.heap.size) (hQ : Q ≤ P + 10000) (hs : Small c) (a b d e : Value) :
    DrewC R P w0 (.returned (.agg #[.int .i64 c.ins, vN, vG, vO])) ((((w.setCell ⟨w0.heap.size, 0, none⟩ a).setCell ⟨w0.heap.size, 1, none⟩ b).setCell ⟨w0.heap.size, 2, none⟩ d).setCell ⟨w0.heap.size, 3, none⟩ e) := by
  have H := cb_set (i := 3) (cb_set (i := 2) (cb_set (i := 1) (cb_set (i := 0) HC a hk) b hk) d hk) e hk
  exact ⟨_, c, rfl, ⟨vN, vG, vO, rfl, own_mono H.n (by omega), own_mono H.g (by omega), own_mono H.o (by omega), H.ng, H.no, H.go⟩, hs, (rd_set (rd_set (rd_set (rd_set Hr hR) hR) hR) hR).more hQ, (only_set (only_set (only_set (only_set HO (Nat.le_refl _)) (Nat.le_refl _)) (Nat.le_refl _)) (Nat.le_refl _)).grownBy⟩
end Go.Proofs.Ytmlmnelbphjfbaa

namespace Go.Proofs.Ytmlmnelbphjfbaa
open Go.RowKit
set_option maxRecDepth 100000
/-! A drawn circuit: the walk. -/
set_option maxHeartbeats 16000000 in
theorem l20Circuit_any (R P : Nat) (n : Int) (w : World) (h : Rd w R P) (hP : P ≤ 100000) (h0 : 0 ≤ n) (h1 : n ≤ 1000) :
    Calls Try.prog 33 #[.pointer (some ⟨R, 0, none⟩), .int .i64 n] w (DrewC R P w) := by
  have Hr := Lib.hid h
  have zR := h.lt
  clear h
  go_enter Try.func33, Try.ntmps33
  go_wp2_with fail
  refine (pick_any 5 _ P _ (Hr.out.alloc _) (by omega) (by omega) (by omega)).mono ?_
  rintro e w1 ⟨x, hx0, hx1, rfl, hr1, hg1⟩
  have Hr1 := Lib.hid hr1
  have HO1 := Lib.hid (only_drawn (only_alloc (Only.refl (· = R) w) _) hg1 (.inr rfl))
  have HX1 := Lib.hid (res_grown (heap_alloc_new w _) hg1 (fun e => by have := Option.some.inj e; omega))
  have z1 := hg1.size
  rw [World.size_alloc] at z1
  clear hr1 hg1 Hr
  go_wp2_with fail
  have hb2 := bel_new w1 (.cells #[.int .i64 x, .slice none 0 0, .slice none 0 0, .slice none 0 0] 48)
  have HC2 := Lib.hid (CB.start (ins := x) (w := w1) trivial)
  have Hr2 := Lib.hid (Hr1.out.alloc (.cells #[.int .i64 x, .slice none 0 0, .slice none 0 0, .slice none 0 0] 48))
  have HO2 := Lib.hid (only_alloc HO1.out (.cells #[.int .i64 x, .slice none 0 0, .slice none 0 0, .slice none 0 0] 48))
  have HX2 := Lib.hid ((hb2.block w.heap.size (by omega)).trans HX1.out)
  clear Hr1 HO1 HX1 hb2
  obtain ⟨gm, hgm⟩ : ∃ gm, gm = w1.heap.size := ⟨_, rfl⟩
  rw [← hgm] at HC2 ⊢
  have hgm1 : w.heap.size + 1 ≤ gm := by omega
  clear hgm z1
  generalize w1.alloc (.cells #[.int .i64 x, .slice none 0 0, .slice none 0 0, .slice none 0 0] 48) = w2 at *
  refine (pick_any 4 _ _ _ Hr2.out (by omega) (by omega) (by omega)).mono ?_
  rintro e w3 ⟨y, hy0, hy1, rfl, hr3, hg3⟩
  have Hr3 := Lib.hid hr3
  have HO3 := Lib.hid (only_drawn HO2.out hg3 (.inr rfl))
  have HX3 := Lib.hid (res_grown HX2.out hg3 (fun e => by have := Option.some.inj e; omega))
  have HC3 := Lib.hid (HC2.out.drawn hg3 (by omega))
  clear hr3 hg3 Hr2 HO2 HX2 HC2
  obtain ⟨zm, p0, -⟩ := HC3.out.cells
  go_wp2_with fail
  refine (pick_any 15 _ _ _ Hr3.out (by omega) (by omega) (by omega)).mono ?_
  rintro e w4 ⟨k0, hk0, hk1, rfl, hr4, hg4⟩
  have Hr4 := Lib.hid hr4
  have HO4 := Lib.hid (only_drawn HO3.out hg4 (.inr rfl))
  have HX4 := Lib.hid (res_grown HX3.out hg4 (fun e => by have := Option.some.inj e; omega))
  have HC4 := Lib.hid (HC3.out.drawn hg4 (by omega))
  clear hr4 hg4 Hr3 HO3 HX3 HC3 zm p0
  go_wp2_with fail
  go_loopw [7, 8] (fun m k wr => ∃ (M K : Int) (gs : List (Int × Int)) (vG : Value), m = .int .i64 M ∧ k = .int .i64 K ∧ 0 ≤ K ∧ gs.length + K ≤ 14 ∧ 1 ≤ M ∧ M ≤ 8 + gs.length ∧ Hid (∀ q ∈ gs, LitS q.1 ∧ LitS q.2) ∧ Hid (CB gm ⟨x, [], gs, []⟩ (.slice none 0 0) vG (.slice none 0 0) wr) ∧ Hid (Rd wr R (P + 100 + 10 * gs.length)) ∧ Hid (Only (· = R) w wr) ∧ Hid (wr.heap[w.heap.size]? = some (.cells #[.int .i64 0, .slice none 0 0, .slice none 0 0, .slice none 0 0] 48 (0, 0)))) (fun _ k _ => (intOf k).toNat)
  case atStart => exact ⟨_, k0, [], _, rfl, rfl, hk0, by simp; omega, by omega, by simp; omega, Lib.hid (by simp), HC4, Lib.hid (Hr4.out.more (by omega)), HO4, HX4⟩
  case round =>
    obtain ⟨M, K, gs, vG, rfl, rfl, hK, hKl, hM, hM2, Hl, HC, Hr, HO, HX⟩ := hrel
    clear HC4 Hr4 HO4 HX4
    by_cases hpos : 0 < K
    · go_wp2_with fail
      refine (pick_any (2 * M) _ _ _ Hr.out (by omega) (by omega) (by omega)).mono ?_
      rintro e w5 ⟨a, ha0, ha1, rfl, hr5, hg5⟩
      have Hr5 := Lib.hid hr5
      have HO5 := Lib.hid (only_drawn HO.out hg5 (.inr rfl))
      have HX5 := Lib.hid (res_grown HX.out hg5 (fun e => by have := Option.some.inj e; omega))
      have HC5 := Lib.hid (HC.out.drawn hg5 (by omega))
      clear hr5 hg5 Hr HO HX HC
      go_wp2_with fail
      refine (pick_any (2 * M) _ _ _ Hr5.out (by omega) (by omega) (by omega)).mono ?_
      rintro e w6 ⟨b, hb0, hb1, rfl, hr6, hg6⟩
      have Hr6 := Lib.hid hr6
      have HO6 := Lib.hid (only_drawn HO5.out hg6 (.inr rfl))
      have HX6 := Lib.hid (res_grown HX5.out hg6 (fun e => by have := Option.some.inj e; omega))
      have HC6 := Lib.hid (HC5.out.drawn hg6 (by omega))
      clear hr6 hg6 Hr5 HO5 HX5 HC5
      go_wp2_with fail
      refine (pick_any 3 _ _ _ Hr6.out (by omega) (by omega) (by omega)).mono ?_
      rintro e w7 ⟨z, hz0, hz1, rfl, hr7, hg7⟩
      have Hr7 := Lib.hid hr7
      have HO7 := Lib.hid (only_drawn HO6.out hg7 (.inr rfl))
      have HX7 := Lib.hid (res_grown HX6.out hg7 (fun e => by have := Option.some.inj e; omega))
      have HC7 := Lib.hid (HC6.out.drawn hg7 (by omega))
      clear hr7 hg7 Hr6 HO6 HX6 HC6
      by_cases hz : 0 < z
      · by_cases h6 : 2 * M < 6
        · go_wp2_with fail
          refine (pick_any (2 * M) _ _ _ Hr7.out (by omega) (by omega) (by omega)).mono ?_
          rintro e w8 ⟨u, hu0, hu1, rfl, hr8, hg8⟩
          have Hr8 := Lib.hid hr8
          have HO8 := Lib.hid (only_drawn HO7.out hg8 (.inr rfl))
          have HX8 := Lib.hid (res_grown HX7.out hg8 (fun e => by have := Option.some.inj e; omega))
          have HC8 := Lib.hid (HC7.out.drawn hg8 (by omega))
          clear hr8 hg8 Hr7 HO7 HX7 HC7
          have hne8 : vG.ownBlock ≠ some gm := fun e => by have := (HC8.out.g.lt gm e).1; omega
          obtain ⟨zm, p0, p1, p2, p3⟩ := HC8.out.cells
          have Hlit := Lib.hid (Row.of_own (World.ownsRow_lit (base := w8.heap.size) (e := 59) (size := 2) w8 #[.int .i64 (2 * M - 1 - u), .int .i64 b] 1 (Nat.le_refl _) (by unfold maxLen; omega) rfl))
          have z8 := zm
          go_wp2_with (
            at_builtin
            refine append_gates rfl (.tmp 50) (.tmp 54) rfl (gm + 1) _ gs.length _ rfl (HC8.out.g.alloc _) _ 1 [.int .i64 (2 * M - 1 - u), .int .i64 b] rfl Hlit.out (by simp [Value.oneCell']) (by omega) (by simp; omega) ?_
            intro v9 w9 hown9 hg9 hat9
            obtain ⟨A9, c9, e9⟩ := slice_of_own hown9
            subst e9
            have Ho9 := Lib.hid hown9
            have HE9 := Lib.hid (app_only hg9)
            have Hr9 := Lib.hid (app_rd Hr8.out hg9 HC8.out.g (by omega))
            have Hat9 := Lib.hid (app_at hat9)
            have hbx := (HE9.out.block gm (blk_lt HC8.out.box) hne8).trans HC8.out.box
            have q2 := blk_cell hbx 2
            have q2f := blk_free hbx 2
            have zq := blk_lt hbx
            simp at q2
            clear hown9 hg9 hat9 hbx)
          go_roundw
          case rel =>
            refine ⟨M + 1, K - 1, gs ++ [((2 * M - 1 - u), b)], .slice A9 (gs.length + 1) c9, by go_num, by go_num, by omega, by simp; omega, by omega, by simp; omega, Lib.hid fun q hq => ?_, Lib.hid ?_, Lib.hid ?_, Lib.hid ?_, Lib.hid ?_⟩
            · rcases List.mem_append.1 hq with h | h
              · exact Hl.out q h
              · rw [List.mem_singleton.1 h]
                unfold LitS
                simp only
                omega
            · refine HC8.out.addG (xs := gs ++ [((2 * M - 1 - u), b)]) HE9.out (fun g _ hn => hn) ?_ Hat9.out
              rw [List.length_append, cubes_append]
              exact Ho9.out
            · exact (rd_set Hr9.out (by omega)).more (by simp; omega)
            · exact only_set (HO8.out.aft HE9.out fun g hg => .inl (by have := (HC8.out.g.lt g hg).1; omega)) (by omega)
            · exact res_set ((HE9.out.block _ (blk_lt HX8.out) (fun e => by have := (HC8.out.g.lt _ e).1; omega)).trans HX8.out) (by omega)
          case measure => simp [intOf]; omega
        · go_wp2_with fail
          refine (pick_any 6 _ _ _ Hr7.out (by omega) (by omega) (by omega)).mono ?_
          rintro e w8 ⟨u, hu0, hu1, rfl, hr8, hg8⟩
          have Hr8 := Lib.hid hr8
          have HO8 := Lib.hid (only_drawn HO7.out hg8 (.inr rfl))
          have HX8 := Lib.hid (res_grown HX7.out hg8 (fun e => by have := Option.some.inj e; omega))
          have HC8 := Lib.hid (HC7.out.drawn hg8 (by omega))
          clear hr8 hg8 Hr7 HO7 HX7 HC7
          have hne8 : vG.ownBlock ≠ some gm := fun e => by have := (HC8.out.g.lt gm e).1; omega
          obtain ⟨zm, p0, p1, p2, p3⟩ := HC8.out.cells
          have Hlit := Lib.hid (Row.of_own (World.ownsRow_lit (base := w8.heap.size) (e := 59) (size := 2) w8 #[.int .i64 (2 * M - 1 - u), .int .i64 b] 1 (Nat.le_refl _) (by unfold maxLen; omega) rfl))
          have z8 := zm
          go_wp2_with (
            at_builtin
            refine append_gates rfl (.tmp 50) (.tmp 54) rfl (gm + 1) _ gs.length _ rfl (HC8.out.g.alloc _) _ 1 [.int .i64 (2 * M - 1 - u), .int .i64 b] rfl Hlit.out (by simp [Value.oneCell']) (by omega) (by simp; omega) ?_
            intro v9 w9 hown9 hg9 hat9
            obtain ⟨A9, c9, e9⟩ := slice_of_own hown9
            subst e9
            have Ho9 := Lib.hid hown9
            have HE9 := Lib.hid (app_only hg9)
            have Hr9 := Lib.hid (app_rd Hr8.out hg9 HC8.out.g (by omega))
            have Hat9 := Lib.hid (app_at hat9)
            have hbx := (HE9.out.block gm (blk_lt HC8.out.box) hne8).trans HC8.out.box
            have q2 := blk_cell hbx 2
            have q2f := blk_free hbx 2
            have zq := blk_lt hbx
            simp at q2
            clear hown9 hg9 hat9 hbx)
          go_roundw
          case rel =>
            refine ⟨M + 1, K - 1, gs ++ [((2 * M - 1 - u), b)], .slice A9 (gs.length + 1) c9, by go_num, by go_num, by omega, by simp; omega, by omega, by simp; omega, Lib.hid fun q hq => ?_, Lib.hid ?_, Lib.hid ?_, Lib.hid ?_, Lib.hid ?_⟩
            · rcases List.mem_append.1 hq with h | h
              · exact Hl.out q h
              · rw [List.mem_singleton.1 h]
                unfold LitS
                simp only
                omega
            · refine HC8.out.addG (xs := gs ++ [((2 * M - 1 - u), b)]) HE9.out (fun g _ hn => hn) ?_ Hat9.out
              rw [List.length_append, cubes_append]
              exact Ho9.out
            · exact (rd_set Hr9.out (by omega)).more (by simp; omega)
            · exact only_set (HO8.out.aft HE9.out fun g hg => .inl (by have := (HC8.out.g.lt g hg).1; omega)) (by omega)
            · exact res_set ((HE9.out.block _ (blk_lt HX8.out) (fun e => by have := (HC8.out.g.lt _ e).1; omega)).trans HX8.out) (by omega)
          case measure => simp [intOf]; omega
      · have hz' : z = 0 := by omega
        subst hz'
        have hne7 : vG.ownBlock ≠ some gm := fun e => by have := (HC7.out.g.lt gm e).1; omega
        obtain ⟨zm, p0, p1, p2, p3⟩ := HC7.out.cells
        have Hlit := Lib.hid (Row.of_own (World.ownsRow_lit (base := w7.heap.size) (e := 59) (size := 2) w7 #[.int .i64 (a), .int .i64 b] 1 (Nat.le_refl _) (by unfold maxLen; omega) rfl))
        have z7 := zm
        go_wp2_with (
          at_builtin
          refine append_gates rfl (.tmp 50) (.tmp 54) rfl (gm + 1) _ gs.length _ rfl (HC7.out.g.alloc _) _ 1 [.int .i64 (a), .int .i64 b] rfl Hlit.out (by simp [Value.oneCell']) (by omega) (by simp; omega) ?_
          intro v9 w9 hown9 hg9 hat9
          obtain ⟨A9, c9, e9⟩ := slice_of_own hown9
          subst e9
          have Ho9 := Lib.hid hown9
          have HE9 := Lib.hid (app_only hg9)
          have Hr9 := Lib.hid (app_rd Hr7.out hg9 HC7.out.g (by omega))
          have Hat9 := Lib.hid (app_at hat9)
          have hbx := (HE9.out.block gm (blk_lt HC7.out.box) hne7).trans HC7.out.box
          have q2 := blk_cell hbx 2
          have q2f := blk_free hbx 2
          have zq := blk_lt hbx
          simp at q2
          clear hown9 hg9 hat9 hbx)
        go_roundw
        case rel =>
          refine ⟨M + 1, K - 1, gs ++ [((a), b)], .slice A9 (gs.length + 1) c9, by go_num, by go_num, by omega, by simp; omega, by omega, by simp; omega, Lib.hid fun q hq => ?_, Lib.hid ?_, Lib.hid ?_, Lib.hid ?_, Lib.hid ?_⟩
          · rcases List.mem_append.1 hq with h | h
            · exact Hl.out q h
            · rw [List.mem_singleton.1 h]
              unfold LitS
              simp only
              omega
          · refine HC7.out.addG (xs := gs ++ [((a), b)]) HE9.out (fun g _ hn => hn) ?_ Hat9.out
            rw [List.length_append, cubes_append]
            exact Ho9.out
          · exact (rd_set Hr9.out (by omega)).more (by simp; omega)
          · exact only_set (HO7.out.aft HE9.out fun g hg => .inl (by have := (HC7.out.g.lt g hg).1; omega)) (by omega)
          · exact res_set ((HE9.out.block _ (blk_lt HX7.out) (fun e => by have := (HC7.out.g.lt _ e).1; omega)).trans HX7.out) (by omega)
        case measure => simp [intOf]; omega
    · obtain rfl : K = 0 := by omega
      have Hr1 := Lib.hid (Hr.out.more (show P + 100 + 10 * gs.length ≤ P + 300 by omega))
      have HC1 := Lib.hid HC.out
      clear Hr HC
      obtain ⟨W1, hW1⟩ : ∃ W1, W1 = wr := ⟨_, rfl⟩
      subst hW1
      go_wp2_with fail
      go_loopw [11] (fun j wr => ∃ (ns : List Int) (vN : Value), j = .int .i64 (ns.length : Nat) ∧ ns.length ≤ y ∧ Hid (∀ q ∈ ns, LitS q) ∧ Hid (CB gm ⟨x, ns, gs, []⟩ vN vG (.slice none 0 0) wr) ∧ Hid (Rd wr R (P + 300 + 400 * ns.length)) ∧ Hid (Only (· = R) w wr) ∧ Hid (wr.heap[w.heap.size]? = some (.cells #[.int .i64 0, .slice none 0 0, .slice none 0 0, .slice none 0 0] 48 (0, 0)))) (fun j _ => (y - intOf j).toNat)
      case atStart => exact ⟨[], _, rfl, by simp; omega, Lib.hid (by simp), HC1, Lib.hid (Hr1.out.more (by omega)), HO, HX⟩
      case round =>
        obtain ⟨ns, vN, rfl, hnl, Hn, HC, Hr, HO, HX⟩ := hrel
        clear Hr1 HC1
        by_cases hlt : (ns.length : Int) < y
        · go_wp2_with fail
          have hO := fun ops a => rdRS_ok (Pg := Try.prog) (ops := ops) (P := P + 300 + 400 * ns.length) (a := a) (G := GInt (-100) 1000) (d := 7) Hr.out.lt (show R < gm + 1 by omega) HC.out.n
          obtain ⟨zm, p0, p1, p2, p3⟩ := HC.out.cells
          have hneN : ¬ (gm = R ∨ vN.ownBlock = some gm) := fun e => by
            rcases e with e | e
            · omega
            · have := (HC.out.n.lt gm e).1; omega
          refine wp_region_rsl (rdRS Try.prog _ R (P + 300 + 400 * ns.length) wr _ (gm + 1) 3 vN ns.length (ints ns) (GInt (-100) 1000) 7) (hO _ _) (by kernel_rfl) (by kernel_rfl) (by kernel_rfl) 9 _ rfl rfl (by kernel_rfl) (show (7 : Nat) < 9 by decide) Hr.out HC.out.n ?_
          obtain ⟨i0, hi0, hz0, hz1, hz2⟩ := info_parts info_int
          apply rs_eq (hO _ _) (.inl (Nat.ne_of_beq_eq_false rfl))
          · intro ρ w' ho hK
            obtain ⟨h0, -⟩ := hK
            have h0' : ρ (.tmp 5) = .pointer (some ⟨gm, 0, none⟩) := h0
            go_simp
            try exact rfl
          apply rs_eq (hO _ _) (.inl (Nat.ne_of_beq_eq_false rfl))
          · intro ρ w' ho hK
            obtain ⟨h0, -⟩ := hK
            have h0' : ρ (.tmp 64) = .pointer (some ⟨gm, 1, none⟩) := h0
            have q1 := cell_on ho hneN zm p1
            go_simp
            try exact rfl
          refine rs_old (hO _ _) (.inl (Nat.ne_of_beq_eq_false rfl)) _ (.inl rfl) _ rfl rfl ?_
          refine rs_old (hO _ _) (.inl (Nat.ne_of_beq_eq_false rfl)) _ (.inl rfl) _ rfl rfl ?_
          apply rs_eq (hO _ _) (.inl (Nat.ne_of_beq_eq_false rfl))
          · intro ρ w' ho hK
            obtain ⟨h0, h1, -⟩ := hK
            have h0' : ρ (.const (.int .i64 2)) = .int .i64 2 := h0
            have h1' : ρ (.tmp 67) = .int .i64 M := h1
            have hwr := IntWalk.i64_in (2 * M) (by omega)
            go_simp
            try exact rfl
          refine rs_pick (hO _ _) (.inl (Nat.ne_of_beq_eq_false rfl)) 23 _ _ _ R (P + 300 + 400 * ns.length) 43 rfl rfl fn_draw (fun ρ w hK => ⟨hK.1, hK.2.1, 2 * M, hK.2.2.1, by omega, by omega⟩) (fun n k w hk h1n hn hr => pick_upto n 43 _ _ w hr (by have hk' : k < 10 := hk; omega) h1n hn (by omega)) ?_
          refine rs_build (hO _ _) (.inl (Nat.ne_of_beq_eq_false rfl)) 1 (GInt (-100) 1000) 3 (fun ρ w hK => by
            obtain ⟨⟨q, hq, hq0, hq1⟩, -⟩ := hK
            have h' : ρ (.tmp 69) = .int .i64 q := hq
            refine ⟨#[.int .i64 q], rfl, ?_, ?_⟩
            · go_simp
            · intro c hc
              simp at hc
              exact ⟨q, hc, by omega, by omega⟩) ?_
          refine rs_appendV rfl (gm + 1) 3 28 vN ns.length (ints ns) (GInt (-100) 1000) rfl R (P + 300 + 400 * ns.length) rfl (fun g hg => .inr hg) (show R < gm + 1 by omega) zm _ _ rfl _ _ rfl rfl rfl rfl i0 _ 8 Try.underlying28 hi0 hz0 hz1 hz2 rfl (by omega) (by decide) (fun u hu => by obtain ⟨q, rfl, -⟩ := hu; rfl) ?_
          apply rs_eq (hO _ _) (.inl (Nat.ne_of_beq_eq_false rfl))
          · intro ρ w' ho hK
            obtain ⟨h0, -⟩ := hK
            have h0' : ρ (.tmp 5) = .pointer (some ⟨gm, 0, none⟩) := h0
            go_simp
            try exact rfl
          intro f w9 k9 hk9 hI9 ht9 hcp9
          have E0 : f 0 = _ := ht9 0 (Nat.le_of_ble_eq_true rfl)
          have E1 : f 1 = _ := ht9 1 (Nat.le_of_ble_eq_true rfl)
          have E2 : f 2 = _ := ht9 2 (Nat.le_of_ble_eq_true rfl)
          have E3 : f 3 = _ := ht9 3 (Nat.le_of_ble_eq_true rfl)
          have E4 : f 4 = _ := ht9 4 (Nat.le_of_ble_eq_true rfl)
          have E8 : f 8 = _ := ht9 8 (Nat.le_of_ble_eq_true rfl)
          have Hr9 : Rd w9 R (P + 300 + 400 * ns.length + 40 * k9) := hI9.1
          have HE9 : Only (fun g => g = R ∨ vN.ownBlock = some g) wr w9 := hI9.2.1
          have HJ9 : (∃ u, GInt (-100) 1000 u ∧ w9.ownsRow (gm + 1) 3 1 (f 7) (ns.length + 1) (ints ns ++ [u])) ∧ ∀ g, (f 7).ownBlock = some g → vN.ownBlock = some g ∨ wr.heap.size ≤ g := hI9.2.2
          have hk9' : k9 ≤ 10 := hk9
          simp only [putAll, E0, E1, E2, E3, E4, E8, Nat.zero_add, Nat.reduceAdd, Act.put, List.take, List.setIfInBounds_toArray, List.set_cons_succ, List.set_cons_zero]
          clear E0 E1 E2 E3 E4 E8 hI9 ht9 hcp9 hk9 hO
          generalize f 5 = r5, f 6 = r6 at *
          generalize f 7 = v9 at *
          simp only [List.getElem_toArray, List.getElem_cons_succ, List.getElem_cons_zero]
          obtain ⟨⟨uu, ⟨q, rfl, hq0, hq1⟩, hown9⟩, hat9⟩ := HJ9
          obtain ⟨A9, c9, e9⟩ := slice_of_own hown9
          subst e9
          have Ho9 := Lib.hid hown9
          have Hat9 := Lib.hid hat9
          have HE9' := Lib.hid HE9
          have Hr9' := Lib.hid (Hr9.more (show P + 300 + 400 * ns.length + 40 * k9 ≤ P + 300 + 400 * (ns.length + 1) by omega))
          have hbx := (HE9.block gm zm hneN).trans HC.out.box
          have q1 := blk_cell hbx 1
          have q1f := blk_free hbx 1
          have zq := blk_lt hbx
          simp at q1
          clear hown9 hat9 HE9 Hr9 hbx p0 p1 p2 p3 hk9' hi0 hz0 hz1 hz2
          go_wp2_with fail
          go_roundw
          case rel =>
            refine ⟨ns ++ [q], .slice A9 (ns.length + 1) c9, by simp, by simp; omega, Lib.hid fun q' hq => ?_, Lib.hid ?_, Lib.hid ?_, Lib.hid ?_, Lib.hid ?_⟩
            · rcases List.mem_append.1 hq with h | h
              · exact Hn.out q' h
              · rw [List.mem_singleton.1 h]
                exact ⟨hq0, hq1⟩
            · refine HC.out.addN (xs := ns ++ [q]) HE9'.out (fun g hg hn => ?_) ?_ Hat9.out
              · rintro (e | e)
                · omega
                · exact hn e
              · rw [List.length_append, ints_snoc]
                exact Ho9.out
            · exact (rd_set Hr9'.out (by omega)).more (by simp)
            · exact only_set (HO.out.aft HE9'.out fun g hg => by
                rcases hg with h | h
                · exact .inr h
                · exact .inl (by have := (HC.out.n.lt g h).1; omega)) (by omega)
            · exact res_set ((HE9'.out.block _ (blk_lt HX.out) (fun e => by
                rcases e with h | h
                · omega
                · have := (HC.out.n.lt _ h).1; omega)).trans HX.out) (by omega)
          case measure => simp [intOf]; omega
        · have Hr1 := Lib.hid (Hr.out.more (show P + 300 + 400 * ns.length ≤ P + 2400 by omega))
          have HC1 := Lib.hid HC.out
          clear Hr HC
          obtain ⟨W2, hW2⟩ : ∃ W2, W2 = wr := ⟨_, rfl⟩
          subst hW2
          go_wp2_with fail
          refine (pick_any 4 _ _ _ Hr1.out (by omega) (by omega) (by omega)).mono ?_
          rintro e w5 ⟨k1, hk10, hk11, rfl, hr5, hg5⟩
          have Hr5 := Lib.hid (hr5.more (show P + 2400 + 1 ≤ P + 2500 by omega))
          have HO5 := Lib.hid (only_drawn HO.out hg5 (.inr rfl))
          have HX5 := Lib.hid (res_grown HX.out hg5 (fun e => by have := Option.some.inj e; omega))
          have HC5 := Lib.hid (HC1.out.drawn hg5 (by omega))
          clear hr5 hg5 Hr1 HO HX HC1
          go_wp2_with fail
          go_loopw [12] (fun j wr => ∃ (K : Int) (os : List Int) (vO : Value), j = .int .i64 K ∧ 0 ≤ K ∧ os.length + K ≤ 3 ∧ Hid (∀ q ∈ os, LitS q) ∧ Hid (CB gm ⟨x, ns, gs, os⟩ vN vG vO wr) ∧ Hid (Rd wr R (P + 2500 + 1000 * os.length)) ∧ Hid (Only (· = R) w wr) ∧ Hid (wr.heap[w.heap.size]? = some (.cells #[.int .i64 0, .slice none 0 0, .slice none 0 0, .slice none 0 0] 48 (0, 0)))) (fun j _ => (intOf j).toNat)
          case atStart => exact ⟨k1, [], _, rfl, hk10, by simp; omega, Lib.hid (by simp), HC5, Lib.hid (Hr5.out.more (by omega)), HO5, HX5⟩
          case round =>
            obtain ⟨K, os, vO, rfl, hK0, hKl2, Hos, HC, Hr, HO, HX⟩ := hrel
            clear Hr5 HC5 HO5 HX5
            by_cases hpos : 0 < K
            · go_wp2_with fail
              have hO := fun ops a => rdRS_ok (Pg := Try.prog) (ops := ops) (P := P + 2500 + 1000 * os.length) (a := a) (G := GInt (-100) 1000) (d := 21) Hr.out.lt (show R < gm + 1 by omega) HC.out.o
              obtain ⟨zm, p0, p1, p2, p3⟩ := HC.out.cells
              have hneO : ¬ (gm = R ∨ vO.ownBlock = some gm) := fun e => by
                rcases e with e | e
                · omega
                · have := (HC.out.o.lt gm e).1; omega
              refine wp_region_rsl (rdRS Try.prog _ R (P + 2500 + 1000 * os.length) wr _ (gm + 1) 3 vO os.length (ints os) (GInt (-100) 1000) 21) (hO _ _) (by kernel_rfl) (by kernel_rfl) (by kernel_rfl) 23 _ rfl rfl (by kernel_rfl) (show (21 : Nat) < 23 by decide) Hr.out HC.out.o ?_
              obtain ⟨i0, hi0, hz0, hz1, hz2⟩ := info_parts info_int
              apply rs_eq (hO _ _) (.inl (Nat.ne_of_beq_eq_false rfl))
              · intro ρ w' ho hK
                obtain ⟨h0, -⟩ := hK
                have h0' : ρ (.tmp 5) = .pointer (some ⟨gm, 0, none⟩) := h0
                go_simp
                try exact rfl
              apply rs_eq (hO _ _) (.inl (Nat.ne_of_beq_eq_false rfl))
              · intro ρ w' ho hK
                obtain ⟨h0, -⟩ := hK
                have h0' : ρ (.tmp 79) = .pointer (some ⟨gm, 3, none⟩) := h0
                have q1 := cell_on ho hneO zm p3
                go_simp
                try exact rfl
              refine rs_old (hO _ _) (.inl (Nat.ne_of_beq_eq_false rfl)) _ (.inl rfl) _ rfl rfl ?_
              apply rs_eq (hO _ _) (.inl (Nat.ne_of_beq_eq_false rfl))
              · intro ρ w' ho hK
                obtain ⟨h0, h1, -⟩ := hK
                have h0' : ρ (.const (.int .i64 2)) = .int .i64 2 := h0
                have h1' : ρ (.tmp 81) = .int .i64 M := h1
                have hwr := IntWalk.i64_in (2 * M) (by omega)
                go_simp
                try exact rfl
              apply rs_eq (hO _ _) (.inl (Nat.ne_of_beq_eq_false rfl))
              · intro ρ w' ho hK
                obtain ⟨h0, h1, -⟩ := hK
                have h1' : ρ (.const (.int .i64 1)) = .int .i64 1 := h1
                have h0' : ρ (.tmp 82) = .int .i64 (2 * M) := h0
                have hwr := IntWalk.i64_in (2 * M - 1) (by omega)
                go_simp
                try exact rfl
              refine rs_old (hO _ _) (.inl (Nat.ne_of_beq_eq_false rfl)) _ (.inl rfl) _ rfl rfl ?_
              refine rs_old (hO _ _) (.inl (Nat.ne_of_beq_eq_false rfl)) _ (.inl rfl) _ rfl rfl ?_
              apply rs_eq (hO _ _) (.inl (Nat.ne_of_beq_eq_false rfl))
              · intro ρ w' ho hK
                obtain ⟨h0, h1, -⟩ := hK
                have h0' : ρ (.const (.int .i64 2)) = .int .i64 2 := h0
                have h1' : ρ (.tmp 85) = .int .i64 M := h1
                have hwr := IntWalk.i64_in (2 * M) (by omega)
                go_simp
                try exact rfl
              refine rs_pure (hO _ _) (.inl (Nat.ne_of_beq_eq_false rfl)) (TInt 1 8) (stb_int _ _ _) (fun ρ w hK => by
                obtain ⟨h0, h1, -⟩ := hK
                have h0' : ρ (.const (.int .i64 8)) = .int .i64 8 := h0
                have h1' : ρ (.tmp 86) = .int .i64 (2 * M) := h1
                by_cases h8 : 2 * M < 8
                · refine ⟨.int .i64 (2 * M), ?_, 2 * M, rfl, by omega, by omega⟩
                  go_simp
                · refine ⟨.int .i64 8, ?_, 8, rfl, by omega, by omega⟩
                  go_simp) ?_
              refine rs_pick (hO _ _) (.inl (Nat.ne_of_beq_eq_false rfl)) 23 _ _ _ R (P + 2500 + 1000 * os.length) 7 rfl rfl fn_draw (fun ρ w hK => by
                obtain ⟨h0, h1, ⟨q, h2, h3, h4⟩, -⟩ := hK
                exact ⟨h0, h1, q, h2, h3, by omega⟩) (fun n k w hk h1n hn hr => pick_upto n 7 _ _ w hr (by have hk' : k < 24 := hk; omega) h1n hn (by omega)) ?_
              refine rs_pure (hO _ _) (.inl (Nat.ne_of_beq_eq_false rfl)) (TInt (-100) 1000) (stb_int _ _ _) (fun ρ w hK => by
                obtain ⟨h0, ⟨q, h1, h2, h3⟩, -⟩ := hK
                have h0' : ρ (.tmp 83) = .int .i64 (2 * M - 1) := h0
                have h1' : ρ (.tmp 88) = .int .i64 q := h1
                have h3' : q ≤ 7 := h3
                have hwr := IntWalk.i64_in (2 * M - 1 - q) (by omega)
                refine ⟨.int .i64 (2 * M - 1 - q), ?_, _, rfl, by omega, by omega⟩
                go_simp) ?_
              refine rs_old (hO _ _) (.inl (Nat.ne_of_beq_eq_false rfl)) _ (.inl rfl) _ rfl rfl ?_
              refine rs_old (hO _ _) (.inl (Nat.ne_of_beq_eq_false rfl)) _ (.inl rfl) _ rfl rfl ?_
              apply rs_eq (hO _ _) (.inl (Nat.ne_of_beq_eq_false rfl))
              · intro ρ w' ho hK
                obtain ⟨h0, h1, -⟩ := hK
                have h0' : ρ (.const (.int .i64 2)) = .int .i64 2 := h0
                have h1' : ρ (.tmp 91) = .int .i64 M := h1
                have hwr := IntWalk.i64_in (2 * M) (by omega)
                go_simp
                try exact rfl
              refine rs_pick (hO _ _) (.inl (Nat.ne_of_beq_eq_false rfl)) 23 _ _ _ R (P + 2500 + 1000 * os.length) 43 rfl rfl fn_draw (fun ρ w hK => ⟨hK.1, hK.2.1, 2 * M, hK.2.2.1, by omega, by omega⟩) (fun n k w hk h1n hn hr => pick_upto n 43 _ _ w hr (by have hk' : k < 24 := hk; omega) h1n hn (by omega)) ?_
              refine rs_build (hO _ _) (.inl (Nat.ne_of_beq_eq_false rfl)) 2 (GInt (-100) 1000) 3 (fun ρ w hK => by
                obtain ⟨⟨q, hq, hq0, hq1⟩, ⟨q2, hr, hr0, hr1⟩, -⟩ := hK
                have h' : ρ (.tmp 89) = .int .i64 q := hq
                have h2' : ρ (.tmp 93) = .int .i64 q2 := hr
                have hr1' : q2 ≤ 43 := hr1
                refine ⟨#[.int .i64 q, .int .i64 q2], rfl, ?_, ?_⟩
                · go_simp
                · intro c hc
                  simp at hc
                  rcases hc with rfl | rfl
                  · exact ⟨q, rfl, by omega, by omega⟩
                  · exact ⟨q2, rfl, by omega, by omega⟩) ?_
              refine rs_old (hO _ _) (.inl (Nat.ne_of_beq_eq_false rfl)) _ (.inl rfl) _ rfl rfl ?_
              refine rs_pick (hO _ _) (.inl (Nat.ne_of_beq_eq_false rfl)) 23 _ _ _ R (P + 2500 + 1000 * os.length) 1 rfl rfl fn_draw (fun ρ w hK => ⟨hK.1, hK.2.1, 2, hK.2.2.1, by omega, by omega⟩) (fun n k w hk h1n hn hr => pick_upto n 1 _ _ w hr (by have hk' : k < 24 := hk; omega) h1n hn (by omega)) ?_
              refine rs_index (hO _ _) (.inl (Nat.ne_of_beq_eq_false rfl)) 28 _ _ 2 (GInt (-100) 1000) 1 rfl _ _ rfl rfl rfl rfl (by omega) (by omega) ix_drawn ?_
              refine rs_load (hO _ _) (.inl (Nat.ne_of_beq_eq_false rfl)) 3 _ (GInt (-100) 1000) rfl _ rfl rfl ag_drawn ?_
              refine rs_build (hO _ _) (.inl (Nat.ne_of_beq_eq_false rfl)) 1 (GInt (-100) 1000) 3 (fun ρ w hK => by
                obtain ⟨⟨q, hq, hq0, hq1⟩, -⟩ := hK
                have h' : ρ (.tmp 98) = .int .i64 q := hq
                refine ⟨#[.int .i64 q], rfl, ?_, ?_⟩
                · go_simp
                · intro c hc
                  simp at hc
                  exact ⟨q, hc, by omega, by omega⟩) ?_
              refine rs_appendV rfl (gm + 1) 3 28 vO os.length (ints os) (GInt (-100) 1000) rfl R (P + 2500 + 1000 * os.length) rfl (fun g hg => .inr hg) (show R < gm + 1 by omega) zm _ _ rfl _ _ rfl rfl rfl rfl i0 _ 8 Try.underlying28 hi0 hz0 hz1 hz2 rfl (by omega) (by decide) (fun u hu => by obtain ⟨q, rfl, -⟩ := hu; rfl) ?_
              apply rs_eq (hO _ _) (.inl (Nat.ne_of_beq_eq_false rfl))
              · intro ρ w' ho hK
                obtain ⟨h0, -⟩ := hK
                have h0' : ρ (.tmp 5) = .pointer (some ⟨gm, 0, none⟩) := h0
                go_simp
                try exact rfl
              intro f w9 k9 hk9 hI9 ht9 hcp9
              have E0 : f 0 = _ := ht9 0 (Nat.le_of_ble_eq_true rfl)
              have E1 : f 1 = _ := ht9 1 (Nat.le_of_ble_eq_true rfl)
              have E2 : f 2 = _ := ht9 2 (Nat.le_of_ble_eq_true rfl)
              have E3 : f 3 = _ := ht9 3 (Nat.le_of_ble_eq_true rfl)
              have E4 : f 4 = _ := ht9 4 (Nat.le_of_ble_eq_true rfl)
              have E5 : f 5 = _ := ht9 5 (Nat.le_of_ble_eq_true rfl)
              have E6 : f 6 = _ := ht9 6 (Nat.le_of_ble_eq_true rfl)
              have E7 : f 7 = _ := ht9 7 (Nat.le_of_ble_eq_true rfl)
              have E11 : f 11 = _ := ht9 11 (Nat.le_of_ble_eq_true rfl)
              have E12 : f 12 = _ := ht9 12 (Nat.le_of_ble_eq_true rfl)
              have E13 : f 13 = _ := ht9 13 (Nat.le_of_ble_eq_true rfl)
              have E16 : f 16 = _ := ht9 16 (Nat.le_of_ble_eq_true rfl)
              have E22 : f 22 = _ := ht9 22 (Nat.le_of_ble_eq_true rfl)
              have Hr9 : Rd w9 R (P + 2500 + 1000 * os.length + 40 * k9) := hI9.1
              have HE9 : Only (fun g => g = R ∨ vO.ownBlock = some g) wr w9 := hI9.2.1
              have HJ9 : (∃ u, GInt (-100) 1000 u ∧ w9.ownsRow (gm + 1) 3 1 (f 21) (os.length + 1) (ints os ++ [u])) ∧ ∀ g, (f 21).ownBlock = some g → vO.ownBlock = some g ∨ wr.heap.size ≤ g := hI9.2.2
              have hk9' : k9 ≤ 24 := hk9
              simp only [putAll, E0, E1, E2, E3, E4, E5, E6, E7, E11, E12, E13, E16, E22, Nat.zero_add, Nat.reduceAdd, Act.put, List.take, List.setIfInBounds_toArray, List.set_cons_succ, List.set_cons_zero, List.getElem_toArray, List.getElem_cons_succ, List.getElem_cons_zero]
              clear E0 E1 E2 E3 E4 E5 E6 E7 E11 E12 E13 E16 E22 hI9 ht9 hcp9 hk9 hO
              generalize f 8 = r8, f 9 = r9, f 10 = r10, f 14 = r14, f 15 = r15, f 17 = r17, f 18 = r18, f 19 = r19, f 20 = r20 at *
              generalize f 21 = v9 at *
              obtain ⟨⟨uu, ⟨q, rfl, hq0, hq1⟩, hown9⟩, hat9⟩ := HJ9
              obtain ⟨A9, c9, e9⟩ := slice_of_own hown9
              subst e9
              have Ho9 := Lib.hid hown9
              have Hat9 := Lib.hid hat9
              have HE9' := Lib.hid HE9
              have Hr9' := Lib.hid (Hr9.more (show P + 2500 + 1000 * os.length + 40 * k9 ≤ P + 2500 + 1000 * (os.length + 1) by omega))
              have hbx := (HE9.block gm zm hneO).trans HC.out.box
              have q1 := blk_cell hbx 3
              have q1f := blk_free hbx 3
              have zq := blk_lt hbx
              simp at q1
              clear hown9 hat9 HE9 Hr9 hbx p0 p1 p2 p3 hk9' hi0 hz0 hz1 hz2
              go_wp2_with fail
              go_roundw
              case rel =>
                refine ⟨K - 1, os ++ [q], .slice A9 (os.length + 1) c9, by go_num, by omega, by simp; omega, Lib.hid fun q' hq => ?_, Lib.hid ?_, Lib.hid ?_, Lib.hid ?_, Lib.hid ?_⟩
                · rcases List.mem_append.1 hq with h | h
                  · exact Hos.out q' h
                  · rw [List.mem_singleton.1 h]
                    exact ⟨hq0, hq1⟩
                · refine HC.out.addO (xs := os ++ [q]) HE9'.out (fun g hg hn => ?_) ?_ Hat9.out
                  · rintro (e | e)
                    · omega
                    · exact hn e
                  · rw [List.length_append, ints_snoc]
                    exact Ho9.out
                · exact (rd_set Hr9'.out (by omega)).more (by simp)
                · exact only_set (HO.out.aft HE9'.out fun g hg => by
                    rcases hg with h | h
                    · exact .inr h
                    · exact .inl (by have := (HC.out.o.lt g h).1; omega)) (by omega)
                · exact res_set ((HE9'.out.block _ (blk_lt HX.out) (fun e => by
                    rcases e with h | h
                    · omega
                    · have := (HC.out.o.lt _ h).1; omega)).trans HX.out) (by omega)
              case measure => simp [intOf]; omega
            · obtain rfl : K = 0 := by omega
              have Hr1 := Lib.hid (Hr.out.more (show P + 2500 + 1000 * os.length ≤ P + 6000 by omega))
              have HC1 := Lib.hid HC.out
              clear Hr HC
              obtain ⟨W3, hW3⟩ : ∃ W3, W3 = wr := ⟨_, rfl⟩
              subst hW3
              go_wp2_with fail
              refine (odd_every n _ _ _ Hr1.out (by omega) h0 (by omega)).mono ?_
              rintro e w6 ⟨bb, rfl, hr6, hg6⟩
              have Hr6 := Lib.hid hr6
              have HO6 := Lib.hid (only_drawn HO.out hg6 (.inr rfl))
              have HX6 := Lib.hid (res_grown HX.out hg6 (fun e => by have := Option.some.inj e; omega))
              have HC6 := Lib.hid (HC1.out.drawn hg6 (by omega))
              clear hr6 hg6 Hr1 HO HX HC1
              obtain ⟨An, cn, en⟩ := slice_of_own HC6.out.n
              obtain ⟨Ag, cg, eg⟩ := slice_of_own HC6.out.g
              obtain ⟨Ao, co, eo⟩ := slice_of_own HC6.out.o
              simp only at en eg eo
              subst en eg eo
              cases bb
              · obtain ⟨zf, f0, f1, f2, f3⟩ := HC6.out.cells
                obtain ⟨ff0, ff1, ff2, ff3⟩ := HC6.out.free
                have o0 := blk_cell HX6.out 0
                have o1 := blk_cell HX6.out 1
                have o2 := blk_cell HX6.out 2
                have o3 := blk_cell HX6.out 3
                have b0 := blk_free HX6.out 0
                have b1 := blk_free HX6.out 1
                have b2 := blk_free HX6.out 2
                have b3 := blk_free HX6.out 3
                have zr := blk_lt HX6.out
                simp at o0 o1 o2 o3
                go_wp2_with fail
                refine bodyPost_ret (v := .agg #[.int .i64 x, .slice An ns.length cn, .slice Ag gs.length cg, .slice Ao os.length co]) (by simp [results, Try.results33, go_sem, o0, o1, o2, o3]) rfl (finC (c := ⟨x, ns, gs, os⟩) HC6.out HO6.out Hr6.out (by omega) zR (by omega) ⟨by simp only; omega, by simp only; omega, by simp only; omega, by simp only; omega, by simp only; omega, Hn.out, Hl.out, Hos.out⟩ _ _ _ _)
              · go_wp2_with fail
                refine (pick_any 6 _ _ _ Hr6.out (by omega) (by omega) (by omega)).mono ?_
                rintro e w7 ⟨z, hz0, hz1, rfl, hr7, hg7⟩
                have Hr7 := Lib.hid hr7
                have HO7 := Lib.hid (only_drawn HO6.out hg7 (.inr rfl))
                have HX7 := Lib.hid (res_grown HX6.out hg7 (fun e => by have := Option.some.inj e; omega))
                have HC7 := Lib.hid (HC6.out.drawn hg7 (by omega))
                clear hr7 hg7 Hr6 HO6 HX6 HC6
                obtain rfl | rfl | rfl | rfl | rfl | rfl : z = 0 ∨ z = 1 ∨ z = 2 ∨ z = 3 ∨ z = 4 ∨ z = 5 := by omega
                · go_wp2_with fail
                  refine (pick_any 2 _ _ _ (Hr7.out.alloc _) (by omega) (by omega) (by omega)).mono ?_
                  rintro e w8 ⟨u, hu0, hu1, rfl, hr8, hg8⟩
                  have hzr7 := Hr7.out.lt
                  obtain ⟨vv, hvv, hu0', hcell⟩ := lit_cell2 _ _ _ _ _ hg8 hzr7 u hu0 hu1
                  have zl := hg8.size
                  rw [World.size_alloc] at zl
                  have Hr8 := Lib.hid hr8
                  have HO8 := Lib.hid (only_drawn (only_alloc HO7.out _) hg8 (.inr rfl))
                  have HX8 := Lib.hid (res_grown (((bel_new w7 _).block _ (blk_lt HX7.out)).trans HX7.out) hg8 (fun e => by have := Option.some.inj e; omega))
                  have HC8 := Lib.hid ((HC7.out.below (bel_new w7 _)).drawn hg8 (by omega))
                  clear hr8 hg8 Hr7 HO7 HX7 HC7
                  obtain ⟨zf, f0, f1, f2, f3⟩ := HC8.out.cells
                  obtain ⟨ff0, ff1, ff2, ff3⟩ := HC8.out.free
                  have o0 := blk_cell HX8.out 0
                  have o1 := blk_cell HX8.out 1
                  have o2 := blk_cell HX8.out 2
                  have o3 := blk_cell HX8.out 3
                  have b0 := blk_free HX8.out 0
                  have b1 := blk_free HX8.out 1
                  have b2 := blk_free HX8.out 2
                  have b3 := blk_free HX8.out 3
                  have zr := blk_lt HX8.out
                  simp at o0 o1 o2 o3
                  go_wp2_with fail
                  refine bodyPost_ret (v := .agg #[.int .i64 vv, .slice An ns.length cn, .slice Ag gs.length cg, .slice Ao os.length co]) (by simp [results, Try.results33, go_sem, o0, o1, o2, o3]) rfl (finC (c := ⟨vv, ns, gs, os⟩) (HC8.out.setIns vv) (only_set HO8.out (by omega)) (rd_set Hr8.out (by omega)) (by omega) zR (by omega) ⟨by simp only; omega, by simp only; omega, by simp only; omega, by simp only; omega, by simp only; omega, Hn.out, Hl.out, Hos.out⟩ _ _ _ _)
                · go_wp2_with fail
                  have hO := fun ops a => rdRS_ok (Pg := Try.prog) (ops := ops) (P := P + 6000 + 1 + 1) (a := a) (G := GInt (-100) 1000) (d := 10) Hr7.out.lt (show R < gm + 1 by omega) HC7.out.o
                  obtain ⟨zm, p0, p1, p2, p3⟩ := HC7.out.cells
                  have hneO : ¬ (gm = R ∨ (Value.slice Ao os.length co).ownBlock = some gm) := fun e => by
                    rcases e with e | e
                    · omega
                    · have := (HC7.out.o.lt gm e).1; omega
                  refine wp_region_rsl (rdRS Try.prog _ R (P + 6000 + 1 + 1) w7 _ (gm + 1) 3 (.slice Ao os.length co) os.length (ints os) (GInt (-100) 1000) 10) (hO _ _) (by kernel_rfl) (by kernel_rfl) (by kernel_rfl) 12 _ rfl rfl (by kernel_rfl) (show (10 : Nat) < 12 by decide) Hr7.out HC7.out.o ?_
                  obtain ⟨i0, hi0, hz0, hz1, hz2⟩ := info_parts info_int
                  apply rs_eq (hO _ _) (.inl (Nat.ne_of_beq_eq_false rfl))
                  · intro ρ w' ho hK
                    obtain ⟨h0, -⟩ := hK
                    have h0' : ρ (.tmp 5) = .pointer (some ⟨gm, 0, none⟩) := h0
                    go_simp
                    try exact rfl
                  apply rs_eq (hO _ _) (.inl (Nat.ne_of_beq_eq_false rfl))
                  · intro ρ w' ho hK
                    obtain ⟨h0, -⟩ := hK
                    have h0' : ρ (.tmp 122) = .pointer (some ⟨gm, 3, none⟩) := h0
                    have q1 := cell_on ho hneO zm p3
                    go_simp
                    try exact rfl
                  refine rs_old (hO _ _) (.inl (Nat.ne_of_beq_eq_false rfl)) _ (.inl rfl) _ rfl rfl ?_
                  apply rs_eq (hO _ _) (.inl (Nat.ne_of_beq_eq_false rfl))
                  · intro ρ w' ho hK
                    obtain ⟨h0, h1, -⟩ := hK
                    have h0' : ρ (.const (.int .i64 2)) = .int .i64 2 := h0
                    have h1' : ρ (.tmp 124) = .int .i64 M := h1
                    have hwr := IntWalk.i64_in (2 * M) (by omega)
                    go_simp
                    try exact rfl
                  refine rs_build (hO _ _) (.inl (Nat.ne_of_beq_eq_false rfl)) 2 (GInt (-100) 1000) 3 (fun ρ w hK => by
                    obtain ⟨h1, h2, -⟩ := hK
                    have h1' : ρ (.const (.int .i64 (-1))) = .int .i64 (-1) := h1
                    have h2' : ρ (.tmp 125) = .int .i64 (2 * M) := h2
                    refine ⟨#[.int .i64 (-1), .int .i64 (2 * M)], rfl, ?_, ?_⟩
                    · go_simp
                    · intro c hc
                      simp at hc
                      rcases hc with rfl | rfl
                      · exact ⟨-1, rfl, by omega, by omega⟩
                      · exact ⟨2 * M, rfl, by omega, by omega⟩) ?_
                  refine rs_old (hO _ _) (.inl (Nat.ne_of_beq_eq_false rfl)) _ (.inl rfl) _ rfl rfl ?_
                  refine rs_pick (hO _ _) (.inl (Nat.ne_of_beq_eq_false rfl)) 23 _ _ _ R (P + 6000 + 1 + 1) 1 rfl rfl fn_draw (fun ρ w hK => ⟨hK.1, hK.2.1, 2, hK.2.2.1, by omega, by omega⟩) (fun n k w hk h1n hn hr => pick_upto n 1 _ _ w hr (by have hk' : k < 13 := hk; omega) h1n hn (by omega)) ?_
                  refine rs_index (hO _ _) (.inl (Nat.ne_of_beq_eq_false rfl)) 28 _ _ 2 (GInt (-100) 1000) 1 rfl _ _ rfl rfl rfl rfl (by omega) (by omega) ix_drawn ?_
                  refine rs_load (hO _ _) (.inl (Nat.ne_of_beq_eq_false rfl)) 3 _ (GInt (-100) 1000) rfl _ rfl rfl ag_drawn ?_
                  refine rs_build (hO _ _) (.inl (Nat.ne_of_beq_eq_false rfl)) 1 (GInt (-100) 1000) 3 (fun ρ w hK => by
                    obtain ⟨⟨q, hq, hq0, hq1⟩, -⟩ := hK
                    have h' : ρ (.tmp 130) = .int .i64 q := hq
                    refine ⟨#[.int .i64 q], rfl, ?_, ?_⟩
                    · go_simp
                    · intro c hc
                      simp at hc
                      exact ⟨q, hc, by omega, by omega⟩) ?_
                  refine rs_appendV rfl (gm + 1) 3 28 (.slice Ao os.length co) os.length (ints os) (GInt (-100) 1000) rfl R (P + 6000 + 1 + 1) rfl (fun g hg => .inr hg) (show R < gm + 1 by omega) zm _ _ rfl _ _ rfl rfl rfl rfl i0 _ 8 Try.underlying28 hi0 hz0 hz1 hz2 rfl (by omega) (by decide) (fun u hu => by obtain ⟨q, rfl, -⟩ := hu; rfl) ?_
                  apply rs_eq (hO _ _) (.inl (Nat.ne_of_beq_eq_false rfl))
                  · intro ρ w' ho hK
                    obtain ⟨h0, -⟩ := hK
                    have h0' : ρ (.tmp 5) = .pointer (some ⟨gm, 0, none⟩) := h0
                    go_simp
                    try exact rfl
                  intro f w9 k9 hk9 hI9 ht9 hcp9
                  have E0 : f 0 = _ := ht9 0 (Nat.le_of_ble_eq_true rfl)
                  have E1 : f 1 = _ := ht9 1 (Nat.le_of_ble_eq_true rfl)
                  have E2 : f 2 = _ := ht9 2 (Nat.le_of_ble_eq_true rfl)
                  have E3 : f 3 = _ := ht9 3 (Nat.le_of_ble_eq_true rfl)
                  have E5 : f 5 = _ := ht9 5 (Nat.le_of_ble_eq_true rfl)
                  have E11 : f 11 = _ := ht9 11 (Nat.le_of_ble_eq_true rfl)
                  have Hr9 : Rd w9 R (P + 6000 + 1 + 1 + 40 * k9) := hI9.1
                  have HE9 : Only (fun g => g = R ∨ (Value.slice Ao os.length co).ownBlock = some g) w7 w9 := hI9.2.1
                  have HJ9 : (∃ u, GInt (-100) 1000 u ∧ w9.ownsRow (gm + 1) 3 1 (f 10) (os.length + 1) (ints os ++ [u])) ∧ ∀ g, (f 10).ownBlock = some g → (Value.slice Ao os.length co).ownBlock = some g ∨ w7.heap.size ≤ g := hI9.2.2
                  have hk9' : k9 ≤ 13 := hk9
                  simp only [putAll, E0, E1, E2, E3, E5, E11, Nat.zero_add, Nat.reduceAdd, Act.put, List.take, List.setIfInBounds_toArray, List.set_cons_succ, List.set_cons_zero, List.getElem_toArray, List.getElem_cons_succ, List.getElem_cons_zero]
                  clear E0 E1 E2 E3 E5 E11 hI9 ht9 hcp9 hk9 hO
                  generalize f 4 = r4, f 6 = r6, f 7 = r7, f 8 = r8, f 9 = r9 at *
                  generalize f 10 = v9 at *
                  obtain ⟨⟨uu, ⟨q, rfl, hq0, hq1⟩, hown9⟩, hat9⟩ := HJ9
                  obtain ⟨A9, c9, e9⟩ := slice_of_own hown9
                  subst e9
                  have Ho9 := Lib.hid hown9
                  have Hat9 := Lib.hid hat9
                  have HE9' := Lib.hid HE9
                  have Hr9' := Lib.hid (Hr9.more (show P + 6000 + 1 + 1 + 40 * k9 ≤ P + 7000 by omega))
                  clear p0 p1 p2 p3
                  have hbx := (HE9.block gm zm hneO).trans HC7.out.box
                  have zf := blk_lt hbx
                  have f0 := blk_cell hbx 0
                  have f1 := blk_cell hbx 1
                  have f2 := blk_cell hbx 2
                  have f3 := blk_cell hbx 3
                  have ff3 := blk_free hbx 3
                  have HX9 := Lib.hid ((HE9.block _ (blk_lt HX7.out) (fun e => by
                    rcases e with h | h
                    · omega
                    · have := (HC7.out.o.lt _ h).1; omega)).trans HX7.out)
                  have o0 := blk_cell HX9.out 0
                  have o1 := blk_cell HX9.out 1
                  have o2 := blk_cell HX9.out 2
                  have o3 := blk_cell HX9.out 3
                  have b0 := blk_free HX9.out 0
                  have b1 := blk_free HX9.out 1
                  have b2 := blk_free HX9.out 2
                  have b3 := blk_free HX9.out 3
                  have zr := blk_lt HX9.out
                  simp at f0 f1 f2 f3 o0 o1 o2 o3
                  clear hown9 hat9 HE9 Hr9 hbx hk9' hi0 hz0 hz1 hz2
                  go_wp2_with fail
                  refine bodyPost_ret (v := .agg #[.int .i64 x, .slice An ns.length cn, .slice Ag gs.length cg, .slice A9 (os.length + 1) c9]) (by simp [results, Try.results33, go_sem, o0, o1, o2, o3]) rfl (finC (c := ⟨x, ns, gs, os ++ [q]⟩) (HC7.out.addO (xs := os ++ [q]) HE9'.out (fun g hg hn e => e.elim (fun e => by omega) hn) (by rw [List.length_append, ints_snoc]; exact Ho9.out) Hat9.out) (only_set (HO7.out.aft HE9'.out fun g hg => hg.elim .inr fun h => .inl (by have := (HC7.out.o.lt g h).1; omega)) (by omega)) (rd_set Hr9'.out (by omega)) (by omega) zR (by omega) ⟨by simp only; omega, by simp only; omega, by simp only; omega, by simp only; omega, by simp; omega, Hn.out, Hl.out, (fun q hq => by
                      rcases List.mem_append.1 hq with h | h
                      · exact Hos.out q h
                      · rw [List.mem_singleton.1 h]
                        exact ⟨hq0, hq1⟩)⟩ _ _ _ _)
                · have hneK : (Value.slice An ns.length cn).ownBlock ≠ some gm := fun e => by have := (HC7.out.n.lt gm e).1; omega
                  obtain ⟨zm, p0, p1, p2, p3⟩ := HC7.out.cells
                  have Hlit := Lib.hid (Row.of_own (World.ownsRow_lit (base := w7.heap.size) (e := 3) (size := 1) w7 #[.int .i64 (-1)] 1 (Nat.le_refl _) (by unfold maxLen; omega) rfl))
                  go_wp2_with (
                    at_builtin
                    refine append_ints rfl (.tmp 137) (.tmp 138) rfl (gm + 1) _ ns.length _ rfl (HC7.out.n.alloc _) _ 1 [.int .i64 (-1)] rfl Hlit.out (by simp [Value.oneCell']) (by omega) (by simp; omega) ?_
                    intro v9 w9 hown9 hg9 hat9
                    obtain ⟨A9, c9, e9⟩ := slice_of_own hown9
                    subst e9
                    have Ho9 := Lib.hid hown9
                    have HE9 := Lib.hid (app_only hg9)
                    have Hr9 := Lib.hid (app_rd Hr7.out hg9 HC7.out.n (by omega))
                    have Hat9 := Lib.hid (app_at hat9)
                    clear p0 p1 p2 p3
                    have hbx := (HE9.out.block gm zm hneK).trans HC7.out.box
                    have zf := blk_lt hbx
                    have f0 := blk_cell hbx 0
                    have f1 := blk_cell hbx 1
                    have f2 := blk_cell hbx 2
                    have f3 := blk_cell hbx 3
                    have ff1 := blk_free hbx 1
                    have HX9 := Lib.hid ((HE9.out.block _ (blk_lt HX7.out) (fun e => by have := (HC7.out.n.lt _ e).1; omega)).trans HX7.out)
                    have o0 := blk_cell HX9.out 0
                    have o1 := blk_cell HX9.out 1
                    have o2 := blk_cell HX9.out 2
                    have o3 := blk_cell HX9.out 3
                    have b0 := blk_free HX9.out 0
                    have b1 := blk_free HX9.out 1
                    have b2 := blk_free HX9.out 2
                    have b3 := blk_free HX9.out 3
                    have zr := blk_lt HX9.out
                    simp at f0 f1 f2 f3 o0 o1 o2 o3
                    clear hown9 hg9 hat9 hbx)
                  refine bodyPost_ret (v := .agg #[.int .i64 x, .slice A9 (ns.length + 1) c9, .slice Ag gs.length cg, .slice Ao os.length co]) (by simp [results, Try.results33, go_sem, o0, o1, o2, o3]) rfl (finC (c := ⟨x, ns ++ [-1], gs, os⟩) (HC7.out.addN (xs := ns ++ [-1]) HE9.out (fun g _ hn => hn) (by rw [List.length_append, ints_snoc]; exact Ho9.out) Hat9.out) (only_set (HO7.out.aft HE9.out fun g hg => .inl (by have := (HC7.out.n.lt g hg).1; omega)) (by omega)) (rd_set Hr9.out (by omega)) (by omega) zR (by omega) ⟨by simp only; omega, by simp only; omega, by simp; omega, by simp only; omega, by simp only; omega, (fun q hq => by
                      rcases List.mem_append.1 hq with h | h
                      · exact Hn.out q h
                      · rw [List.mem_singleton.1 h]
                        exact ⟨by omega, by omega⟩), Hl.out, Hos.out⟩ _ _ _ _)
                · have hneK : (Value.slice Ag gs.length cg).ownBlock ≠ some gm := fun e => by have := (HC7.out.g.lt gm e).1; omega
                  obtain ⟨zm, p0, p1, p2, p3⟩ := HC7.out.cells
                  have Hlit := Lib.hid (Row.of_own (World.ownsRow_lit (base := w7.heap.size) (e := 59) (size := 2) w7 #[.int .i64 (2 * M), .int .i64 0] 1 (Nat.le_refl _) (by unfold maxLen; omega) rfl))
                  go_wp2_with (
                    at_builtin
                    refine append_gates rfl (.tmp 144) (.tmp 148) rfl (gm + 1) _ gs.length _ rfl (HC7.out.g.alloc _) _ 1 [.int .i64 (2 * M), .int .i64 0] rfl Hlit.out (by simp [Value.oneCell']) (by omega) (by simp; omega) ?_
                    intro v9 w9 hown9 hg9 hat9
                    obtain ⟨A9, c9, e9⟩ := slice_of_own hown9
                    subst e9
                    have Ho9 := Lib.hid hown9
                    have HE9 := Lib.hid (app_only hg9)
                    have Hr9 := Lib.hid (app_rd Hr7.out hg9 HC7.out.g (by omega))
                    have Hat9 := Lib.hid (app_at hat9)
                    clear p0 p1 p2 p3
                    have hbx := (HE9.out.block gm zm hneK).trans HC7.out.box
                    have zf := blk_lt hbx
                    have f0 := blk_cell hbx 0
                    have f1 := blk_cell hbx 1
                    have f2 := blk_cell hbx 2
                    have f3 := blk_cell hbx 3
                    have ff2 := blk_free hbx 2
                    have HX9 := Lib.hid ((HE9.out.block _ (blk_lt HX7.out) (fun e => by have := (HC7.out.g.lt _ e).1; omega)).trans HX7.out)
                    have o0 := blk_cell HX9.out 0
                    have o1 := blk_cell HX9.out 1
                    have o2 := blk_cell HX9.out 2
                    have o3 := blk_cell HX9.out 3
                    have b0 := blk_free HX9.out 0
                    have b1 := blk_free HX9.out 1
                    have b2 := blk_free HX9.out 2
                    have b3 := blk_free HX9.out 3
                    have zr := blk_lt HX9.out
                    simp at f0 f1 f2 f3 o0 o1 o2 o3
                    clear hown9 hg9 hat9 hbx)
                  refine bodyPost_ret (v := .agg #[.int .i64 x, .slice An ns.length cn, .slice A9 (gs.length + 1) c9, .slice Ao os.length co]) (by simp [results, Try.results33, go_sem, o0, o1, o2, o3]) rfl (finC (c := ⟨x, ns, gs ++ [(2 * M, 0)], os⟩) (HC7.out.addG (xs := gs ++ [(2 * M, 0)]) HE9.out (fun g _ hn => hn) (by rw [List.length_append, cubes_append]; exact Ho9.out) Hat9.out) (only_set (HO7.out.aft HE9.out fun g hg => .inl (by have := (HC7.out.g.lt g hg).1; omega)) (by omega)) (rd_set Hr9.out (by omega)) (by omega) zR (by omega) ⟨by simp only; omega, by simp only; omega, by simp only; omega, by simp; omega, by simp only; omega, Hn.out, (fun q hq => by
                      rcases List.mem_append.1 hq with h | h
                      · exact Hl.out q h
                      · rw [List.mem_singleton.1 h]
                        exact ⟨⟨by simp only; omega, by simp only; omega⟩, by simp only; omega, by simp only; omega⟩), Hos.out⟩ _ _ _ _)
                · obtain ⟨W4, hW4⟩ : ∃ W4, W4 = w7 := ⟨_, rfl⟩
                  subst hW4
                  have Hr8 := Lib.hid (Hr7.out.more (show P + 6000 + 1 + 1 ≤ P + 7000 by omega))
                  go_wp2_with fail
                  go_loopw [] (fun wr => ∃ (hs : List (Int × Int)) (vH : Value), hs.length ≤ 15 ∧ Hid (∀ q ∈ hs, LitS q.1 ∧ LitS q.2) ∧ Hid (CB gm ⟨x, ns, hs, os⟩ (.slice An ns.length cn) vH (.slice Ao os.length co) wr) ∧ Hid (Rd wr R (P + 7000)) ∧ Hid (Only (· = R) w wr) ∧ Hid (wr.heap[w.heap.size]? = some (.cells #[.int .i64 0, .slice none 0 0, .slice none 0 0, .slice none 0 0] 48 (0, 0)))) (fun wr => 16 - gsLen gm wr)
                  case atStart => exact ⟨gs, _, by omega, Hl, HC7, Hr8, HO7, HX7⟩
                  case round =>
                    obtain ⟨hs, vH, hhl, Hhs, HC8, Hr9, HO8, HX8⟩ := hrel
                    clear HC7 Hr7 Hr8 HO7 HX7
                    obtain ⟨Ah, ch, eh⟩ := slice_of_own HC8.out.g
                    simp only at eh
                    subst eh
                    by_cases hl14 : (hs.length : Int) ≤ 14
                    · have hneK : (Value.slice Ah hs.length ch).ownBlock ≠ some gm := fun e => by have := (HC8.out.g.lt gm e).1; omega
                      obtain ⟨zm, p0, p1, p2, p3⟩ := HC8.out.cells
                      have hgl := gsLen_is HC8.out
                      simp only at hgl
                      have Hlit := Lib.hid (Row.of_own (World.ownsRow_lit (base := wr.heap.size) (e := 59) (size := 2) wr #[.int .i64 0, .int .i64 0] 1 (Nat.le_refl _) (by unfold maxLen; omega) rfl))
                      go_wp2_with (
                        at_builtin
                        refine append_gates rfl (.tmp 158) (.tmp 160) rfl (gm + 1) _ hs.length _ rfl (HC8.out.g.alloc _) _ 1 [.int .i64 0, .int .i64 0] rfl Hlit.out (by simp [Value.oneCell']) (by omega) (by simp; omega) ?_
                        intro v9 w9 hown9 hg9 hat9
                        obtain ⟨A9, c9, e9⟩ := slice_of_own hown9
                        subst e9
                        have Ho9 := Lib.hid hown9
                        have HE9 := Lib.hid (app_only hg9)
                        have Hr10 := Lib.hid (app_rd Hr9.out hg9 HC8.out.g (by omega))
                        have Hat9 := Lib.hid (app_at hat9)
                        clear p0 p1 p2 p3
                        have hbx := (HE9.out.block gm zm hneK).trans HC8.out.box
                        have q2 := blk_cell hbx 2
                        have q2f := blk_free hbx 2
                        have zq := blk_lt hbx
                        simp at q2
                        clear hown9 hg9 hat9 hbx)
                      have HCn := Lib.hid (HC8.out.addG (xs := hs ++ [(0, 0)]) HE9.out (fun g _ hn => hn) (by rw [List.length_append, cubes_append]; exact Ho9.out) Hat9.out)
                      go_roundw
                      case rel =>
                        refine ⟨hs ++ [(0, 0)], .slice A9 (hs.length + 1) c9, by simp; omega, Lib.hid fun q hq => ?_, HCn, Lib.hid ?_, Lib.hid ?_, Lib.hid ?_⟩
                        · rcases List.mem_append.1 hq with h | h
                          · exact Hhs.out q h
                          · rw [List.mem_singleton.1 h]
                            exact ⟨⟨by simp only; omega, by simp only; omega⟩, by simp only; omega, by simp only; omega⟩
                        · exact rd_set Hr10.out (by omega)
                        · exact only_set (HO8.out.aft HE9.out fun g hg => .inl (by have := (HC8.out.g.lt g hg).1; omega)) (by omega)
                        · exact res_set ((HE9.out.block _ (blk_lt HX8.out) (fun e => by have := (HC8.out.g.lt _ e).1; omega)).trans HX8.out) (by omega)
                      case measure =>
                        have h1 := gsLen_is HCn.out
                        have h2 := gsLen_is HC8.out
                        simp only [List.length_append, List.length_cons, List.length_nil] at h1 h2
                        rw [h1, h2]
                        omega
                    · obtain ⟨zf, f0, f1, f2, f3⟩ := HC8.out.cells
                      obtain ⟨ff0, ff1, ff2, ff3⟩ := HC8.out.free
                      have o0 := blk_cell HX8.out 0
                      have o1 := blk_cell HX8.out 1
                      have o2 := blk_cell HX8.out 2
                      have o3 := blk_cell HX8.out 3
                      have b0 := blk_free HX8.out 0
                      have b1 := blk_free HX8.out 1
                      have b2 := blk_free HX8.out 2
                      have b3 := blk_free HX8.out 3
                      have zr := blk_lt HX8.out
                      simp at o0 o1 o2 o3
                      go_wp2_with fail
                      refine bodyPost_ret (v := .agg #[.int .i64 x, .slice An ns.length cn, .slice Ah hs.length ch, .slice Ao os.length co]) (by simp [results, Try.results33, go_sem, o0, o1, o2, o3]) rfl (finC (c := ⟨x, ns, hs, os⟩) HC8.out HO8.out Hr9.out (by omega) zR (by omega) ⟨by simp only; omega, by simp only; omega, by simp only; omega, by simp only; omega, by simp only; omega, Hn.out, Hhs.out, Hos.out⟩ _ _ _ _)
                · have hneK : (Value.slice Ao os.length co).ownBlock ≠ some gm := fun e => by have := (HC7.out.o.lt gm e).1; omega
                  obtain ⟨zm, p0, p1, p2, p3⟩ := HC7.out.cells
                  have Hlit := Lib.hid (Row.of_own (World.ownsRow_lit (base := w7.heap.size) (e := 3) (size := 1) w7 #[.int .i64 0, .int .i64 0, .int .i64 0, .int .i64 0] 4 (Nat.le_refl _) (by unfold maxLen; omega) rfl))
                  go_wp2_with (
                    at_builtin
                    refine append_ints rfl (.tmp 108) (.tmp 109) rfl (gm + 1) _ os.length _ rfl (HC7.out.o.alloc _) _ 4 [.int .i64 0, .int .i64 0, .int .i64 0, .int .i64 0] rfl Hlit.out (by simp [Value.oneCell']) (by omega) (by simp; omega) ?_
                    intro v9 w9 hown9 hg9 hat9
                    obtain ⟨A9, c9, e9⟩ := slice_of_own hown9
                    subst e9
                    have Ho9 := Lib.hid hown9
                    have HE9 := Lib.hid (app_only hg9)
                    have Hr9 := Lib.hid (app_rd Hr7.out hg9 HC7.out.o (by omega))
                    have Hat9 := Lib.hid (app_at hat9)
                    clear p0 p1 p2 p3
                    have hbx := (HE9.out.block gm zm hneK).trans HC7.out.box
                    have zf := blk_lt hbx
                    have f0 := blk_cell hbx 0
                    have f1 := blk_cell hbx 1
                    have f2 := blk_cell hbx 2
                    have f3 := blk_cell hbx 3
                    have ff3 := blk_free hbx 3
                    have HX9 := Lib.hid ((HE9.out.block _ (blk_lt HX7.out) (fun e => by have := (HC7.out.o.lt _ e).1; omega)).trans HX7.out)
                    have o0 := blk_cell HX9.out 0
                    have o1 := blk_cell HX9.out 1
                    have o2 := blk_cell HX9.out 2
                    have o3 := blk_cell HX9.out 3
                    have b0 := blk_free HX9.out 0
                    have b1 := blk_free HX9.out 1
                    have b2 := blk_free HX9.out 2
                    have b3 := blk_free HX9.out 3
                    have zr := blk_lt HX9.out
                    simp at f0 f1 f2 f3 o0 o1 o2 o3
                    clear hown9 hg9 hat9 hbx)
                  refine bodyPost_ret (v := .agg #[.int .i64 x, .slice An ns.length cn, .slice Ag gs.length cg, .slice A9 (os.length + 4) c9]) (by simp [results, Try.results33, go_sem, o0, o1, o2, o3]) rfl (finC (c := ⟨x, ns, gs, os ++ [0, 0, 0, 0]⟩) (HC7.out.addO (xs := os ++ [0, 0, 0, 0]) HE9.out (fun g _ hn => hn) (by rw [List.length_append, ints_app4]; exact Ho9.out) Hat9.out) (only_set (HO7.out.aft HE9.out fun g hg => .inl (by have := (HC7.out.o.lt g hg).1; omega)) (by omega)) (rd_set Hr9.out (by omega)) (by omega) zR (by omega) ⟨by simp only; omega, by simp only; omega, by simp only; omega, by simp only; omega, by simp; omega, Hn.out, Hl.out, (fun q hq => by
                      rcases List.mem_append.1 hq with h | h
                      · exact Hos.out q h
                      · simp at h
                        subst h
                        exact ⟨by omega, by omega⟩)⟩ _ _ _ _)
end Go.Proofs.Ytmlmnelbphjfbaa
