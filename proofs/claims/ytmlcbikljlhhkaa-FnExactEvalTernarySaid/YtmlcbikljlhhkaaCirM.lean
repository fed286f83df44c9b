import Derived.Test.YtmlcbikljlhhkaaBits
namespace Go.Proofs.Ytmlcbikljlhhkaa
/-! Circuits, plainly. -/
/-- A circuit whose numbers are natural. -/
structure Ci where
  ins : Nat
  next : List Nat
  gates : List (Nat × Nat)
  outs : List Nat
/-- A circuit as it lies in memory. -/
structure Cz where
  ins : Int
  next : List Int
  gates : List (Int × Int)
  outs : List Int
namespace Cir
def isLit (l v : Int) : Bool := decide (0 ≤ l ∧ l < 2 * v)
/-- Every gate from place k on refers to variables before its own. -/
def gatesOk (first : Int) : Nat → List (Int × Int) → Bool
  | _, [] => true
  | k, g :: gs => isLit g.1 (first + k) && isLit g.2 (first + k) && gatesOk first (k + 1) gs
def first (c : Cz) : Int := 1 + c.ins + c.next.length
def vars (c : Cz) : Int := first c + c.gates.length
def sizes (c : Cz) : Bool := decide (0 ≤ c.ins ∧ c.ins ≤ 4 ∧ c.next.length ≤ 3 ∧ c.gates.length ≤ 14 ∧ c.outs.length ≤ 3)
def valid (c : Cz) : Bool := sizes c && gatesOk (first c) 0 c.gates && (c.next ++ c.outs).all (isLit · (vars c))
def toCz (c : Ci) : Cz := { ins := c.ins, next := c.next.map Int.ofNat, gates := c.gates.map fun g => ((g.1 : Int), (g.2 : Int)), outs := c.outs.map Int.ofNat }
def nfirst (c : Ci) : Nat := 1 + c.ins + c.next.length
def nvars (c : Ci) : Nat := nfirst c + c.gates.length
/-- The circuits that are valid. -/
structure Ok (c : Ci) : Prop where
  ins : c.ins ≤ 4
  nexts : c.next.length ≤ 3
  gatess : c.gates.length ≤ 14
  outss : c.outs.length ≤ 3
  gate : ∀ (k : Nat) (g : Nat × Nat), c.gates[k]? = some g → g.1 < 2 * (nfirst c + k) ∧ g.2 < 2 * (nfirst c + k)
  next : ∀ l ∈ c.next, l < 2 * nvars c
  out : ∀ l ∈ c.outs, l < 2 * nvars c
theorem gatesOk_get {f : Int} : ∀ {gs : List (Int × Int)} {k : Nat}, gatesOk f k gs = true → ∀ (i : Nat) (g : Int × Int), gs[i]? = some g → isLit g.1 (f + (k + i : Nat)) = true ∧ isLit g.2 (f + (k + i : Nat)) = true
  | [], _, _, i, g, hg => by simp at hg
  | a :: gs, k, h, i, g, hg => by
    rw [gatesOk, Bool.and_eq_true, Bool.and_eq_true] at h
    cases i with
    | zero =>
      have : a = g := by simpa using hg
      subst this
      exact h.1
    | succ i =>
      have := gatesOk_get h.2 i g (by simpa using hg)
      rw [show k + (i + 1) = k + 1 + i from by omega]
      exact this
theorem gatesOk_drop {f : Int} {gs : List (Int × Int)} {k : Nat} {g : Int × Int} (h : gs[k]? = some g) : gatesOk f k (gs.drop k) = (isLit g.1 (f + k) && isLit g.2 (f + k) && gatesOk f (k + 1) (gs.drop (k + 1))) := by
  obtain ⟨hk, rfl⟩ := List.getElem?_eq_some_iff.1 h
  rw [List.drop_eq_getElem_cons hk, gatesOk]
theorem nat_list : ∀ {l : List Int}, (∀ x ∈ l, 0 ≤ x) → ∃ m : List Nat, l = m.map Int.ofNat
  | [], _ => ⟨[], rfl⟩
  | x :: l, h => by
    obtain ⟨m, rfl⟩ := nat_list fun y hy => h y (List.mem_cons_of_mem _ hy)
    obtain ⟨n, rfl⟩ := Int.eq_ofNat_of_zero_le (h x (by simp))
    exact ⟨n :: m, rfl⟩
theorem nat_pairs : ∀ {l : List (Int × Int)}, (∀ x ∈ l, 0 ≤ x.1 ∧ 0 ≤ x.2) → ∃ m : List (Nat × Nat), l = m.map fun g => ((g.1 : Int), (g.2 : Int))
  | [], _ => ⟨[], rfl⟩
  | (a, b) :: l, h => by
    obtain ⟨m, rfl⟩ := nat_pairs fun y hy => h y (List.mem_cons_of_mem _ hy)
    have := h (a, b) (by simp)
    obtain ⟨n, rfl⟩ := Int.eq_ofNat_of_zero_le this.1
    obtain ⟨n', rfl⟩ := Int.eq_ofNat_of_zero_le this.2
    exact ⟨(n, n') :: m, rfl⟩
/-- A valid circuit is one of natural numbers. -/
theorem valid_nat {c : Cz} (h : valid c = true) : ∃ d : Ci, c = toCz d ∧ Ok d := by
  unfold valid at h
  rw [Bool.and_eq_true, Bool.and_eq_true] at h
  obtain ⟨⟨h1, h2⟩, h3⟩ := h
  unfold sizes at h1
  rw [decide_eq_true_eq] at h1
  obtain ⟨h4, h5, h6, h7, h8⟩ := h1
  have hall : ∀ l ∈ c.next ++ c.outs, 0 ≤ l ∧ l < 2 * vars c := fun l hl => by
    have := List.all_eq_true.1 h3 l hl
    unfold isLit at this
    simpa using this
  obtain ⟨i, hi⟩ := Int.eq_ofNat_of_zero_le h4
  obtain ⟨n, hn⟩ := nat_list (l := c.next) fun x hx => (hall x (by simp [hx])).1
  obtain ⟨o, ho⟩ := nat_list (l := c.outs) fun x hx => (hall x (by simp [hx])).1
  have hg : ∀ (k : Nat) (g : Int × Int), c.gates[k]? = some g → (0 ≤ g.1 ∧ g.1 < 2 * (first c + k)) ∧ 0 ≤ g.2 ∧ g.2 < 2 * (first c + k) := fun k g hk => by
    have := gatesOk_get h2 k g hk
    unfold isLit at this
    simpa using this
  obtain ⟨gs, hgs⟩ := nat_pairs (l := c.gates) fun x hx => by
    obtain ⟨k, hk, rfl⟩ := List.mem_iff_getElem.1 hx
    have := hg k _ (List.getElem?_eq_getElem hk)
    exact ⟨this.1.1, this.2.1⟩
  refine ⟨⟨i, n, gs, o⟩, ?_, ?_⟩
  · cases c
    simp only [toCz] at *
    subst hi hn ho hgs
    rfl
  · have e1 : first c = (nfirst ⟨i, n, gs, o⟩ : Nat) := by simp [first, nfirst, hi, hn]
    have e2 : vars c = (nvars ⟨i, n, gs, o⟩ : Nat) := by
      rw [vars, e1, nvars, hgs]; simp
    refine ⟨by simp only; omega, by have := congrArg List.length hn; simp at this; simp only; omega, by have := congrArg List.length hgs; simp at this; simp only; omega, by have := congrArg List.length ho; simp at this; simp only; omega, fun k g hk => ?_, fun l hl => ?_, fun l hl => ?_⟩
    · have := hg k ((g.1 : Int), (g.2 : Int)) (by rw [hgs, List.getElem?_map]; simp only at hk; rw [hk]; rfl)
      rw [e1] at this
      simp only at this
      omega
    · have := hall (l : Int) (by rw [hn]; exact List.mem_append_left _ (List.mem_map.2 ⟨l, hl, rfl⟩))
      rw [e2] at this
      omega
    · have := hall (l : Int) (by rw [ho]; exact List.mem_append_right _ (List.mem_map.2 ⟨l, hl, rfl⟩))
      rw [e2] at this
      omega
/-! ### Values -/
def lit (v : List Bool) (l : Nat) : Bool := v.getD (l / 2) false != (l % 2 == 1)
def gval (v : List Bool) (g : Nat × Nat) : Bool := lit v g.1 && lit v g.2
def evalG (gs : List (Nat × Nat)) (v : List Bool) : List Bool := gs.foldl (fun v g => v ++ [gval v g]) v
/-- The values of all variables. -/
def vals (c : Ci) (st inp : List Bool) : List Bool := evalG c.gates (false :: (inp ++ st))
def lits (v : List Bool) (ls : List Nat) : List Bool := ls.map (lit v)
theorem evalG_length : ∀ (gs : List (Nat × Nat)) (v : List Bool), (evalG gs v).length = v.length + gs.length
  | [], v => rfl
  | g :: gs, v => by
    rw [evalG, List.foldl_cons]
    have := evalG_length gs (v ++ [gval v g])
    rw [evalG] at this
    rw [this]
    simp
    omega
theorem evalG_take_snoc {gs : List (Nat × Nat)} {k : Nat} {g : Nat × Nat} (h : gs[k]? = some g) (v : List Bool) : evalG (gs.take (k + 1)) v = evalG (gs.take k) v ++ [gval (evalG (gs.take k) v) g] := by
  unfold evalG
  rw [List.take_add_one, h, List.foldl_append]
  rfl
theorem vals_length (c : Ci) {st inp : List Bool} (h1 : inp.length = c.ins) (h2 : st.length = c.next.length) : (vals c st inp).length = nvars c := by
  rw [vals, evalG_length]
  simp [nvars, nfirst, h1, h2]
  omega
/-- The lowest n bits. -/
def bits (x n : Nat) : List Bool := (List.range n).map fun i => x.testBit i
/-- The number of some bits, the lowest first. -/
def num : List Bool → Nat
  | [] => 0
  | b :: l => (if b then 1 else 0) + 2 * num l
theorem num_lt : ∀ l : List Bool, num l < 2 ^ l.length
  | [] => by simp [num]
  | b :: l => by
    have := num_lt l
    rw [num, List.length_cons, Nat.pow_succ]
    split <;> omega
def nextOf (c : Ci) (s x : Nat) : Nat := num (lits (vals c (bits s c.next.length) (bits x c.ins)) c.next)
def outsOf (c : Ci) (s x : Nat) : List Bool := lits (vals c (bits s c.next.length) (bits x c.ins)) c.outs
theorem nextOf_lt (c : Ci) (s x : Nat) : nextOf c s x < 2 ^ c.next.length := by
  have := num_lt (lits (vals c (bits s c.next.length) (bits x c.ins)) c.next)
  unfold nextOf
  simpa [lits] using this
end Cir
end Go.Proofs.Ytmlcbikljlhhkaa
