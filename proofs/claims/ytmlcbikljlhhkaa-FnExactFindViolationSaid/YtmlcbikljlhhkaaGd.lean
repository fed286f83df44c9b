import Derived.Test.YtmlcbikljlhhkaaGa
namespace Go.Proofs.Ytmlcbikljlhhkaa
/-! Circuits, plainly. -/
/-- A circuit whose numbers are natural. -/
structure Ci where
  ins : Nat
  next : List Nat
  gates : List (Nat × Nat)
  outs : List Nat
/-- A circuit as it lies in memory. -/
structure Cz where
  ins : Int
  next : List Int
  gates : List (Int × Int)
  outs : List Int
namespace Cir
def isLit (l v : Int) : Bool := decide (0 ≤ l ∧ l < 2 * v)
/-- Every gate from place k on refers to variables before its own. -/
def gatesOk (first : Int) : Nat → List (Int × Int) → Bool
  | _, [] => true
  | k, g :: gs => isLit g.1 (first + k) && isLit g.2 (first + k) && gatesOk first (k + 1) gs
def first (c : Cz) : Int := 1 + c.ins + c.next.length
def vars (c : Cz) : Int := first c + c.gates.length
def sizes (c : Cz) : Bool := decide (0 ≤ c.ins ∧ c.ins ≤ 4 ∧ c.next.length ≤ 3 ∧ c.gates.length ≤ 14 ∧ c.outs.length ≤ 3)
def valid (c : Cz) : Bool := sizes c && gatesOk (first c) 0 c.gates && (c.next ++ c.outs).all (isLit · (vars c))
def toCz (c : Ci) : Cz := { ins := c.ins, next := c.next.map Int.ofNat, gates := c.gates.map fun g => ((g.1 : Int), (g.2 : Int)), outs := c.outs.map Int.ofNat }
def nfirst (c : Ci) : Nat := 1 + c.ins + c.next.length
def nvars (c : Ci) : Nat := nfirst c + c.gates.length
/-- The circuits that are valid. -/
structure Ok (c : Ci) : Prop where
  ins : c.ins ≤ 4
  nexts : c.next.length ≤ 3
  gatess : c.gates.length ≤ 14
  outss : c.outs.length ≤ 3
  gate : ∀ (k : Nat) (g : Nat × Nat), c.gates[k]? = some g → g.1 < 2 * (nfirst c + k) ∧ g.2 < 2 * (nfirst c + k)
  next : ∀ l ∈ c.next, l < 2 * nvars c
  out : ∀ l ∈ c.outs, l < 2 * nvars c
theorem gatesOk_get {f : Int} : ∀ {gs : List (Int × Int)} {k : Nat}, gatesOk f k gs = true → ∀ (i : Nat) (g : Int × Int), gs[i]? = some g → isLit g.1 (f + (k + i : Nat)) = true ∧ isLit g.2 (f + (k + i : Nat)) = true
  | [], _, _, i, g, hg => by simp at hg
  | a :: gs, k, h, i, g, hg => by
    rw [gatesOk, Bool.and_eq_true, Bool.and_eq_true] at h
    cases i with
    | zero =>
      have : a = g := by simpa using hg
      subst this
      exact h.1
    | succ i =>
      have := gatesOk_get h.2 i g (by simpa using hg)
      rw [show k + (i + 1) = k + 1 + i from by omega]
      exact this
theorem gatesOk_drop {f : Int} {gs : List (Int × Int)} {k : Nat} {g : Int × Int} (h : gs[k]? = some g) : gatesOk f k (gs.drop k) = (isLit g.1 (f + k) && isLit g.2 (f + k) && gatesOk f (k + 1) (gs.drop (k + 1))) := by
  obtain ⟨hk, rfl⟩ := List.getElem?_eq_some_iff.1 h
  rw [List.drop_eq_getElem_cons hk, gatesOk]
theorem nat_list : ∀ {l : List Int}, (∀ x ∈ l, 0 ≤ x) → ∃ m : List Nat, l = m.map Int.ofNat
  | [], _ => ⟨[], rfl⟩
  | x :: l, h => by
    obtain ⟨m, rfl⟩ := nat_list fun y hy => h y (List.mem_cons_of_mem _ hy)
    obtain ⟨n, rfl⟩ := Int.eq_ofNat_of_zero_le (h x (by simp))
    exact ⟨n :: m, rfl⟩
theorem nat_pairs : ∀ {l : List (Int × Int)}, (∀ x ∈ l, 0 ≤ x.1 ∧ 0 ≤ x.2) → ∃ m : List (Nat × Nat), l = m.map fun g => ((g.1 : Int), (g.2 : Int))
  | [], _ => ⟨[], rfl⟩
  | (a, b) :: l, h => by
    obtain ⟨m, rfl⟩ := nat_pairs fun y hy => h y (List.mem_cons_of_mem _ hy)
    have := h (a, b) (by simp)
    obtain ⟨n, rfl⟩ := Int.eq_ofNat_of_zero_le this.1
    obtain ⟨n', rfl⟩ := Int.eq_ofNat_of_zero_le this.2
    exact ⟨(n, n') :: m, rfl⟩
/-- A valid circuit is one of natural numbers. -/
theorem valid_nat {c : Cz} (h : valid c = true) : ∃ d : Ci, c = toCz d ∧ Ok d := by
  unfold valid at h
  rw [Bool.and_eq_true, Bool.and_eq_true] at h
  obtain ⟨⟨h1, h2⟩, h3⟩ := h
  unfold sizes at h1
  rw [decide_eq_true_eq] at h1
  obtain ⟨h4, h5, h6, h7, h8⟩ := h1
  have hall : ∀ l ∈ c.next ++ c.outs, 0 ≤ l ∧ l < 2 * vars c := fun l hl => by
    have := List.all_eq_true.1 h3 l hl
    unfold isLit at this
    simpa using this
  obtain ⟨i, hi⟩ := Int.eq_ofNat_of_zero_le h4
  obtain ⟨n, hn⟩ := nat_list (l := c.next) fun x hx => (hall x (by simp [hx])).1
  obtain ⟨o, ho⟩ := nat_list (l := c.outs) fun x hx => (hall x (by simp [hx])).1
  have hg : ∀ (k : Nat) (g : Int × Int), c.gates[k]? = some g → (0 ≤ g.1 ∧ g.1 < 2 * (first c + k)) ∧ 0 ≤ g.2 ∧ g.2 < 2 * (first c + k) := fun k g hk => by
    have := gatesOk_get h2 k g hk
    unfold isLit at this
    simpa using this
  obtain ⟨gs, hgs⟩ := nat_pairs (l := c.gates) fun x hx => by
    obtain ⟨k, hk, rfl⟩ := List.mem_iff_getElem.1 hx
    have := hg k _ (List.getElem?_eq_getElem hk)
    exact ⟨this.1.1, this.2.1⟩
  refine ⟨⟨i, n, gs, o⟩, ?_, ?_⟩
  · cases c
    simp only [toCz] at *
    subst hi hn ho hgs
    rfl
  · have e1 : first c = (nfirst ⟨i, n, gs, o⟩ : Nat) := by simp [first, nfirst, hi, hn]
    have e2 : vars c = (nvars ⟨i, n, gs, o⟩ : Nat) := by
      rw [vars, e1, nvars, hgs]; simp
    refine ⟨by simp only; omega, by have := congrArg List.length hn; simp at this; simp only; omega, by have := congrArg List.length hgs; simp at this; simp only; omega, by have := congrArg List.length ho; simp at this; simp only; omega, fun k g hk => ?_, fun l hl => ?_, fun l hl => ?_⟩
    · have := hg k ((g.1 : Int), (g.2 : Int)) (by rw [hgs, List.getElem?_map]; simp only at hk; rw [hk]; rfl)
      rw [e1] at this
      simp only at this
      omega
    · have := hall (l : Int) (by rw [hn]; exact List.mem_append_left _ (List.mem_map.2 ⟨l, hl, rfl⟩))
      rw [e2] at this
      omega
    · have := hall (l : Int) (by rw [ho]; exact List.mem_append_right _ (List.mem_map.2 ⟨l, hl, rfl⟩))
      rw [e2] at this
      omega
/-! ### Values -/
def lit (v : List Bool) (l : Nat) : Bool := v.getD (l / 2) false != (l % 2 == 1)
def gval (v : List Bool) (g : Nat × Nat) : Bool := lit v g.1 && lit v g.2
def evalG (gs : List (Nat × Nat)) (v : List Bool) : List Bool := gs.foldl (fun v g => v ++ [gval v g]) v
/-- The values of all variables. -/
def vals (c : Ci) (st inp : List Bool) : List Bool := evalG c.gates (false :: (inp ++ st))
def lits (v : List Bool) (ls : List Nat) : List Bool := ls.map (lit v)
theorem evalG_length : ∀ (gs : List (Nat × Nat)) (v : List Bool), (evalG gs v).length = v.length + gs.length
  | [], v => rfl
  | g :: gs, v => by
    rw [evalG, List.foldl_cons]
    have := evalG_length gs (v ++ [gval v g])
    rw [evalG] at this
    rw [this]
    simp
    omega
theorem evalG_take_snoc {gs : List (Nat × Nat)} {k : Nat} {g : Nat × Nat} (h : gs[k]? = some g) (v : List Bool) : evalG (gs.take (k + 1)) v = evalG (gs.take k) v ++ [gval (evalG (gs.take k) v) g] := by
  unfold evalG
  rw [List.take_add_one, h, List.foldl_append]
  rfl
theorem vals_length (c : Ci) {st inp : List Bool} (h1 : inp.length = c.ins) (h2 : st.length = c.next.length) : (vals c st inp).length = nvars c := by
  rw [vals, evalG_length]
  simp [nvars, nfirst, h1, h2]
  omega
/-- The lowest n bits. -/
def bits (x n : Nat) : List Bool := (List.range n).map fun i => x.testBit i
/-- The number of some bits, the lowest first. -/
def num : List Bool → Nat
  | [] => 0
  | b :: l => (if b then 1 else 0) + 2 * num l
theorem num_lt : ∀ l : List Bool, num l < 2 ^ l.length
  | [] => by simp [num]
  | b :: l => by
    have := num_lt l
    rw [num, List.length_cons, Nat.pow_succ]
    split <;> omega
def nextOf (c : Ci) (s x : Nat) : Nat := num (lits (vals c (bits s c.next.length) (bits x c.ins)) c.next)
def outsOf (c : Ci) (s x : Nat) : List Bool := lits (vals c (bits s c.next.length) (bits x c.ins)) c.outs
theorem nextOf_lt (c : Ci) (s x : Nat) : nextOf c s x < 2 ^ c.next.length := by
  have := num_lt (lits (vals c (bits s c.next.length) (bits x c.ins)) c.next)
  unfold nextOf
  simpa [lits] using this
end Cir
end Go.Proofs.Ytmlcbikljlhhkaa

namespace Go.Proofs.Ytmlcbikljlhhkaa
/-! Circuits, plainly: the natural circuit of a valid one; ternary values; what the functions answer, as Lean functions. -/
namespace Cir
def nat (c : Cz) : Ci := { ins := c.ins.toNat, next := c.next.map Int.toNat, gates := c.gates.map fun g => (g.1.toNat, g.2.toNat), outs := c.outs.map Int.toNat }
theorem nat_toCz (d : Ci) : nat (toCz d) = d := by
  have e1 : ∀ l : List Nat, (l.map Int.ofNat).map Int.toNat = l := fun l => by
    rw [List.map_map]
    exact (List.map_congr_left fun x _ => (by simp : (Int.toNat ∘ Int.ofNat) x = id x)).trans (List.map_id l)
  have e2 : ∀ l : List (Nat × Nat), (l.map fun g => ((g.1 : Int), (g.2 : Int))).map (fun g => (g.1.toNat, g.2.toNat)) = l := fun l => by
    rw [List.map_map]
    exact (List.map_congr_left fun x _ => (by simp : ((fun g : Int × Int => (g.1.toNat, g.2.toNat)) ∘ fun g : Nat × Nat => ((g.1 : Int), (g.2 : Int))) x = id x)).trans (List.map_id l)
  unfold nat toCz
  simp only [e1, e2, Int.toNat_natCast]
theorem nat_ok {c : Cz} (h : valid c = true) : c = toCz (nat c) ∧ Ok (nat c) := by
  obtain ⟨d, rfl, hd⟩ := valid_nat h
  rw [nat_toCz]
  exact ⟨rfl, hd⟩
theorem vars_toCz (d : Ci) : vars (toCz d) = (nvars d : Nat) := by
  simp [vars, first, toCz, nvars, nfirst]
theorem first_toCz (d : Ci) : first (toCz d) = (nfirst d : Nat) := by
  simp [first, toCz, nfirst]
theorem bits_length (x n : Nat) : (bits x n).length = n := by simp [bits]
/-! ### Ternary values: 0, 1, and 2 for unknown -/
def tlit (v : List Nat) (l : Nat) : Nat := if v.getD (l / 2) 0 = 2 ∨ l % 2 = 0 then v.getD (l / 2) 0 else 1 - v.getD (l / 2) 0
def tand (a b : Nat) : Nat := if a = 0 ∨ b = 0 then 0 else if a = 1 ∧ b = 1 then 1 else 2
def tgval (v : List Nat) (g : Nat × Nat) : Nat := tand (tlit v g.1) (tlit v g.2)
def tevalG (gs : List (Nat × Nat)) (v : List Nat) : List Nat := gs.foldl (fun v g => v ++ [tgval v g]) v
def tvals (c : Ci) (st inp : List Nat) : List Nat := tevalG c.gates (0 :: (inp ++ st))
theorem tevalG_length : ∀ (gs : List (Nat × Nat)) (v : List Nat), (tevalG gs v).length = v.length + gs.length
  | [], v => rfl
  | g :: gs, v => by
    rw [tevalG, List.foldl_cons]
    have := tevalG_length gs (v ++ [tgval v g])
    rw [tevalG] at this
    rw [this]
    simp
    omega
theorem tevalG_take_snoc {gs : List (Nat × Nat)} {k : Nat} {g : Nat × Nat} (h : gs[k]? = some g) (v : List Nat) : tevalG (gs.take (k + 1)) v = tevalG (gs.take k) v ++ [tgval (tevalG (gs.take k) v) g] := by
  unfold tevalG
  rw [List.take_add_one, h, List.foldl_append]
  rfl
theorem tvals_length (c : Ci) {st inp : List Nat} (h1 : inp.length = c.ins) (h2 : st.length = c.next.length) : (tvals c st inp).length = nvars c := by
  rw [tvals, tevalG_length]
  simp [nvars, nfirst, h1, h2]
  omega
theorem tand_le (a b : Nat) : tand a b ≤ 2 := by unfold tand; split <;> (try split) <;> omega
theorem tlit_le {v : List Nat} (h : ∀ x ∈ v, x ≤ 2) (l : Nat) : tlit v l ≤ 2 := by
  have hx : v.getD (l / 2) 0 ≤ 2 := by
    rw [List.getD_eq_getElem?_getD]
    cases hi : v[l / 2]? with
    | none => simp
    | some x => exact h x (List.mem_of_getElem? hi)
  unfold tlit
  split <;> omega
theorem tevalG_le : ∀ (gs : List (Nat × Nat)) {v : List Nat}, (∀ x ∈ v, x ≤ 2) → ∀ x ∈ tevalG gs v, x ≤ 2
  | [], v, h => h
  | g :: gs, v, h => by
    have : tevalG (g :: gs) v = tevalG gs (v ++ [tgval v g]) := rfl
    rw [this]
    refine tevalG_le gs fun x hx => ?_
    rcases List.mem_append.1 hx with h1 | h1
    · exact h x h1
    · rw [List.mem_singleton.1 h1]; exact tand_le _ _
theorem tvals_le (c : Ci) {st inp : List Nat} (h1 : ∀ x ∈ st, x ≤ 2) (h2 : ∀ x ∈ inp, x ≤ 2) : ∀ x ∈ tvals c st inp, x ≤ 2 := by
  refine tevalG_le _ fun x hx => ?_
  rcases List.mem_cons.1 hx with rfl | hx
  · omega
  · rcases List.mem_append.1 hx with h | h
    · exact h2 x h
    · exact h1 x h
def tnext (c : Ci) (v : List Nat) : List Nat := c.next.map (tlit v)
/-- A ternary value that is right for a bit. -/
def Rt (t : Nat) (b : Bool) : Prop := t = 2 ∨ t = b.toNat
theorem rt_lit {v : List Nat} {u : List Bool} (hl : v.length = u.length) (h : ∀ (i t : Nat) (b : Bool), v[i]? = some t → u[i]? = some b → Rt t b) (l : Nat) (hlt : l / 2 < v.length) : Rt (tlit v l) (lit u l) := by
  have hv : v[l / 2]? = some (v[l / 2]'hlt) := List.getElem?_eq_getElem hlt
  have hu : u[l / 2]? = some (u[l / 2]'(by omega)) := List.getElem?_eq_getElem (by omega)
  have := h _ _ _ hv hu
  unfold tlit lit
  rw [List.getD_eq_getElem?_getD, List.getD_eq_getElem?_getD, hv, hu]
  generalize v[l / 2]'hlt = t at this
  generalize u[l / 2]'(by omega) = b at this
  simp only [Option.getD_some]
  unfold Rt at this ⊢
  rcases this with rfl | rfl
  · simp
  · right
    rcases Nat.mod_two_eq_zero_or_one l with h0 | h0
    · rw [h0]; cases b <;> simp
    · rw [h0]; cases b <;> simp
theorem rt_and {a b : Nat} {x y : Bool} (h1 : Rt a x) (h2 : Rt b y) : Rt (tand a b) (x && y) := by
  unfold Rt at *
  rcases h1 with rfl | rfl <;> rcases h2 with rfl | rfl <;> (try cases x) <;> (try cases y) <;> simp [tand]
def RtAll (v : List Nat) (u : List Bool) : Prop := v.length = u.length ∧ ∀ (i t : Nat) (b : Bool), v[i]? = some t → u[i]? = some b → Rt t b
theorem RtAll.snoc {v : List Nat} {u : List Bool} (h : RtAll v u) {t : Nat} {b : Bool} (ht : Rt t b) : RtAll (v ++ [t]) (u ++ [b]) := by
  refine ⟨by simp [h.1], fun i t' b' h1 h2 => ?_⟩
  rcases Nat.lt_or_ge i v.length with hi | hi
  · rw [List.getElem?_append_left hi] at h1
    rw [List.getElem?_append_left (by have := h.1; omega)] at h2
    exact h.2 i _ _ h1 h2
  · rw [List.getElem?_append_right hi] at h1
    rw [List.getElem?_append_right (by have := h.1; omega)] at h2
    have e : u.length = v.length := h.1.symm
    rw [e] at h2
    rcases hj : i - v.length with _ | j
    · rw [hj] at h1 h2
      simp at h1 h2
      subst h1 h2
      exact ht
    · rw [hj] at h1
      simp at h1
theorem rt_eval : ∀ (gs : List (Nat × Nat)) (f : Nat) {v : List Nat} {u : List Bool}, RtAll v u → v.length = f → (∀ (k : Nat) (g : Nat × Nat), gs[k]? = some g → g.1 < 2 * (f + k) ∧ g.2 < 2 * (f + k)) → RtAll (tevalG gs v) (evalG gs u)
  | [], f, v, u, h, _, _ => h
  | g :: gs, f, v, u, h, hf, hg => by
    have e1 : tevalG (g :: gs) v = tevalG gs (v ++ [tgval v g]) := rfl
    have e2 : evalG (g :: gs) u = evalG gs (u ++ [gval u g]) := rfl
    rw [e1, e2]
    have h0 := hg 0 g rfl
    refine rt_eval gs (f + 1) (h.snoc (rt_and (rt_lit h.1 h.2 _ (by omega)) (rt_lit h.1 h.2 _ (by omega)))) (by simp [hf]) fun k g' hk => ?_
    have := hg (k + 1) g' (by simpa using hk)
    omega
theorem rtAll_cons {v : List Nat} {u : List Bool} (h : RtAll v u) {t : Nat} {b : Bool} (ht : Rt t b) : RtAll (t :: v) (b :: u) := by
  refine ⟨by simp [h.1], fun i t' b' h1 h2 => ?_⟩
  cases i with
  | zero => simp at h1 h2; subst h1 h2; exact ht
  | succ i => simp at h1 h2; exact h.2 i _ _ h1 h2
theorem rtAll_append {v v' : List Nat} {u u' : List Bool} (h : RtAll v u) (h' : RtAll v' u') : RtAll (v ++ v') (u ++ u') := by
  refine ⟨by simp [h.1, h'.1], fun i t b h1 h2 => ?_⟩
  rcases Nat.lt_or_ge i v.length with hi | hi
  · rw [List.getElem?_append_left hi] at h1
    rw [List.getElem?_append_left (by have := h.1; omega)] at h2
    exact h.2 i _ _ h1 h2
  · rw [List.getElem?_append_right hi] at h1
    rw [List.getElem?_append_right (by have := h.1; omega)] at h2
    rw [← h.1] at h2
    exact h'.2 _ _ _ h1 h2
/-- A known ternary value is right for all completions. -/
theorem rt_vals (c : Ci) (hc : Ok c) {st inp : List Nat} {st' inp' : List Bool} (h1 : RtAll inp inp') (h2 : RtAll st st') (l1 : inp.length = c.ins) (l2 : st.length = c.next.length) : RtAll (tvals c st inp) (vals c st' inp') := by
  refine rt_eval c.gates (nfirst c) (rtAll_cons (rtAll_append h1 h2) (.inr rfl)) (by simp [nfirst, l1, l2]; omega) fun k g hk => ?_
  exact hc.gate k g hk
end Cir
end Go.Proofs.Ytmlcbikljlhhkaa

namespace Go.Proofs.Ytmlcbikljlhhkaa
/-! Reachable states, plainly. -/
namespace Cir
/-- Membership, as a Bool that the simplifier leaves alone. -/
def memB (l : List Nat) (n : Nat) : Bool := l.contains n
theorem memB_iff {l : List Nat} {n : Nat} : memB l n = true ↔ n ∈ l := by unfold memB; simp
def push (l : List Nat) (n : Nat) : List Nat := if l.contains n then l else l ++ [n]
/-- The next states for the first j inputs are added. -/
def pushes (c : Ci) (s j : Nat) (l : List Nat) : List Nat := ((List.range j).map (nextOf c s)).foldl push l
def bfs (c : Ci) : Nat → Nat → List Nat → List Nat
  | 0, _, l => l
  | f + 1, k, l => match l[k]? with
    | none => l
    | some s => bfs c f (k + 1) (pushes c s (2 ^ c.ins) l)
def reach (c : Ci) : List Nat := bfs c 9 0 [0]
/-- Different states of the circuit. -/
structure Sts (c : Ci) (l : List Nat) : Prop where
  nodup : l.Nodup
  lt : ∀ x ∈ l, x < 2 ^ c.next.length
theorem nodup_lt : ∀ (N : Nat) (l : List Nat), l.Nodup → (∀ x ∈ l, x < N) → l.length ≤ N
  | 0, l, _, h => by
    cases l with
    | nil => simp
    | cons a l => exact absurd (h a (by simp)) (by omega)
  | N + 1, l, hn, h => by
    by_cases hm : N ∈ l
    · have h1 := nodup_lt N (l.erase N) (hn.erase N) (fun x hx => by
        have h2 := (List.Nodup.mem_erase_iff hn).1 hx
        have h3 := h x h2.2
        have h4 := h2.1
        omega)
      rw [List.length_erase_of_mem hm] at h1
      omega
    · have := nodup_lt N l hn (fun x hx => by
        have h3 := h x hx
        have h4 : x ≠ N := fun e => hm (e ▸ hx)
        omega)
      omega
theorem Sts.len {c : Ci} {l : List Nat} (h : Sts c l) (hc : Ok c) : l.length ≤ 8 := by
  have h1 := nodup_lt _ l h.nodup h.lt
  have h2 : 2 ^ c.next.length ≤ 2 ^ 3 := Nat.pow_le_pow_right (show 0 < 2 by decide) hc.nexts
  omega
theorem Sts.zero (c : Ci) : Sts c [0] := ⟨by simp, fun x hx => by simp at hx; subst hx; exact Nat.pow_pos (by decide)⟩
theorem Sts.push {c : Ci} {l : List Nat} (h : Sts c l) {n : Nat} (hn : n < 2 ^ c.next.length) : Sts c (Cir.push l n) := by
  unfold Cir.push
  cases hc : l.contains n
  · refine ⟨?_, fun x hx => ?_⟩
    · simp only [Bool.false_eq_true, if_false]
      rw [List.nodup_append]
      refine ⟨h.nodup, by simp, fun a ha b hb => ?_⟩
      simp at hb
      subst hb
      rintro rfl
      have : l.contains a = true := by simpa using ha
      rw [hc] at this
      cases this
    · simp at hx
      rcases hx with hx | rfl
      · exact h.lt x hx
      · exact hn
  · simpa using h
theorem push_no {l : List Nat} {n : Nat} (h : memB l n = false) : push l n = l ++ [n] := by unfold memB at h; unfold push; rw [h]; rfl
theorem push_yes {l : List Nat} {n : Nat} (h : memB l n = true) : push l n = l := by unfold memB at h; unfold push; rw [h]; rfl
theorem memB_snoc (l : List Nat) (n x : Nat) : memB (l ++ [n]) x = (memB l x || x == n) := by unfold memB; rw [Bool.eq_iff_iff]; simp
theorem memB_zero (x : Nat) : memB [0] x = (x == 0) := by unfold memB; rw [Bool.eq_iff_iff]; simp
theorem pushes_zero (c : Ci) (s : Nat) (l : List Nat) : pushes c s 0 l = l := rfl
theorem pushes_succ (c : Ci) (s j : Nat) (l : List Nat) : pushes c s (j + 1) l = push (pushes c s j l) (nextOf c s j) := by
  unfold pushes
  rw [List.range_succ, List.map_append, List.foldl_append]
  rfl
theorem Sts.pushes {c : Ci} {l : List Nat} (h : Sts c l) (s : Nat) : ∀ j, Sts c (Cir.pushes c s j l)
  | 0 => h
  | j + 1 => by
    rw [pushes_succ]
    exact (Sts.pushes h s j).push (nextOf_lt _ _ _)
theorem pushes_prefix (c : Ci) (s : Nat) (l : List Nat) : ∀ j, ∃ m, Cir.pushes c s j l = l ++ m
  | 0 => ⟨[], by simp [pushes_zero]⟩
  | j + 1 => by
    obtain ⟨m, hm⟩ := pushes_prefix c s l j
    rw [pushes_succ, hm]
    unfold push
    split
    · exact ⟨m, rfl⟩
    · exact ⟨m ++ [nextOf c s j], by rw [List.append_assoc]⟩
theorem pushes_get {c : Ci} {s : Nat} {l : List Nat} {j k x : Nat} (h : l[k]? = some x) : (Cir.pushes c s j l)[k]? = some x := by
  obtain ⟨m, hm⟩ := pushes_prefix c s l j
  obtain ⟨hk, _⟩ := List.getElem?_eq_some_iff.1 h
  rw [hm, List.getElem?_append_left hk, h]
theorem bfs_step {c : Ci} {f k : Nat} {l : List Nat} {s : Nat} (h : l[k]? = some s) : bfs c (f + 1) k l = bfs c f (k + 1) (pushes c s (2 ^ c.ins) l) := by
  rw [bfs, h]
theorem bfs_end {c : Ci} {f : Nat} {l : List Nat} : bfs c f l.length l = l := by
  cases f with
  | zero => rfl
  | succ f => rw [bfs, List.getElem?_eq_none (Nat.le_refl _)]
theorem Sts.bfs {c : Ci} : ∀ (f k : Nat) {l : List Nat}, Sts c l → Sts c (Cir.bfs c f k l)
  | 0, _, _, h => h
  | f + 1, k, l, h => by
    rw [Cir.bfs]
    split
    · exact h
    · exact Sts.bfs f (k + 1) (h.pushes _ _)
theorem reach_sts (c : Ci) : Sts c (reach c) := Sts.bfs _ _ (Sts.zero c)
end Cir
end Go.Proofs.Ytmlcbikljlhhkaa
