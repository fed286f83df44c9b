import Derived.Test.YtmlcbikljlhhkaaCirM
namespace Go.Proofs.Ytmlcbikljlhhkaa
/-! Circuits, plainly: the natural circuit of a valid one; ternary values; what the functions answer, as Lean functions. -/
namespace Cir
def nat (c : Cz) : Ci := { ins := c.ins.toNat, next := c.next.map Int.toNat, gates := c.gates.map fun g => (g.1.toNat, g.2.toNat), outs := c.outs.map Int.toNat }
theorem nat_toCz (d : Ci) : nat (toCz d) = d := by
  have e1 : ∀ l : List Nat, (l.map Int.ofNat).map Int.toNat = l := fun l => by
    rw [List.map_map]
    exact (List.map_congr_left fun x _ => (by simp : (Int.toNat ∘ Int.ofNat) x = id x)).trans (List.map_id l)
  have e2 : ∀ l : List (Nat × Nat), (l.map fun g => ((g.1 : Int), (g.2 : Int))).map (fun g => (g.1.toNat, g.2.toNat)) = l := fun l => by
    rw [List.map_map]
    exact (List.map_congr_left fun x _ => (by simp : ((fun g : Int × Int => (g.1.toNat, g.2.toNat)) ∘ fun g : Nat × Nat => ((g.1 : Int), (g.2 : Int))) x = id x)).trans (List.map_id l)
  unfold nat toCz
  simp only [e1, e2, Int.toNat_natCast]
theorem nat_ok {c : Cz} (h : valid c = true) : c = toCz (nat c) ∧ Ok (nat c) := by
  obtain ⟨d, rfl, hd⟩ := valid_nat h
  rw [nat_toCz]
  exact ⟨rfl, hd⟩
theorem vars_toCz (d : Ci) : vars (toCz d) = (nvars d : Nat) := by
  simp [vars, first, toCz, nvars, nfirst]
theorem first_toCz (d : Ci) : first (toCz d) = (nfirst d : Nat) := by
  simp [first, toCz, nfirst]
theorem bits_length (x n : Nat) : (bits x n).length = n := by simp [bits]
/-! ### Ternary values: 0, 1, and 2 for unknown -/
def tlit (v : List Nat) (l : Nat) : Nat := if v.getD (l / 2) 0 = 2 ∨ l % 2 = 0 then v.getD (l / 2) 0 else 1 - v.getD (l / 2) 0
def tand (a b : Nat) : Nat := if a = 0 ∨ b = 0 then 0 else if a = 1 ∧ b = 1 then 1 else 2
def tgval (v : List Nat) (g : Nat × Nat) : Nat := tand (tlit v g.1) (tlit v g.2)
def tevalG (gs : List (Nat × Nat)) (v : List Nat) : List Nat := gs.foldl (fun v g => v ++ [tgval v g]) v
def tvals (c : Ci) (st inp : List Nat) : List Nat := tevalG c.gates (0 :: (inp ++ st))
theorem tevalG_length : ∀ (gs : List (Nat × Nat)) (v : List Nat), (tevalG gs v).length = v.length + gs.length
  | [], v => rfl
  | g :: gs, v => by
    rw [tevalG, List.foldl_cons]
    have := tevalG_length gs (v ++ [tgval v g])
    rw [tevalG] at this
    rw [this]
    simp
    omega
theorem tevalG_take_snoc {gs : List (Nat × Nat)} {k : Nat} {g : Nat × Nat} (h : gs[k]? = some g) (v : List Nat) : tevalG (gs.take (k + 1)) v = tevalG (gs.take k) v ++ [tgval (tevalG (gs.take k) v) g] := by
  unfold tevalG
  rw [List.take_add_one, h, List.foldl_append]
  rfl
theorem tvals_length (c : Ci) {st inp : List Nat} (h1 : inp.length = c.ins) (h2 : st.length = c.next.length) : (tvals c st inp).length = nvars c := by
  rw [tvals, tevalG_length]
  simp [nvars, nfirst, h1, h2]
  omega
theorem tand_le (a b : Nat) : tand a b ≤ 2 := by unfold tand; split <;> (try split) <;> omega
theorem tlit_le {v : List Nat} (h : ∀ x ∈ v, x ≤ 2) (l : Nat) : tlit v l ≤ 2 := by
  have hx : v.getD (l / 2) 0 ≤ 2 := by
    rw [List.getD_eq_getElem?_getD]
    cases hi : v[l / 2]? with
    | none => simp
    | some x => exact h x (List.mem_of_getElem? hi)
  unfold tlit
  split <;> omega
theorem tevalG_le : ∀ (gs : List (Nat × Nat)) {v : List Nat}, (∀ x ∈ v, x ≤ 2) → ∀ x ∈ tevalG gs v, x ≤ 2
  | [], v, h => h
  | g :: gs, v, h => by
    have : tevalG (g :: gs) v = tevalG gs (v ++ [tgval v g]) := rfl
    rw [this]
    refine tevalG_le gs fun x hx => ?_
    rcases List.mem_append.1 hx with h1 | h1
    · exact h x h1
    · rw [List.mem_singleton.1 h1]; exact tand_le _ _
theorem tvals_le (c : Ci) {st inp : List Nat} (h1 : ∀ x ∈ st, x ≤ 2) (h2 : ∀ x ∈ inp, x ≤ 2) : ∀ x ∈ tvals c st inp, x ≤ 2 := by
  refine tevalG_le _ fun x hx => ?_
  rcases List.mem_cons.1 hx with rfl | hx
  · omega
  · rcases List.mem_append.1 hx with h | h
    · exact h2 x h
    · exact h1 x h
def tnext (c : Ci) (v : List Nat) : List Nat := c.next.map (tlit v)
/-- A ternary value that is right for a bit. -/
def Rt (t : Nat) (b : Bool) : Prop := t = 2 ∨ t = b.toNat
theorem rt_lit {v : List Nat} {u : List Bool} (hl : v.length = u.length) (h : ∀ (i t : Nat) (b : Bool), v[i]? = some t → u[i]? = some b → Rt t b) (l : Nat) (hlt : l / 2 < v.length) : Rt (tlit v l) (lit u l) := by
  have hv : v[l / 2]? = some (v[l / 2]'hlt) := List.getElem?_eq_getElem hlt
  have hu : u[l / 2]? = some (u[l / 2]'(by omega)) := List.getElem?_eq_getElem (by omega)
  have := h _ _ _ hv hu
  unfold tlit lit
  rw [List.getD_eq_getElem?_getD, List.getD_eq_getElem?_getD, hv, hu]
  generalize v[l / 2]'hlt = t at this
  generalize u[l / 2]'(by omega) = b at this
  simp only [Option.getD_some]
  unfold Rt at this ⊢
  rcases this with rfl | rfl
  · simp
  · right
    rcases Nat.mod_two_eq_zero_or_one l with h0 | h0
    · rw [h0]; cases b <;> simp
    · rw [h0]; cases b <;> simp
theorem rt_and {a b : Nat} {x y : Bool} (h1 : Rt a x) (h2 : Rt b y) : Rt (tand a b) (x && y) := by
  unfold Rt at *
  rcases h1 with rfl | rfl <;> rcases h2 with rfl | rfl <;> (try cases x) <;> (try cases y) <;> simp [tand]
def RtAll (v : List Nat) (u : List Bool) : Prop := v.length = u.length ∧ ∀ (i t : Nat) (b : Bool), v[i]? = some t → u[i]? = some b → Rt t b
theorem RtAll.snoc {v : List Nat} {u : List Bool} (h : RtAll v u) {t : Nat} {b : Bool} (ht : Rt t b) : RtAll (v ++ [t]) (u ++ [b]) := by
  refine ⟨by simp [h.1], fun i t' b' h1 h2 => ?_⟩
  rcases Nat.lt_or_ge i v.length with hi | hi
  · rw [List.getElem?_append_left hi] at h1
    rw [List.getElem?_append_left (by have := h.1; omega)] at h2
    exact h.2 i _ _ h1 h2
  · rw [List.getElem?_append_right hi] at h1
    rw [List.getElem?_append_right (by have := h.1; omega)] at h2
    have e : u.length = v.length := h.1.symm
    rw [e] at h2
    rcases hj : i - v.length with _ | j
    · rw [hj] at h1 h2
      simp at h1 h2
      subst h1 h2
      exact ht
    · rw [hj] at h1
      simp at h1
theorem rt_eval : ∀ (gs : List (Nat × Nat)) (f : Nat) {v : List Nat} {u : List Bool}, RtAll v u → v.length = f → (∀ (k : Nat) (g : Nat × Nat), gs[k]? = some g → g.1 < 2 * (f + k) ∧ g.2 < 2 * (f + k)) → RtAll (tevalG gs v) (evalG gs u)
  | [], f, v, u, h, _, _ => h
  | g :: gs, f, v, u, h, hf, hg => by
    have e1 : tevalG (g :: gs) v = tevalG gs (v ++ [tgval v g]) := rfl
    have e2 : evalG (g :: gs) u = evalG gs (u ++ [gval u g]) := rfl
    rw [e1, e2]
    have h0 := hg 0 g rfl
    refine rt_eval gs (f + 1) (h.snoc (rt_and (rt_lit h.1 h.2 _ (by omega)) (rt_lit h.1 h.2 _ (by omega)))) (by simp [hf]) fun k g' hk => ?_
    have := hg (k + 1) g' (by simpa using hk)
    omega
theorem rtAll_cons {v : List Nat} {u : List Bool} (h : RtAll v u) {t : Nat} {b : Bool} (ht : Rt t b) : RtAll (t :: v) (b :: u) := by
  refine ⟨by simp [h.1], fun i t' b' h1 h2 => ?_⟩
  cases i with
  | zero => simp at h1 h2; subst h1 h2; exact ht
  | succ i => simp at h1 h2; exact h.2 i _ _ h1 h2
theorem rtAll_append {v v' : List Nat} {u u' : List Bool} (h : RtAll v u) (h' : RtAll v' u') : RtAll (v ++ v') (u ++ u') := by
  refine ⟨by simp [h.1, h'.1], fun i t b h1 h2 => ?_⟩
  rcases Nat.lt_or_ge i v.length with hi | hi
  · rw [List.getElem?_append_left hi] at h1
    rw [List.getElem?_append_left (by have := h.1; omega)] at h2
    exact h.2 i _ _ h1 h2
  · rw [List.getElem?_append_right hi] at h1
    rw [List.getElem?_append_right (by have := h.1; omega)] at h2
    rw [← h.1] at h2
    exact h'.2 _ _ _ h1 h2
/-- A known ternary value is right for all completions. -/
theorem rt_vals (c : Ci) (hc : Ok c) {st inp : List Nat} {st' inp' : List Bool} (h1 : RtAll inp inp') (h2 : RtAll st st') (l1 : inp.length = c.ins) (l2 : st.length = c.next.length) : RtAll (tvals c st inp) (vals c st' inp') := by
  refine rt_eval c.gates (nfirst c) (rtAll_cons (rtAll_append h1 h2) (.inr rfl)) (by simp [nfirst, l1, l2]; omega) fun k g hk => ?_
  exact hc.gate k g hk
end Cir
end Go.Proofs.Ytmlcbikljlhhkaa
