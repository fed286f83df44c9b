import Derived.Test.YthnfbjjnabohoaaOnly
import Derived.Test.YthnfbjjnabohoaaApp
import Derived.Test.YthnfbjjnabohoaaMark
namespace Go.Proofs.Ythnfbjjnabohoaa
open Go.RowKit
/-! Slices of slices. -/
section
variable {α : Type} {enc : List α → List Value} {w w' : World} {v : Value} {xss : List (List α)}
/-- A slice whose elements are slices. -/
def SSAt (enc : List α → List Value) (w : World) (v : Value) (xss : List (List α)) : Prop :=
  ∃ vs : List Value, vs.length = xss.length ∧ Row w 1 v xss.length vs ∧ ∀ (i : Nat) (x : List α) (u : Value), xss[i]? = some x → vs[i]? = some u → Row w 1 u x.length (enc x)
theorem SSAt.below (h : SSAt enc w v xss) (hb : Below w.heap.size w w') : SSAt enc w' v xss := by
  obtain ⟨vs, h1, h2, h3⟩ := h
  exact ⟨vs, h1, h2.below hb, fun i x u hx hu => (h3 i x u hx hu).below hb⟩
theorem SSAt.shape (h : SSAt enc w v xss) : ∃ A c, v = .slice A xss.length c ∧ xss.length ≤ c ∧ c ≤ maxLen := by
  obtain ⟨vs, _, h2, _⟩ := h
  exact h2.shape
theorem SSAt.nil (enc : List α → List Value) (w : World) : SSAt enc w (.slice none 0 0) [] := ⟨[], rfl, Row.nil w 1, by simp⟩
/-- An element, where it lies. -/
theorem ss_open {wr : World} {A : Option Addr} {n c : Nat} (h : SSAt enc w (.slice A n c) xss) (hb : Below w.heap.size w wr) {i : Nat} {x : List α} (hx : xss[i]? = some x) :
    ∃ b o B m, A = some ⟨b, o, none⟩ ∧ b < w.heap.size ∧ wr.cell? ⟨b, o + i, none⟩ = some (.slice B x.length m) ∧ x.length ≤ m ∧ m ≤ maxLen ∧ Row wr 1 (.slice B x.length m) x.length (enc x) := by
  obtain ⟨vs, h1, h2, h3⟩ := h
  obtain ⟨hi, _⟩ := List.getElem?_eq_some_iff.1 hx
  obtain ⟨b, o, c', hv, _, _, hbl, hcell⟩ := h2.open (by omega)
  obtain ⟨rfl, _⟩ : A = some ⟨b, o, none⟩ ∧ True := by injection hv with e1; exact ⟨e1, trivial⟩
  obtain ⟨u, hu⟩ : ∃ u, vs[i]? = some u := ⟨vs[i]'(by omega), List.getElem?_eq_getElem _⟩
  have hr := (h3 i x u hx hu).below hb
  obtain ⟨B, m, rfl, hm1, hm2⟩ := hr.shape
  exact ⟨b, o, B, m, rfl, hbl, (hb.cell (p := ⟨b, _, none⟩) hbl).trans (hcell _ _ hu), hm1, hm2, hr⟩
def Apart (u v : Value) : Prop := ∀ g, u.ownBlock = some g → v.ownBlock ≠ some g
theorem Apart.symm {u v : Value} (h : Apart u v) : Apart v u := fun g hg e => h g e hg
/-- A slice of the call's own whose elements are slices of the call's own, all in blocks apart; to and ti: the types of the cells; the blocks lie between B and T. -/
def OwnSS (enc : List α → List Value) (to ti : TypeId) (B T : Nat) (w : World) (v : Value) (xss : List (List α)) : Prop :=
  ∃ vs : List Value, vs.length = xss.length ∧ w.ownsRow B to 1 v xss.length vs ∧ (∀ (i : Nat) (x : List α) (u : Value), xss[i]? = some x → vs[i]? = some u → w.ownsRow B ti 1 u x.length (enc x)) ∧
    vs.Pairwise Apart ∧ (∀ u ∈ vs, Apart u v) ∧ (∀ g, v.ownBlock = some g → g < T) ∧ ∀ u ∈ vs, ∀ g, u.ownBlock = some g → g < T
variable {to ti : TypeId} {B T : Nat}
theorem OwnSS.at (h : OwnSS enc to ti B T w v xss) : SSAt enc w v xss := by
  obtain ⟨vs, h1, h2, h3, _⟩ := h
  exact ⟨vs, h1, Row.of_own h2, fun i x u hx hu => Row.of_own (h3 i x u hx hu)⟩
theorem OwnSS.nil (enc : List α → List Value) (to ti : TypeId) (B T : Nat) (w : World) : OwnSS enc to ti B T w (.slice none 0 0) [] :=
  ⟨[], rfl, World.ownsRow_nil _ _ _ _, by simp, List.Pairwise.nil, by simp, by simp [Value.ownBlock], by simp⟩
theorem OwnSS.below (h : OwnSS enc to ti B T w v xss) (hb : Below w.heap.size w w') : OwnSS enc to ti B T w' v xss := by
  obtain ⟨vs, h1, h2, h3, h4⟩ := h
  exact ⟨vs, h1, own_below h2 hb, fun i x u hx hu => own_below (h3 i x u hx hu) hb, h4⟩
theorem OwnSS.mono {B' T' : Nat} (h : OwnSS enc to ti B T w v xss) (hB : B' ≤ B) (hT : T ≤ T') : OwnSS enc to ti B' T' w v xss := by
  obtain ⟨vs, h1, h2, h3, h4, h5, h6, h7⟩ := h
  exact ⟨vs, h1, own_mono h2 hB, fun i x u hx hu => own_mono (h3 i x u hx hu) hB, h4, h5, fun g hg => Nat.lt_of_lt_of_le (h6 g hg) hT, fun u hu g hg => Nat.lt_of_lt_of_le (h7 u hu g hg) hT⟩
theorem own_only {E : Nat → Prop} {base n size : Nat} {e : TypeId} {xs : List Value} (h : w.ownsRow base e size v n xs) (ho : Only E w w') (hE : ∀ g, v.ownBlock = some g → ¬ E g) : w'.ownsRow base e size v n xs := by
  refine ⟨h.1, ?_⟩
  rcases h.2 with h2 | ⟨g, cap, cur, rfl, hb, hh, h3⟩
  · exact .inl h2
  · refine .inr ⟨g, cap, cur, rfl, hb, ?_, h3⟩
    rw [ho.block g ?_ (hE g rfl)]
    · exact hh
    · rcases Nat.lt_or_ge g w.heap.size with hl | hl
      · exact hl
      · rw [Array.getElem?_eq_none hl] at hh; cases hh
theorem OwnSS.only {E : Nat → Prop} (h : OwnSS enc to ti B T w v xss) (ho : Only E w w') (hE : ∀ g, B ≤ g → g < T → ¬ E g) : OwnSS enc to ti B T w' v xss := by
  obtain ⟨vs, h1, h2, h3, h4, h5, h6, h7⟩ := h
  refine ⟨vs, h1, own_only h2 ho fun g hg => hE g (h2.lt g hg).1 (h6 g hg), fun i x u hx hu => own_only (h3 i x u hx hu) ho fun g hg => hE g ((h3 i x u hx hu).lt g hg).1 (h7 u (List.mem_of_getElem? hu) g hg), h4, h5, h6, h7⟩
/-- An element more, behind an append. -/
theorem OwnSS.snoc {v2 u : Value} {x : List α} {vs : List Value} (h1 : vs.length = xss.length) (h2 : w.ownsRow B to 1 v2 (xss.length + 1) (vs ++ [u])) (h3 : ∀ (i : Nat) (x : List α) (u : Value), xss[i]? = some x → vs[i]? = some u → w.ownsRow B ti 1 u x.length (enc x))
    (hu : w.ownsRow B ti 1 u x.length (enc x)) (h4 : vs.Pairwise Apart) (h5 : ∀ z ∈ vs, Apart z v2) (h6 : ∀ z ∈ vs, Apart z u) (h7 : Apart u v2) (t2 : ∀ g, v2.ownBlock = some g → g < T) (t1 : ∀ z ∈ vs, ∀ g, z.ownBlock = some g → g < T) (t0 : ∀ g, u.ownBlock = some g → g < T) :
    OwnSS enc to ti B T w v2 (xss ++ [x]) := by
  refine ⟨vs ++ [u], by simp [h1], by simpa using h2, fun i x' u' hx' hu' => ?_, ?_, ?_, t2, ?_⟩
  · rcases Nat.lt_or_ge i xss.length with hi | hi
    · rw [List.getElem?_append_left hi] at hx'
      rw [List.getElem?_append_left (by omega)] at hu'
      exact h3 i _ _ hx' hu'
    · rw [List.getElem?_append_right hi] at hx'
      rw [List.getElem?_append_right (by omega), h1] at hu'
      rcases hj : i - xss.length with _ | j
      · rw [hj] at hx' hu'
        simp at hx' hu'
        subst hx' hu'
        exact hu
      · rw [hj] at hx'
        simp at hx'
  · rw [List.pairwise_append]
    exact ⟨h4, by simp, fun a ha b hb => by rw [List.mem_singleton.1 hb]; exact h6 a ha⟩
  · intro z hz
    rcases List.mem_append.1 hz with h | h
    · exact h5 z h
    · rw [List.mem_singleton.1 h]; exact h7
  · intro z hz
    rcases List.mem_append.1 hz with h | h
    · exact t1 z h
    · rw [List.mem_singleton.1 h]; exact t0
/-- An element of which the cells turn. -/
theorem OwnSS.update {j : Nat} {x' : List α} {vs : List Value} {u : Value} (h1 : vs.length = xss.length) (h2 : w.ownsRow B to 1 v xss.length vs) (h3 : ∀ (i : Nat) (x : List α) (u : Value), xss[i]? = some x → vs[i]? = some u → w.ownsRow B ti 1 u x.length (enc x))
    (h4 : vs.Pairwise Apart) (h5 : ∀ u ∈ vs, Apart u v) (h6 : ∀ g, v.ownBlock = some g → g < T) (h7 : ∀ u ∈ vs, ∀ g, u.ownBlock = some g → g < T) (hu : vs[j]? = some u) (hg : w.grownBy w' u.ownBlock) (hx : w'.ownsRow B ti 1 u x'.length (enc x')) :
    OwnSS enc to ti B T w' v (xss.set j x') := by
  have hum := List.mem_of_getElem? hu
  refine ⟨vs, by simp [h1], by rw [List.length_set]; exact own_kept h2 hg fun g hg' e => h5 u hum g e hg', fun i x u' hi hu' => ?_, h4, h5, h6, h7⟩
  by_cases hij : j = i
  · subst hij
    rw [hu] at hu'
    obtain rfl := Option.some.inj hu'
    rw [List.getElem?_set] at hi
    simp at hi
    obtain ⟨_, rfl⟩ := hi
    exact hx
  · rw [List.getElem?_set_ne hij] at hi
    refine own_kept (h3 i x u' hi hu') hg fun g hg' e => ?_
    have hp := List.pairwise_iff_getElem.1 h4
    obtain ⟨hjl, rfl⟩ := List.getElem?_eq_some_iff.1 hu
    obtain ⟨hil, rfl⟩ := List.getElem?_eq_some_iff.1 hu'
    rcases Nat.lt_or_ge j i with hlt | hge
    · exact hp j i hjl hil hlt g e hg'
    · exact hp i j hil hjl (by omega) g hg' e
end
theorem OwnSS.raw {α : Type} {enc : List α → List Value} {to ti : TypeId} {B T : Nat} {w : World} {v : Value} {xss : List (List α)} (hl : ∀ x, (enc x).length = x.length) (h : OwnSS enc to ti B T w v xss) : OwnSS id to ti B T w v (xss.map enc) := by
  obtain ⟨vs, h1, h2, h3, h4⟩ := h
  refine ⟨vs, by simp [h1], by simpa using h2, fun i x u hx hu => ?_, h4⟩
  rw [List.getElem?_map] at hx
  obtain ⟨x', hx', rfl⟩ := Option.map_eq_some_iff.1 hx
  rw [hl]
  exact h3 i x' u hx' hu
/-- Rows of numbers that go on from k. -/
def runs (k : Nat) : List Nat → List (List Value)
  | [] => []
  | n :: ns => runI k n :: runs (k + n) ns
theorem runs_length : ∀ (k : Nat) (ns : List Nat), (runs k ns).length = ns.length
  | _, [] => rfl
  | k, n :: ns => by rw [runs, List.length_cons, runs_length, List.length_cons]
theorem runs_get : ∀ {k : Nat} {ns : List Nat} {i n : Nat}, ns[i]? = some n → (runs k ns)[i]? = some (runI (k + (ns.take i).sum) n)
  | k, [], i, n, h => by simp at h
  | k, m :: ns, 0, n, h => by
    have : m = n := by simpa using h
    subst this
    simp [runs]
  | k, m :: ns, i + 1, n, h => by
    have := runs_get (k := k + m) (ns := ns) (i := i) (n := n) (by simpa using h)
    rw [runs, List.getElem?_cons_succ, this, List.take_succ_cons, List.sum_cons, Nat.add_assoc]
theorem runs_take (k : Nat) : ∀ (ns : List Nat) (j : Nat), runs k (ns.take j) = (runs k ns).take j := by
  intro ns
  induction ns generalizing k with
  | nil => intro j; simp [runs]
  | cons n ns ih =>
    intro j
    cases j with
    | zero => simp [runs]
    | succ j => simp [runs, ih]
theorem sum_take_succ {ns : List Nat} {j n : Nat} (h : ns[j]? = some n) : (ns.take (j + 1)).sum = (ns.take j).sum + n := by
  rw [List.take_add_one, h, List.sum_append]
  simp
theorem sum_take_le (ns : List Nat) (j : Nat) : (ns.take j).sum ≤ ns.sum := by
  have h := List.sum_append (l₁ := ns.take j) (l₂ := ns.drop j)
  rw [List.take_append_drop] at h
  omega
theorem runs_set {rows : List (List Value)} {k j n : Nat} {ns : List Nat} (hl : rows.length = ns.length) (hj : ns[j]? = some n) : (runs k (ns.take j) ++ rows.drop j).set j (runI (k + (ns.take j).sum) n) = runs k (ns.take (j + 1)) ++ rows.drop (j + 1) := by
  obtain ⟨hlt, rfl⟩ := List.getElem?_eq_some_iff.1 hj
  have e1 : (runs k (ns.take j)).length = j := by rw [runs_length, List.length_take]; omega
  rw [List.set_append_right _ _ (by omega), e1, Nat.sub_self, List.drop_eq_getElem_cons (by omega), List.set_cons_zero, runs_take k ns (j + 1), List.take_add_one, ← runs_take, runs_get hj]
  simp
theorem set_mid {α : Type} (A : List α) (z x : α) (m : Nat) (h : 0 < m) : (A ++ List.replicate m z).set A.length x = (A ++ [x]) ++ List.replicate (m - 1) z := by
  obtain ⟨k, rfl⟩ : ∃ k, m = k + 1 := ⟨m - 1, by omega⟩
  rw [List.replicate_succ, List.set_append_right _ _ (Nat.le_refl _), Nat.sub_self]
  simp
theorem set_mid_at {α : Type} (A : List α) (z x : α) (m k : Nat) (hk : k = A.length) (h : 0 < m) : (A ++ List.replicate m z).set k x = (A ++ [x]) ++ List.replicate (m - 1) z := by
  subst hk
  exact set_mid A z x m h
theorem made_one (z : Value) (n : Nat) : madeCells #[z] n = (List.replicate n z).toArray := by
  apply Array.ext
  · simp [madeCells]
  · intro i h1 h2
    simp [madeCells]
    have : i % 1 = 0 := Nat.mod_one i
    simp [this]
/-- How many elements there are in all. -/
def total {α : Type} (xss : List (List α)) : Nat := (xss.map List.length).sum
theorem total_take_succ {α : Type} {xss : List (List α)} {j : Nat} {x : List α} (h : xss[j]? = some x) : total (xss.take (j + 1)) = total (xss.take j) + x.length := by
  unfold total
  rw [List.map_take, List.map_take]
  exact sum_take_succ (by rw [List.getElem?_map, h]; rfl)
theorem total_mem {α : Type} : ∀ {xss : List (List α)} {x : List α}, x ∈ xss → x.length ≤ total xss
  | y :: ys, x, h => by
    have e : total (y :: ys) = y.length + total ys := by simp [total]
    rcases List.mem_cons.1 h with rfl | h
    · omega
    · have := total_mem h
      omega
theorem total_take_le {α : Type} (xss : List (List α)) (j : Nat) : total (xss.take j) ≤ total xss := by
  unfold total
  rw [List.map_take]
  exact sum_take_le _ _
end Go.Proofs.Ythnfbjjnabohoaa
