import Derived.Test.YthnfbjjnabohoaaSS
namespace Go.Proofs.Ythnfbjjnabohoaa
open Go.RowKit
/-! Slices of slices of the call's own, whose blocks are among a set. -/
section
variable {α : Type} {enc : List α → List Value} {w w' : World} {v : Value} {xss : List (List α)}
/-- A slice of the call's own whose elements are slices of the call's own, all in blocks apart; to and ti: the types of the cells; its blocks are among E. -/
def OwnSE (enc : List α → List Value) (to ti : TypeId) (B : Nat) (E : Nat → Prop) (w : World) (v : Value) (xss : List (List α)) : Prop :=
  ∃ vs : List Value, vs.length = xss.length ∧ w.ownsRow B to 1 v xss.length vs ∧ (∀ (i : Nat) (x : List α) (u : Value), xss[i]? = some x → vs[i]? = some u → w.ownsRow B ti 1 u x.length (enc x)) ∧
    vs.Pairwise Apart ∧ (∀ u ∈ vs, Apart u v) ∧ (∀ g, v.ownBlock = some g → E g) ∧ ∀ u ∈ vs, ∀ g, u.ownBlock = some g → E g
variable {to ti : TypeId} {B : Nat} {E : Nat → Prop}
theorem OwnSE.at (h : OwnSE enc to ti B E w v xss) : SSAt enc w v xss := by
  obtain ⟨vs, h1, h2, h3, _⟩ := h
  exact ⟨vs, h1, Row.of_own h2, fun i x u hx hu => Row.of_own (h3 i x u hx hu)⟩
theorem OwnSE.nil (enc : List α → List Value) (to ti : TypeId) (B : Nat) (E : Nat → Prop) (w : World) : OwnSE enc to ti B E w (.slice none 0 0) [] :=
  ⟨[], rfl, World.ownsRow_nil _ _ _ _, by simp, List.Pairwise.nil, by simp, by simp [Value.ownBlock], by simp⟩
theorem OwnSE.below (h : OwnSE enc to ti B E w v xss) (hb : Below w.heap.size w w') : OwnSE enc to ti B E w' v xss := by
  obtain ⟨vs, h1, h2, h3, h4⟩ := h
  exact ⟨vs, h1, own_below h2 hb, fun i x u hx hu => own_below (h3 i x u hx hu) hb, h4⟩
theorem OwnSE.mono {B' : Nat} {E' : Nat → Prop} (h : OwnSE enc to ti B E w v xss) (hB : B' ≤ B) (hT : ∀ g, E g → E' g) : OwnSE enc to ti B' E' w v xss := by
  obtain ⟨vs, h1, h2, h3, h4, h5, h6, h7⟩ := h
  exact ⟨vs, h1, own_mono h2 hB, fun i x u hx hu => own_mono (h3 i x u hx hu) hB, h4, h5, fun g hg => hT g (h6 g hg), fun u hu g hg => hT g (h7 u hu g hg)⟩
theorem OwnSE.only {X : Nat → Prop} (h : OwnSE enc to ti B E w v xss) (ho : Only X w w') (hE : ∀ g, B ≤ g → E g → ¬ X g) : OwnSE enc to ti B E w' v xss := by
  obtain ⟨vs, h1, h2, h3, h4, h5, h6, h7⟩ := h
  refine ⟨vs, h1, own_only h2 ho fun g hg => hE g (h2.lt g hg).1 (h6 g hg), fun i x u hx hu => own_only (h3 i x u hx hu) ho fun g hg => hE g ((h3 i x u hx hu).lt g hg).1 (h7 u (List.mem_of_getElem? hu) g hg), h4, h5, h6, h7⟩
/-- An element more, behind an append. -/
theorem OwnSE.snoc {v2 u : Value} {x : List α} {vs : List Value} (h1 : vs.length = xss.length) (h2 : w.ownsRow B to 1 v2 (xss.length + 1) (vs ++ [u])) (h3 : ∀ (i : Nat) (x : List α) (u : Value), xss[i]? = some x → vs[i]? = some u → w.ownsRow B ti 1 u x.length (enc x))
    (hu : w.ownsRow B ti 1 u x.length (enc x)) (h4 : vs.Pairwise Apart) (h5 : ∀ z ∈ vs, Apart z v2) (h6 : ∀ z ∈ vs, Apart z u) (h7 : Apart u v2) (t2 : ∀ g, v2.ownBlock = some g → E g) (t1 : ∀ z ∈ vs, ∀ g, z.ownBlock = some g → E g) (t0 : ∀ g, u.ownBlock = some g → E g) :
    OwnSE enc to ti B E w v2 (xss ++ [x]) := by
  refine ⟨vs ++ [u], by simp [h1], by simpa using h2, fun i x' u' hx' hu' => ?_, ?_, ?_, t2, ?_⟩
  · rcases Nat.lt_or_ge i xss.length with hi | hi
    · rw [List.getElem?_append_left hi] at hx'
      rw [List.getElem?_append_left (by omega)] at hu'
      exact h3 i _ _ hx' hu'
    · rw [List.getElem?_append_right hi] at hx'
      rw [List.getElem?_append_right (by omega), h1] at hu'
      rcases hj : i - xss.length with _ | j
      · rw [hj] at hx' hu'
        simp at hx' hu'
        subst hx' hu'
        exact hu
      · rw [hj] at hx'
        simp at hx'
  · rw [List.pairwise_append]
    exact ⟨h4, by simp, fun a ha b hb => by rw [List.mem_singleton.1 hb]; exact h6 a ha⟩
  · intro z hz
    rcases List.mem_append.1 hz with h | h
    · exact h5 z h
    · rw [List.mem_singleton.1 h]; exact h7
  · intro z hz
    rcases List.mem_append.1 hz with h | h
    · exact t1 z h
    · rw [List.mem_singleton.1 h]; exact t0
/-- An element of which the cells turn. -/
theorem OwnSE.update {j : Nat} {x' : List α} {vs : List Value} {u : Value} (h1 : vs.length = xss.length) (h2 : w.ownsRow B to 1 v xss.length vs) (h3 : ∀ (i : Nat) (x : List α) (u : Value), xss[i]? = some x → vs[i]? = some u → w.ownsRow B ti 1 u x.length (enc x))
    (h4 : vs.Pairwise Apart) (h5 : ∀ u ∈ vs, Apart u v) (h6 : ∀ g, v.ownBlock = some g → E g) (h7 : ∀ u ∈ vs, ∀ g, u.ownBlock = some g → E g) (hu : vs[j]? = some u) (hg : w.grownBy w' u.ownBlock) (hx : w'.ownsRow B ti 1 u x'.length (enc x')) :
    OwnSE enc to ti B E w' v (xss.set j x') := by
  have hum := List.mem_of_getElem? hu
  refine ⟨vs, by simp [h1], by rw [List.length_set]; exact own_kept h2 hg fun g hg' e => h5 u hum g e hg', fun i x u' hi hu' => ?_, h4, h5, h6, h7⟩
  by_cases hij : j = i
  · subst hij
    rw [hu] at hu'
    obtain rfl := Option.some.inj hu'
    rw [List.getElem?_set] at hi
    simp at hi
    obtain ⟨_, rfl⟩ := hi
    exact hx
  · rw [List.getElem?_set_ne hij] at hi
    refine own_kept (h3 i x u' hi hu') hg fun g hg' e => ?_
    have hp := List.pairwise_iff_getElem.1 h4
    obtain ⟨hjl, rfl⟩ := List.getElem?_eq_some_iff.1 hu
    obtain ⟨hil, rfl⟩ := List.getElem?_eq_some_iff.1 hu'
    rcases Nat.lt_or_ge j i with hlt | hge
    · exact hp j i hjl hil hlt g e hg'
    · exact hp i j hil hjl (by omega) g hg' e
end
theorem OwnSE.raw {α : Type} {enc : List α → List Value} {to ti : TypeId} {B : Nat} {E : Nat → Prop} {w : World} {v : Value} {xss : List (List α)} (hl : ∀ x, (enc x).length = x.length) (h : OwnSE enc to ti B E w v xss) : OwnSE id to ti B E w v (xss.map enc) := by
  obtain ⟨vs, h1, h2, h3, h4⟩ := h
  refine ⟨vs, by simp [h1], by simpa using h2, fun i x u hx hu => ?_, h4⟩
  rw [List.getElem?_map] at hx
  obtain ⟨x', hx', rfl⟩ := Option.map_eq_some_iff.1 hx
  rw [hl]
  exact h3 i x' u hx' hu
theorem OwnSS.se {α : Type} {enc : List α → List Value} {to ti : TypeId} {B T : Nat} {w : World} {v : Value} {xss : List (List α)} (h : OwnSS enc to ti B T w v xss) : OwnSE enc to ti B (fun g => B ≤ g ∧ g < T) w v xss := by
  obtain ⟨vs, h1, h2, h3, h4, h5, h6, h7⟩ := h
  refine ⟨vs, h1, h2, h3, h4, h5, fun g hg => ⟨(h2.lt g hg).1, h6 g hg⟩, fun u hu g hg => ⟨?_, h7 u hu g hg⟩⟩
  obtain ⟨i, hi, rfl⟩ := List.mem_iff_getElem.1 hu
  exact ((h3 i _ _ (List.getElem?_eq_getElem (by omega)) (List.getElem?_eq_getElem hi)).lt g hg).1
end Go.Proofs.Ythnfbjjnabohoaa
