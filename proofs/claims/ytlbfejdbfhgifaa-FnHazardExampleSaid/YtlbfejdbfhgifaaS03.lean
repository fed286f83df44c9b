import Derived.Test.YtlbfejdbfhgifaaS02
import Derived.Test.YtlbfejdbfhgifaaS01
import Derived.Laws.CopyOwn
set_option linter.unusedVariables false
set_option linter.unusedSimpArgs false
namespace Go.Proofs.Ytlbfejdbfhgifaa
open Go.RowKit
set_option maxRecDepth 100000
/-! The tables of literals. -/
theorem bools_lit0 (w : World) (t : TypeId) : BoolsAt (w.alloc (.cells #[] t)) (.slice (some ⟨w.heap.size, 0, none⟩) 0 0) [] :=
  ⟨rfl, _, 0, rfl, Nat.le_refl _, Nat.zero_le _, fun h => absurd h (by simp)⟩
end Go.Proofs.Ytlbfejdbfhgifaa

namespace Go.Proofs.Ytlbfejdbfhgifaa
open Go.RowKit
/-! Slices of slices. -/
section
variable {α : Type} {enc : List α → List Value} {w w' : World} {v : Value} {xss : List (List α)}
/-- A slice whose elements are slices. -/
def SSAt (enc : List α → List Value) (w : World) (v : Value) (xss : List (List α)) : Prop :=
  ∃ vs : List Value, vs.length = xss.length ∧ Row w 1 v xss.length vs ∧ ∀ (i : Nat) (x : List α) (u : Value), xss[i]? = some x → vs[i]? = some u → Row w 1 u x.length (enc x)
theorem SSAt.below (h : SSAt enc w v xss) (hb : Below w.heap.size w w') : SSAt enc w' v xss := by
  obtain ⟨vs, h1, h2, h3⟩ := h
  exact ⟨vs, h1, h2.below hb, fun i x u hx hu => (h3 i x u hx hu).below hb⟩
theorem SSAt.shape (h : SSAt enc w v xss) : ∃ A c, v = .slice A xss.length c ∧ xss.length ≤ c ∧ c ≤ maxLen := by
  obtain ⟨vs, _, h2, _⟩ := h
  exact h2.shape
theorem SSAt.nil (enc : List α → List Value) (w : World) : SSAt enc w (.slice none 0 0) [] := ⟨[], rfl, Row.nil w 1, by simp⟩
/-- An element, where it lies. -/
theorem ss_open {wr : World} {A : Option Addr} {n c : Nat} (h : SSAt enc w (.slice A n c) xss) (hb : Below w.heap.size w wr) {i : Nat} {x : List α} (hx : xss[i]? = some x) :
    ∃ b o B m, A = some ⟨b, o, none⟩ ∧ b < w.heap.size ∧ wr.cell? ⟨b, o + i, none⟩ = some (.slice B x.length m) ∧ x.length ≤ m ∧ m ≤ maxLen ∧ Row wr 1 (.slice B x.length m) x.length (enc x) := by
  obtain ⟨vs, h1, h2, h3⟩ := h
  obtain ⟨hi, _⟩ := List.getElem?_eq_some_iff.1 hx
  obtain ⟨b, o, c', hv, _, _, hbl, hcell⟩ := h2.open (by omega)
  obtain ⟨rfl, _⟩ : A = some ⟨b, o, none⟩ ∧ True := by injection hv with e1; exact ⟨e1, trivial⟩
  obtain ⟨u, hu⟩ : ∃ u, vs[i]? = some u := ⟨vs[i]'(by omega), List.getElem?_eq_getElem _⟩
  have hr := (h3 i x u hx hu).below hb
  obtain ⟨B, m, rfl, hm1, hm2⟩ := hr.shape
  exact ⟨b, o, B, m, rfl, hbl, (hb.cell (p := ⟨b, _, none⟩) hbl).trans (hcell _ _ hu), hm1, hm2, hr⟩
def Apart (u v : Value) : Prop := ∀ g, u.ownBlock = some g → v.ownBlock ≠ some g
theorem Apart.symm {u v : Value} (h : Apart u v) : Apart v u := fun g hg e => h g e hg
/-- A slice of the call's own whose elements are slices of the call's own, all in blocks apart; tO and ti: the types of the cells; the blocks lie between B and T. -/
def OwnSS (enc : List α → List Value) (tO ti : TypeId) (B T : Nat) (w : World) (v : Value) (xss : List (List α)) : Prop :=
  ∃ vs : List Value, vs.length = xss.length ∧ w.ownsRow B tO 1 v xss.length vs ∧ (∀ (i : Nat) (x : List α) (u : Value), xss[i]? = some x → vs[i]? = some u → w.ownsRow B ti 1 u x.length (enc x)) ∧
    vs.Pairwise Apart ∧ (∀ u ∈ vs, Apart u v) ∧ (∀ g, v.ownBlock = some g → g < T) ∧ ∀ u ∈ vs, ∀ g, u.ownBlock = some g → g < T
variable {tO ti : TypeId} {B T : Nat}
theorem OwnSS.at (h : OwnSS enc tO ti B T w v xss) : SSAt enc w v xss := by
  obtain ⟨vs, h1, h2, h3, _⟩ := h
  exact ⟨vs, h1, Row.of_own h2, fun i x u hx hu => Row.of_own (h3 i x u hx hu)⟩
theorem OwnSS.nil (enc : List α → List Value) (tO ti : TypeId) (B T : Nat) (w : World) : OwnSS enc tO ti B T w (.slice none 0 0) [] :=
  ⟨[], rfl, World.ownsRow_nil _ _ _ _, by simp, List.Pairwise.nil, by simp, by simp [Value.ownBlock], by simp⟩
theorem OwnSS.below (h : OwnSS enc tO ti B T w v xss) (hb : Below w.heap.size w w') : OwnSS enc tO ti B T w' v xss := by
  obtain ⟨vs, h1, h2, h3, h4⟩ := h
  exact ⟨vs, h1, own_below h2 hb, fun i x u hx hu => own_below (h3 i x u hx hu) hb, h4⟩
theorem OwnSS.mono {B' T' : Nat} (h : OwnSS enc tO ti B T w v xss) (hB : B' ≤ B) (hT : T ≤ T') : OwnSS enc tO ti B' T' w v xss := by
  obtain ⟨vs, h1, h2, h3, h4, h5, h6, h7⟩ := h
  exact ⟨vs, h1, own_mono h2 hB, fun i x u hx hu => own_mono (h3 i x u hx hu) hB, h4, h5, fun g hg => Nat.lt_of_lt_of_le (h6 g hg) hT, fun u hu g hg => Nat.lt_of_lt_of_le (h7 u hu g hg) hT⟩
theorem own_only {E : Nat → Prop} {base n size : Nat} {e : TypeId} {xs : List Value} (h : w.ownsRow base e size v n xs) (ho : Only E w w') (hE : ∀ g, v.ownBlock = some g → ¬ E g) : w'.ownsRow base e size v n xs := by
  refine ⟨h.1, ?_⟩
  rcases h.2 with h2 | ⟨g, cap, cur, rfl, hb, hh, h3⟩
  · exact .inl h2
  · refine .inr ⟨g, cap, cur, rfl, hb, ?_, h3⟩
    rw [ho.block g ?_ (hE g rfl)]
    · exact hh
    · rcases Nat.lt_or_ge g w.heap.size with hl | hl
      · exact hl
      · rw [Array.getElem?_eq_none hl] at hh; cases hh
theorem OwnSS.only {E : Nat → Prop} (h : OwnSS enc tO ti B T w v xss) (ho : Only E w w') (hE : ∀ g, B ≤ g → g < T → ¬ E g) : OwnSS enc tO ti B T w' v xss := by
  obtain ⟨vs, h1, h2, h3, h4, h5, h6, h7⟩ := h
  refine ⟨vs, h1, own_only h2 ho fun g hg => hE g (h2.lt g hg).1 (h6 g hg), fun i x u hx hu => own_only (h3 i x u hx hu) ho fun g hg => hE g ((h3 i x u hx hu).lt g hg).1 (h7 u (List.mem_of_getElem? hu) g hg), h4, h5, h6, h7⟩
/-- An element more, behind an append. -/
theorem OwnSS.snoc {v2 u : Value} {x : List α} {vs : List Value} (h1 : vs.length = xss.length) (h2 : w.ownsRow B tO 1 v2 (xss.length + 1) (vs ++ [u])) (h3 : ∀ (i : Nat) (x : List α) (u : Value), xss[i]? = some x → vs[i]? = some u → w.ownsRow B ti 1 u x.length (enc x))
    (hu : w.ownsRow B ti 1 u x.length (enc x)) (h4 : vs.Pairwise Apart) (h5 : ∀ z ∈ vs, Apart z v2) (h6 : ∀ z ∈ vs, Apart z u) (h7 : Apart u v2) (t2 : ∀ g, v2.ownBlock = some g → g < T) (t1 : ∀ z ∈ vs, ∀ g, z.ownBlock = some g → g < T) (t0 : ∀ g, u.ownBlock = some g → g < T) :
    OwnSS enc tO ti B T w v2 (xss ++ [x]) := by
  refine ⟨vs ++ [u], by simp [h1], by simpa using h2, fun i x' u' hx' hu' => ?_, ?_, ?_, t2, ?_⟩
  · rcases Nat.lt_or_ge i xss.length with hi | hi
    · rw [List.getElem?_append_left hi] at hx'
      rw [List.getElem?_append_left (by omega)] at hu'
      exact h3 i _ _ hx' hu'
    · rw [List.getElem?_append_right hi] at hx'
      rw [List.getElem?_append_right (by omega), h1] at hu'
      rcases hj : i - xss.length with _ | j
      · rw [hj] at hx' hu'
        simp at hx' hu'
        subst hx' hu'
        exact hu
      · rw [hj] at hx'
        simp at hx'
  · rw [List.pairwise_append]
    exact ⟨h4, by simp, fun a ha b hb => by rw [List.mem_singleton.1 hb]; exact h6 a ha⟩
  · intro z hz
    rcases List.mem_append.1 hz with h | h
    · exact h5 z h
    · rw [List.mem_singleton.1 h]; exact h7
  · intro z hz
    rcases List.mem_append.1 hz with h | h
    · exact t1 z h
    · rw [List.mem_singleton.1 h]; exact t0
/-- An element of which the cells turn. -/
theorem OwnSS.update {j : Nat} {x' : List α} {vs : List Value} {u : Value} (h1 : vs.length = xss.length) (h2 : w.ownsRow B tO 1 v xss.length vs) (h3 : ∀ (i : Nat) (x : List α) (u : Value), xss[i]? = some x → vs[i]? = some u → w.ownsRow B ti 1 u x.length (enc x))
    (h4 : vs.Pairwise Apart) (h5 : ∀ u ∈ vs, Apart u v) (h6 : ∀ g, v.ownBlock = some g → g < T) (h7 : ∀ u ∈ vs, ∀ g, u.ownBlock = some g → g < T) (hu : vs[j]? = some u) (hg : w.grownBy w' u.ownBlock) (hx : w'.ownsRow B ti 1 u x'.length (enc x')) :
    OwnSS enc tO ti B T w' v (xss.set j x') := by
  have hum := List.mem_of_getElem? hu
  refine ⟨vs, by simp [h1], by rw [List.length_set]; exact own_kept h2 hg fun g hg' e => h5 u hum g e hg', fun i x u' hi hu' => ?_, h4, h5, h6, h7⟩
  by_cases hij : j = i
  · subst hij
    rw [hu] at hu'
    obtain rfl := Option.some.inj hu'
    rw [List.getElem?_set] at hi
    simp at hi
    obtain ⟨_, rfl⟩ := hi
    exact hx
  · rw [List.getElem?_set_ne hij] at hi
    refine own_kept (h3 i x u' hi hu') hg fun g hg' e => ?_
    have hp := List.pairwise_iff_getElem.1 h4
    obtain ⟨hjl, rfl⟩ := List.getElem?_eq_some_iff.1 hu
    obtain ⟨hil, rfl⟩ := List.getElem?_eq_some_iff.1 hu'
    rcases Nat.lt_or_ge j i with hlt | hge
    · exact hp j i hjl hil hlt g e hg'
    · exact hp i j hil hjl (by omega) g hg' e
end
theorem OwnSS.raw {α : Type} {enc : List α → List Value} {tO ti : TypeId} {B T : Nat} {w : World} {v : Value} {xss : List (List α)} (hl : ∀ x, (enc x).length = x.length) (h : OwnSS enc tO ti B T w v xss) : OwnSS id tO ti B T w v (xss.map enc) := by
  obtain ⟨vs, h1, h2, h3, h4⟩ := h
  refine ⟨vs, by simp [h1], by simpa using h2, fun i x u hx hu => ?_, h4⟩
  rw [List.getElem?_map] at hx
  obtain ⟨x', hx', rfl⟩ := Option.map_eq_some_iff.1 hx
  rw [hl]
  exact h3 i x' u hx' hu
/-- Rows of numbers that go on from k. -/
def runs (k : Nat) : List Nat → List (List Value)
  | [] => []
  | n :: ns => runI k n :: runs (k + n) ns
theorem runs_length : ∀ (k : Nat) (ns : List Nat), (runs k ns).length = ns.length
  | _, [] => rfl
  | k, n :: ns => by rw [runs, List.length_cons, runs_length, List.length_cons]
theorem runs_get : ∀ {k : Nat} {ns : List Nat} {i n : Nat}, ns[i]? = some n → (runs k ns)[i]? = some (runI (k + (ns.take i).sum) n)
  | k, [], i, n, h => by simp at h
  | k, m :: ns, 0, n, h => by
    have : m = n := by simpa using h
    subst this
    simp [runs]
  | k, m :: ns, i + 1, n, h => by
    have := runs_get (k := k + m) (ns := ns) (i := i) (n := n) (by simpa using h)
    rw [runs, List.getElem?_cons_succ, this, List.take_succ_cons, List.sum_cons, Nat.add_assoc]
theorem runs_take (k : Nat) : ∀ (ns : List Nat) (j : Nat), runs k (ns.take j) = (runs k ns).take j := by
  intro ns
  induction ns generalizing k with
  | nil => intro j; simp [runs]
  | cons n ns ih =>
    intro j
    cases j with
    | zero => simp [runs]
    | succ j => simp [runs, ih]
theorem sum_take_succ {ns : List Nat} {j n : Nat} (h : ns[j]? = some n) : (ns.take (j + 1)).sum = (ns.take j).sum + n := by
  rw [List.take_add_one, h, List.sum_append]
  simp
theorem sum_take_le (ns : List Nat) (j : Nat) : (ns.take j).sum ≤ ns.sum := by
  have h := List.sum_append (l₁ := ns.take j) (l₂ := ns.drop j)
  rw [List.take_append_drop] at h
  omega
theorem runs_set {rows : List (List Value)} {k j n : Nat} {ns : List Nat} (hl : rows.length = ns.length) (hj : ns[j]? = some n) : (runs k (ns.take j) ++ rows.drop j).set j (runI (k + (ns.take j).sum) n) = runs k (ns.take (j + 1)) ++ rows.drop (j + 1) := by
  obtain ⟨hlt, rfl⟩ := List.getElem?_eq_some_iff.1 hj
  have e1 : (runs k (ns.take j)).length = j := by rw [runs_length, List.length_take]; omega
  rw [List.set_append_right _ _ (by omega), e1, Nat.sub_self, List.drop_eq_getElem_cons (by omega), List.set_cons_zero, runs_take k ns (j + 1), List.take_add_one, ← runs_take, runs_get hj]
  simp
theorem set_mid {α : Type} (A : List α) (z x : α) (m : Nat) (h : 0 < m) : (A ++ List.replicate m z).set A.length x = (A ++ [x]) ++ List.replicate (m - 1) z := by
  obtain ⟨k, rfl⟩ : ∃ k, m = k + 1 := ⟨m - 1, by omega⟩
  rw [List.replicate_succ, List.set_append_right _ _ (Nat.le_refl _), Nat.sub_self]
  simp
theorem set_mid_at {α : Type} (A : List α) (z x : α) (m k : Nat) (hk : k = A.length) (h : 0 < m) : (A ++ List.replicate m z).set k x = (A ++ [x]) ++ List.replicate (m - 1) z := by
  subst hk
  exact set_mid A z x m h
theorem made_one (z : Value) (n : Nat) : madeCells #[z] n = (List.replicate n z).toArray := by
  apply Array.ext
  · simp [madeCells]
  · intro i h1 h2
    simp [madeCells]
    have : i % 1 = 0 := Nat.mod_one i
    simp [this]
/-- How many elements there are in all. -/
def total {α : Type} (xss : List (List α)) : Nat := (xss.map List.length).sum
theorem total_take_succ {α : Type} {xss : List (List α)} {j : Nat} {x : List α} (h : xss[j]? = some x) : total (xss.take (j + 1)) = total (xss.take j) + x.length := by
  unfold total
  rw [List.map_take, List.map_take]
  exact sum_take_succ (by rw [List.getElem?_map, h]; rfl)
theorem total_mem {α : Type} : ∀ {xss : List (List α)} {x : List α}, x ∈ xss → x.length ≤ total xss
  | y :: ys, x, h => by
    have e : total (y :: ys) = y.length + total ys := by simp [total]
    rcases List.mem_cons.1 h with rfl | h
    · omega
    · have := total_mem h
      omega
theorem total_take_le {α : Type} (xss : List (List α)) (j : Nat) : total (xss.take j) ≤ total xss := by
  unfold total
  rw [List.map_take]
  exact sum_take_le _ _
end Go.Proofs.Ytlbfejdbfhgifaa

namespace Go.Proofs.Ytlbfejdbfhgifaa
open Go.RowKit
set_option maxRecDepth 100000
/-! The values of all variables, by the program. -/
theorem own_of_block {w : World} {base g n : Nat} {e : TypeId} {cs : List Value} (hb : base ≤ g) (hh : w.heap[g]? = some (.cells cs.toArray e (0, 0))) (hl : cs.length = n) (hm : n ≤ maxLen) : w.ownsRow base e 1 (.slice (some ⟨g, 0, none⟩) n n) n cs :=
  ⟨by omega, .inr ⟨g, n, cs.toArray, rfl, hb, hh, Nat.le_refl _, hm, by simp; omega, by rw [List.take_of_length_le]; simp; omega⟩⟩
theorem splice_two {α : Type} (a b : List α) (z : α) (n k : Nat) (hk : k = 1 + a.length) (hn : 1 + a.length + b.length ≤ n) : splice (splice (List.replicate n z) 1 a) k b = z :: (a ++ b) ++ List.replicate (n - (1 + a.length + b.length)) z := by
  subst hk
  obtain ⟨m, rfl⟩ : ∃ m, n = 1 + a.length + b.length + m := ⟨n - (1 + a.length + b.length), by omega⟩
  have e1 : splice (List.replicate (1 + a.length + b.length + m) z) 1 a = (z :: a) ++ List.replicate (b.length + m) z := by
    unfold splice
    rw [List.take_replicate, List.drop_replicate, show min 1 (1 + a.length + b.length + m) = 1 from by omega, show 1 + a.length + b.length + m - (1 + a.length) = b.length + m from by omega]
    rfl
  rw [e1]
  unfold splice
  rw [List.take_append_of_le_length (by simp; omega), List.take_of_length_le (by simp; omega), List.drop_append, List.drop_eq_nil_of_le (by simp; omega), List.nil_append, List.drop_replicate, show b.length + m - (1 + a.length + b.length - (z :: a).length) = m from by simp; omega, show 1 + a.length + b.length + m - (1 + a.length + b.length) = m from by omega]
  simp
theorem lit_append {A B : List Bool} {l : Nat} (h : l / 2 < A.length) : Cir.lit (A ++ B) l = Cir.lit A l := by
  unfold Cir.lit
  rw [List.getD_eq_getElem?_getD, List.getD_eq_getElem?_getD, List.getElem?_append_left h]
/-- A stop for the walk, at a copy. -/
structure Stop (p : Prop) : Prop where
  out : p
theorem stop_copy {P : Program} {w : World} {ops : Array Oper} {rest : List Oper} {o : Oper} {a : Act} {Q : Exit → Act → World → Prop} (d s : Operand) (dT sT : TypeId)
    (ho : o.op = .call { callee := .builtin .copy, args := #[d, s], argTypes := #[dT, sT] }) (h : Stop (wpList P ops Q (o :: rest) a w)) : wpList P ops Q (o :: rest) a w := h.out
theorem stop_slice {P : Program} {w : World} {ops : Array Oper} {rest : List Oper} {o : Oper} {a : Act} {Q : Exit → Act → World → Prop} (t : TypeId) (x : Operand) (lo hi mx : Option Operand)
    (ho : o.op = .slice t x lo hi mx) (h : Stop (wpList P ops Q (o :: rest) a w)) : wpList P ops Q (o :: rest) a w := h.out
set_option maxHeartbeats 8000000 in
theorem evaluate_any (g : Nat) (d : Ci) (vs vi : Value) (st inp : List Bool) (w : World) (h : PCirc w g (Cir.toCz d)) (hd : Cir.Ok d) (hs : BoolsAt w vs st) (hi : BoolsAt w vi inp) (h1 : inp.length = d.ins) (h2 : st.length = d.next.length) :
    Calls Try.prog 115 #[.pointer (some ⟨g, 0, none⟩), vs, vi, .int .i64 (-1), .bool false] w (OwnBools (Cir.vals d st inp) w) := by
  have s1 := hd.ins
  have s2 := hd.nexts
  have s3 := hd.gatess
  have HGt := Lib.hid hd.gate
  have hnl : (Cir.toCz d).next.length = d.next.length := List.length_map _
  have hgl : (Cir.toCz d).gates.length = d.gates.length := List.length_map _
  obtain ⟨n, hn⟩ : ∃ n, n = Cir.nvars d := ⟨_, rfl⟩
  have hnd : n = 1 + d.ins + d.next.length + d.gates.length := hn
  have HV := vars_any g _ w h (by show (0 : Int) ≤ (d.ins : Int); omega) (by show (d.ins : Int) ≤ 100; omega) (by omega) (by omega)
  rw [Cir.vars_toCz, ← hn] at HV
  have Hv := Lib.hid HV
  have Hs := Lib.hid hs
  have Hi := Lib.hid hi
  have Hp := Lib.hid h
  obtain ⟨As, cs, hvs, hcs, hcms⟩ := Row.shape hs
  obtain ⟨Ai, ci, hvi, hci, hcmi⟩ := Row.shape hi
  subst hvs hvi
  have hmk := run_make_row' (P := Try.prog) 62 4 (.bool false) 1 Try.underlying62 info_bool rfl .i64 .i64 n (by omega) (by omega)
  obtain ⟨m, hm⟩ : ∃ m, m = n := ⟨_, rfl⟩
  have Hnd : Hid (m = 1 + d.ins + d.next.length + d.gates.length) := Lib.hid (hm.trans hnd)
  have b1 : 1 ≤ n := by omega
  have b2 : n ≤ 22 := by omega
  have b3 : 1 + d.ins ≤ n := by omega
  have b4 : 1 + d.ins + d.next.length ≤ n := by omega
  have Hm := Lib.hid hm
  have HB3 : Hid (1 + d.ins + d.next.length ≤ m) := Lib.hid (by omega)
  rw [h1] at hci Hi ⊢
  rw [h2] at hcs Hs ⊢
  have H1 := Lib.hid h1
  have H2 := Lib.hid h2
  have hww : IntKind.i64.wrap (1 + (d.ins : Int)) = 1 + d.ins := IntWalk.i64_in _ (by omega)
  obtain ⟨vn, vg, vo, hg, c0, c1, c2, c3, r1, r2, r3⟩ := Hp.out
  have C0 : Hid (w.cell? ⟨g, 0, none⟩ = some (.int .i64 d.ins)) := Lib.hid c0
  obtain ⟨Ag, cg, hvg, hcg, hcmg⟩ := Row.shape r2
  rw [hgl] at hvg
  subst hvg
  rw [hgl] at hcg
  have C2 := Lib.hid c2
  have R2 : Hid (Row w 2 (.slice Ag d.gates.length cg) d.gates.length (cubes (Cir.toCz d).gates)) := Lib.hid (by have := r2; unfold CubesAt at this; rwa [hgl] at this)
  have Hgl := Lib.hid hgl
  have SZ : (Try.prog.info? 4).map (·.size) = some 1 := by
    have := info_bool
    cases hi : Try.prog.info? 4 with
    | none => rw [hi] at this; cases this
    | some i => rw [hi] at this; simp at this; simp [this]
  clear r1 r2 r3 c0 c1 c2 c3
  clear HV h hs hi hnl hgl hn hnd h1 h2 hm hd
  go_enter Try.func115, Try.ntmps115
  go_wp2_with fail
  refine Hv.out.mono ?_
  rintro e w1 ⟨rfl, hb1⟩
  have hZ : Hid ((w1.alloc (.cells (madeCells #[Value.bool false] n) 4)).heap[w1.heap.size]? = some (.cells (bools (List.replicate m false)).toArray 4 (0, 0))) := Lib.hid (by
    rw [heap_alloc_new, made_one, Hm.out]
    simp [bools])
  have B1 : Hid (Below w.heap.size w (w1.alloc (.cells (madeCells #[Value.bool false] n) 4))) := Lib.hid (hb1.alloc hb1.size _)
  have hz1 := hb1.size
  have c0 : (w1.alloc (.cells (madeCells #[Value.bool false] n) 4)).cell? ⟨g, 0, none⟩ = some (.int .i64 d.ins) := (B1.out.cell (p := ⟨g, 0, none⟩) hg).trans C0.out
  generalize hW2 : w1.alloc (.cells (madeCells #[Value.bool false] n) 4) = W2 at *
  clear hb1 Hv
  go_wp2_with (refine stop_slice _ _ _ _ _ rfl ?_)
  refine ⟨?_⟩
  clear hmk
  have hcase : (n = 1 ∧ n = 1 + d.ins) ∨ (n ≠ 1 ∧ n = 1 + d.ins) ∨ (n ≠ 1 ∧ n ≠ 1 + d.ins) := by omega
  have hcase2 : ∃ p q : Prop, Hid ((p → n = 1) ∧ (¬ p → n ≠ 1) ∧ (q → n = 1 + d.ins) ∧ (¬ q → n ≠ 1 + d.ins)) ∧ (((n = 1) = True ∧ (n = 1 + d.ins) = True ∧ p ∧ q) ∨ ((n = 1) = False ∧ (n = 1 + d.ins) = True ∧ ¬ p ∧ q) ∨ ((n = 1) = False ∧ (n = 1 + d.ins) = False ∧ ¬ p ∧ ¬ q)) := by
    refine ⟨n = 1, n = 1 + d.ins, Lib.hid ⟨id, id, id, id⟩, ?_⟩
    rcases hcase with ⟨h, h'⟩ | ⟨h, h'⟩ | ⟨h, h'⟩
    · exact .inl ⟨eq_true h, eq_true h', h, h'⟩
    · exact .inr (.inl ⟨eq_false h, eq_true h', h, h'⟩)
    · exact .inr (.inr ⟨eq_false h, eq_false h', h, h'⟩)
  clear hcase
  obtain ⟨pp, qq, HQ, ⟨hq, hq', hp1, hp2⟩ | ⟨hq, hq', hp1, hp2⟩ | ⟨hq, hq', hp1, hp2⟩⟩ := hcase2
  all_goals have HP := Lib.hid (And.intro hp1 hp2)
  all_goals clear hp1 hp2
  all_goals go_wp2_with (first
    | (refine wpList_copy_splice rfl (.tmp 19) (.tmp 20) 62 62 rfl 4 Try.underlying62 SZ _ _ _ _ _ _ rfl rfl w1.heap.size 1 (bools (List.replicate m false)) 4 hZ.out (bools inp) ?_ ?_ ?_ (bools_one _) w.heap.size w B1.out hz1 ?_
       · have hb3 := HB3.out; have hmn := Hm.out; obtain ⟨q1, q2, q3, q4⟩ := HQ.out; obtain ⟨r1, r2⟩ := HP.out; simp only [r1, r2, not_true_eq_false, not_false_eq_true, true_implies, false_implies] at q1 q2 q3 q4; rw [bools_length, H1.out]; show d.ins = min _ _; omega
       · intro hp
         have hb3 := HB3.out
         have hmn := Hm.out
         obtain ⟨q1, q2, q3, q4⟩ := HQ.out
         obtain ⟨r1, r2⟩ := HP.out
         simp only [r1, r2, not_true_eq_false, not_false_eq_true, true_implies, false_implies] at q1 q2 q3 q4
         rw [bools_length, H1.out] at hp
         first
           | (exfalso; omega)
           | (refine ⟨by first | rfl | exact if_neg q2, ?_⟩
              obtain ⟨b, o, c', hv, _, _, _, hcell⟩ := Row.open (Row.below Hi.out B1.out) (by rw [H1.out]; exact hp)
              injection hv with hv1 hv2 hv3
              refine ⟨⟨b, o, none⟩, hv1, fun j u hu => ?_⟩
              rw [Go.WideShapes.add_plain]
              exact hcell j u hu)
       · rw [bools_length, bools_length, H1.out, List.length_replicate, Hnd.out]; omega
       intro w5 HG5 hB5; have HB5 := Lib.hid hB5; have c5 := (hB5.cell (p := ⟨g, 0, none⟩) hg).trans C0.out; clear hB5 c0)
    | (refine wpList_copy_splice rfl (.tmp 28) (.tmp 29) 62 62 rfl 4 Try.underlying62 SZ _ _ _ _ _ _ rfl rfl w1.heap.size (1 + d.ins) (splice (bools (List.replicate m false)) 1 (bools inp)) 4 HG5.out (bools st) ?_ ?_ ?_ (bools_one _) w.heap.size w HB5.out hz1 ?_
       · have hb3 := HB3.out; have hmn := Hm.out; obtain ⟨q1, q2, q3, q4⟩ := HQ.out; obtain ⟨r1, r2⟩ := HP.out; simp only [r1, r2, not_true_eq_false, not_false_eq_true, true_implies, false_implies] at q1 q2 q3 q4; rw [bools_length, H2.out]; show d.next.length = min _ _; omega
       · intro hp
         have hb3 := HB3.out
         have hmn := Hm.out
         obtain ⟨q1, q2, q3, q4⟩ := HQ.out
         obtain ⟨r1, r2⟩ := HP.out
         simp only [r1, r2, not_true_eq_false, not_false_eq_true, true_implies, false_implies] at q1 q2 q3 q4
         rw [bools_length, H2.out] at hp
         first
           | (exfalso; omega)
           | (refine ⟨by first | rfl | exact if_neg q4, ?_⟩
              obtain ⟨b, o, c', hv, _, _, _, hcell⟩ := Row.open (Row.below Hs.out HB5.out) (by rw [H2.out]; exact hp)
              injection hv with hv1 hv2 hv3
              refine ⟨⟨b, o, none⟩, hv1, fun j u hu => ?_⟩
              rw [Go.WideShapes.add_plain]
              exact hcell j u hu)
       · rw [length_splice _ _ _ (by rw [bools_length, bools_length, H1.out, List.length_replicate, Hnd.out]; omega), bools_length, bools_length, H2.out, List.length_replicate, Hnd.out]; omega
       intro w6 HG6 hB6; have HB6 := Lib.hid hB6; have c6 := (hB6.cell (p := ⟨g, 2, none⟩) hg).trans C2.out; clear hB6 c5 HB5 HG5))
  all_goals
    have hmm := Hm.out
    subst hmm
    have hm22 := b2
    have hnf : Cir.nfirst d ≤ 8 := by unfold Cir.nfirst; omega
    have Hnf : Hid (m = Cir.nfirst d + d.gates.length) := Lib.hid (by rw [Hnd.out]; unfold Cir.nfirst; omega)
    have HE : Hid (∀ k, k ≤ d.gates.length → (Cir.evalG (d.gates.take k) (false :: (inp ++ st))).length = Cir.nfirst d + k) := Lib.hid fun k hk => by
      rw [Cir.evalG_length]
      simp [Cir.nfirst, H1.out, H2.out]
      omega
    have Ho0 : Hid (w6.ownsRow w.heap.size 4 1 (.slice (some ⟨w1.heap.size, 0, none⟩) m m) m (bools (Cir.evalG (d.gates.take 0) (false :: (inp ++ st)) ++ List.replicate (d.gates.length - 0) false))) := Lib.hid (by
      have e0 : Cir.evalG (d.gates.take 0) (false :: (inp ++ st)) = false :: (inp ++ st) := rfl
      have hb3 := HB3.out
      have hnd := Hnd.out
      have h1 := H1.out
      have h2 := H2.out
      have e1 : bools (List.replicate m false) = List.replicate m (Value.bool false) := by simp [bools]
      have e2 : splice (splice (bools (List.replicate m false)) 1 (bools inp)) (1 + d.ins) (bools st) = bools (false :: (inp ++ st) ++ List.replicate (d.gates.length - 0) false) := by
        rw [e1, splice_two (bools inp) (bools st) (.bool false) m (1 + d.ins) (by rw [bools_length, h1]) (by rw [bools_length, bools_length, h1, h2]; omega), bools_length, bools_length, h1, h2, show m - (1 + d.ins + d.next.length) = d.gates.length - 0 by omega]
        simp [bools]
      rw [e0, ← e2]
      refine own_of_block hz1 HG6.out ?_ (by unfold maxLen; omega)
      rw [e2, bools_length]
      simp [h1, h2]
      omega)
    have HV : Hid (Cir.evalG (d.gates.take d.gates.length) (false :: (inp ++ st)) = Cir.vals d st inp) := Lib.hid (by rw [List.take_length]; rfl)
    have HPf : Hid (∀ w', Below w.heap.size w w' → Calls Try.prog 104 #[.pointer (some ⟨g, 0, none⟩)] w' fun e w'' => e = .returned (.int .i64 (Cir.nfirst d : Nat)) ∧ Below w'.heap.size w' w'') := Lib.hid fun w' hb => by
      have := firstGate_any g _ w' (Hp.out.below hb) (by show (0 : Int) ≤ (d.ins : Int); omega) (by show (d.ins : Int) ≤ 100; omega) (by show (List.map _ _).length ≤ 100; rw [List.length_map]; omega)
      rwa [Cir.first_toCz] at this
    generalize Cir.vals d st inp = res at *
    generalize Cir.nfirst d = nf at *
    generalize hI0 : (false :: (inp ++ st)) = I0 at *
    clear hq hq' HQ HP c6 C0 C2 hww HB3 Hnd Hm hZ HG6 H1 H2 B1 Hs Hi Hp
    go_loopw [42] (fun i wr => ∃ k : Nat, k ≤ d.gates.length ∧ i = .int .i64 k ∧ Hid (wr.ownsRow w.heap.size 4 1 (.slice (some ⟨w1.heap.size, 0, none⟩) m m) m (bools (Cir.evalG (d.gates.take k) I0 ++ List.replicate (d.gates.length - k) false))) ∧ Below w.heap.size w wr) (fun i _ => d.gates.length - (intOf i).toNat)
    case atStart => exact ⟨0, Nat.zero_le _, rfl, Ho0, HB6.out⟩
    case round =>
      obtain ⟨k, hk, rfl, Ho, hb⟩ := hrel
      clear Ho0 HB6
      by_cases hlt : k < d.gates.length
      · obtain ⟨b, o, x, rfl, hbl, hx, hs1, hs2⟩ := cubes_open R2.out hb Hgl.out.symm (i := k) (by rw [Hgl.out]; exact hlt)
        obtain ⟨gt, hgt⟩ := at_some hlt
        have hxe : x = ((gt.1 : Int), (gt.2 : Int)) := by
          have h1 := hx.out
          unfold Cir.toCz at h1
          simp only [List.getElem?_map, hgt] at h1
          exact (Option.some.inj h1).symm
        subst hxe
        obtain ⟨g1, g2⟩ := HGt.out k gt hgt
        have hEk := HE.out k (by omega)
        have HS := Lib.hid (Cir.evalG_take_snoc hgt I0)
        have hgv : Cir.gval (Cir.evalG (d.gates.take k) I0) gt = (Cir.lit (Cir.evalG (d.gates.take k) I0) gt.1 && Cir.lit (Cir.evalG (d.gates.take k) I0) gt.2) := rfl
        rw [hgv] at HS
        clear hgv hx hgt
        obtain ⟨E2, hE2⟩ : ∃ E2, Cir.evalG (d.gates.take (k + 1)) I0 = E2 := ⟨_, rfl⟩
        rw [hE2] at HS
        have HE2 := Lib.hid hE2
        clear hE2
        generalize Cir.evalG (d.gates.take k) I0 = E at *
        have Hb := Lib.hid hb
        have hz := hb.size
        have hlen : (E ++ List.replicate (d.gates.length - k) false).length = m := by
          have := Hnf.out
          simp [hEk]
          omega
        have HL := Lib.hid hlen
        have hmnf := Hnf.out
        have hkm : nf + k < m := by omega
        have HSet : ∀ u : Bool, Hid ((bools (E ++ List.replicate (d.gates.length - k) false)).set (nf + k) (.bool u) = bools (E ++ [u] ++ List.replicate (d.gates.length - (k + 1)) false)) := fun u => Lib.hid (by
          unfold bools
          rw [← List.map_set, set_mid_at _ _ _ _ _ hEk.symm (by omega), show d.gates.length - k - 1 = d.gates.length - (k + 1) from by omega])
        have HA1 := Lib.hid (lit_append (B := List.replicate (d.gates.length - k) false) (show gt.1 / 2 < E.length by omega))
        have HA2 := Lib.hid (lit_append (B := List.replicate (d.gates.length - k) false) (show gt.2 / 2 < E.length by omega))
        obtain ⟨G1, hG1⟩ : ∃ G1, G1 = gt.1 := ⟨_, rfl⟩
        obtain ⟨G2, hG2⟩ : ∃ G2, G2 = gt.2 := ⟨_, rfl⟩
        rw [← hG1] at g1 HS hs1 HA1
        rw [← hG2] at g2 HS hs2 HA2
        have hwk : IntKind.i64.wrap ((nf : Int) + (k : Int)) = (nf : Int) + (k : Int) := IntWalk.i64_in _ (by omega)
        have hn1 : ((nf : Int) + (k : Int) != -1) = true := by simp; omega
        have hix : ((nf : Int) + (k : Int)).toNat = nf + k := by omega
        clear hb hG1 hG2 hEk hlen hmnf
        go_wp2_with fail
        refine (HPf.out _ (Hb.out.alloc hz _)).mono ?_
        rintro e w9 ⟨rfl, hb9⟩
        have Hb9 := Lib.hid ((Hb.out.alloc hz _).trans (hb9.mono (by simp; omega)))
        have Ho9 := Lib.hid (own_below (Ho.out.alloc _) hb9)
        have q0 := (hb9.cell (p := ⟨wr.heap.size, 0, none⟩) (by simp)).trans (World.cell?_alloc_new _ _ _ 0)
        have q1 := (hb9.cell (p := ⟨wr.heap.size, 1, none⟩) (by simp)).trans (World.cell?_alloc_new _ _ _ 1)
        simp at q0 q1
        obtain ⟨u0, _, hd0, hf0⟩ := own_slot Ho9.out (j := nf + k) (by omega)
        have Hst := fun u => Lib.hid (Ho9.out.stored (nf + k) (.bool u))
        have HBA : Hid (BoolsAt w9 (.slice (some ⟨w1.heap.size, 0, none⟩) m m) (E ++ List.replicate (d.gates.length - k) false)) := Lib.hid (ownBools_at (b := w.heap.size) (by rw [HL.out]; exact Ho9.out))
        clear hb9
        go_wp2_with fail
        refine (litValue_any _ _ G1 _ HBA.out (by rw [HL.out]; omega) (by omega)).mono ?_
        rintro e w' ⟨rfl, rfl⟩
        rw [HA1.out]
        cases hv1 : Cir.lit E G1
        · have HEe : Hid (bools (E2 ++ List.replicate (d.gates.length - (k + 1)) false) = bools (E ++ [false] ++ List.replicate (d.gates.length - (k + 1)) false)) := Lib.hid (by rw [HS.out, hv1]; rfl)
          clear hv1 HS
          go_wp2_with fail
          go_roundw
          case rel => exact ⟨k + 1, by omega, by go_num, Lib.hid (by rw [HE2.out, HEe.out, ← (HSet false).out]; exact (Hst false).out.1), Hb9.out.grown (Hst false).out.2 Hb9.out.size (fun q hq => by have := Option.some.inj hq; omega)⟩
          case measure => simp [intOf] <;> omega
        · have HEe : Hid (bools (E2 ++ List.replicate (d.gates.length - (k + 1)) false) = bools (E ++ [Cir.lit E G2] ++ List.replicate (d.gates.length - (k + 1)) false)) := Lib.hid (by rw [HS.out, hv1, Bool.true_and])
          clear hv1 HS
          go_wp2_with fail
          refine (litValue_any _ _ G2 _ HBA.out (by rw [HL.out]; omega) (by omega)).mono ?_
          rintro e w' ⟨rfl, rfl⟩
          rw [HA2.out]
          generalize Cir.lit E G2 = u at *
          go_wp2_with fail
          go_roundw
          case rel => exact ⟨k + 1, by omega, by go_num, Lib.hid (by rw [HE2.out, HEe.out, ← (HSet u).out]; exact (Hst u).out.1), Hb9.out.grown (Hst u).out.2 Hb9.out.size (fun q hq => by have := Option.some.inj hq; omega)⟩
          case measure => simp [intOf] <;> omega
      · obtain rfl : k = d.gates.length := by omega
        have HR : Hid (res.length = m ∧ bools (Cir.evalG (d.gates.take d.gates.length) I0 ++ List.replicate (d.gates.length - d.gates.length) false) = bools res) := Lib.hid ⟨by rw [← HV.out, HE.out _ (Nat.le_refl _), Hnf.out], by rw [HV.out, Nat.sub_self]; simp⟩
        go_wp2_with fail
        go_ret
        exact ⟨_, rfl, by rw [HR.out.1, ← HR.out.2]; exact Ho.out, hb⟩
end Go.Proofs.Ytlbfejdbfhgifaa

namespace Go.Proofs.Ytlbfejdbfhgifaa
open Go.RowKit
set_option maxRecDepth 100000
namespace Cir
/-- The values of a literal, an assignment each. -/
def litAt (d : Ci) (l x : Nat) : Bool := lit (vals d (bits (x / 2 ^ d.ins) d.next.length) (bits x d.ins)) l
def litTab (d : Ci) (l n : Nat) : List Bool := (List.range n).map (litAt d l)
theorem litTab_snoc (d : Ci) (l n : Nat) : litTab d l (n + 1) = litTab d l n ++ [litAt d l n] := by
  unfold litTab
  rw [List.range_succ, List.map_append]
  rfl
theorem litTab_length (d : Ci) (l n : Nat) : (litTab d l n).length = n := by simp [litTab]
theorem litTab_get (d : Ci) (l : Nat) {n k : Nat} (h : k < n) : (litTab d l n)[k]? = some (litAt d l k) := by simp [litTab, h]
theorem litAt_flat {d : Ci} (h : d.next = []) (l x : Nat) : litAt d l x = lit (vals d [] (bits x d.ins)) l := by
  unfold litAt
  rw [h]
  rfl
/-- What TableOf answers. -/
def tabI (c : Cz) (l : Int) : Int := if valid c = true ∧ c.next = [] ∧ isLit l (vars c) = true then (tab (nat c) l.toNat (2 ^ (nat c).ins) : Nat) else -1
end Cir
set_option maxHeartbeats 4000000 in
theorem litTable_any (g : Nat) (d : Ci) (l : Nat) (w : World) (h : PCirc w g (Cir.toCz d)) (hd : Cir.Ok d) (hl : l < 2 * Cir.nvars d) :
    Calls Try.prog 77 #[.pointer (some ⟨g, 0, none⟩), .int .i64 l] w (OwnBools (Cir.litTab d l (2 ^ (d.ins + d.next.length))) w) := by
  have s1 := hd.ins
  have s2 := hd.nexts
  have s3 := hd.gatess
  have hnl : (Cir.toCz d).next.length = d.next.length := List.length_map _
  have hnv : Cir.nvars d ≤ 22 := by unfold Cir.nvars Cir.nfirst; omega
  obtain ⟨M, hM⟩ : ∃ M : Nat, M = 2 ^ (d.ins + d.next.length) := ⟨_, rfl⟩
  have hM128 : M ≤ 128 := by rw [hM]; exact Nat.pow_le_pow_right (show 0 < 2 by decide) (show _ ≤ 7 by omega)
  have HA : Hid (∀ w', Below w.heap.size w w' → Calls Try.prog 48 #[.pointer (some ⟨g, 0, none⟩)] w' fun e w'' => e = .returned (.int .i64 (M : Nat)) ∧ Below w'.heap.size w' w'') := Lib.hid fun w' hb => by
    rw [hM]
    exact assignments_any g _ (d.ins + d.next.length) w' (h.below hb) (by rw [hnl]; show (d.ins : Int) + _ = _; omega) (by omega)
  have HI : Hid (∀ (x : Nat) w', x ≤ 1000000 → Below w.heap.size w w' → Calls Try.prog 50 #[.pointer (some ⟨g, 0, none⟩), .int .i64 x] w' (OwnBools (Cir.bits x d.ins) w')) := Lib.hid fun x w' hx hb => inputBits_any g _ d.ins x w' (h.below hb) rfl (by omega) hx
  have HL : Hid (∀ (x : Nat) w', x ≤ 1000000 → Below w.heap.size w w' → Calls Try.prog 52 #[.pointer (some ⟨g, 0, none⟩), .int .i64 x] w' (OwnBools (Cir.bits (x / 2 ^ d.ins) d.next.length) w')) := Lib.hid fun x w' hx hb => latchBits_any g _ d.ins d.next.length x w' (h.below hb) rfl hnl (by omega) (by omega) hx
  have HP := Lib.hid h
  have HD := Lib.hid hd
  rw [← hM]
  clear hM h hd hnl
  go_enter Try.func77, Try.ntmps77
  go_wp2_with fail
  refine (HA.out _ (Below.refl _ _)).mono ?_
  rintro e w1 ⟨rfl, hb1⟩
  have B1 := Lib.hid hb1
  clear hb1 HA
  go_wp2_with fail
  go_loopw [5, 9] (fun v i wr => ∃ (vv : Value) (k : Nat), vv = v ∧ k ≤ M ∧ i = .int .i64 k ∧ Hid (wr.ownsRow w.heap.size 4 1 v k (bools (Cir.litTab d l k))) ∧ Below w.heap.size w wr) (fun _ i _ => M - (intOf i).toNat)
  case atStart => exact ⟨_, 0, rfl, Nat.zero_le _, rfl, Lib.hid (World.ownsRow_nil _ _ _ _), B1.out⟩
  case round =>
    obtain ⟨vv, k, hvv, hk, rfl, Ho, hb⟩ := hrel
    subst hvv
    by_cases hlt : k < M
    · have hz := hb.size
      have Hb := Lib.hid hb
      have HS : Hid (bools (Cir.litTab d l (k + 1)) = bools (Cir.litTab d l k) ++ [.bool (Cir.litAt d l k)]) := Lib.hid (by rw [Cir.litTab_snoc, bools_append]; rfl)
      have HX : Hid (Cir.lit (Cir.vals d (Cir.bits (k / 2 ^ d.ins) d.next.length) (Cir.bits k d.ins)) l = Cir.litAt d l k) := Lib.hid rfl
      have hk1 : k ≤ 1000000 := by omega
      clear hb
      go_wp2_with fail
      refine (HL.out k _ hk1 Hb.out).mono ?_
      rintro e w2 ⟨v2, rfl, hown2, hb2⟩
      have Ho2 := Lib.hid hown2
      have Hb2 := Lib.hid (Hb.out.trans (hb2.mono hz))
      have HoA := Lib.hid (own_below Ho.out hb2)
      have hz2 := Nat.le_trans hz hb2.size
      clear hown2 hb2
      go_wp2_with fail
      refine (HI.out k _ hk1 Hb2.out).mono ?_
      rintro e w3 ⟨v3, rfl, hown3, hb3⟩
      have Ho3 := Lib.hid hown3
      have Ho23 := Lib.hid (own_below Ho2.out hb3)
      have Hb3 := Lib.hid (Hb2.out.trans (hb3.mono hz2))
      have HoB := Lib.hid (own_below HoA.out hb3)
      have hz3 := Nat.le_trans hz2 hb3.size
      clear hown3 hb3
      go_wp2_with fail
      refine (evaluate_any g d v2 v3 _ _ _ (HP.out.below Hb3.out) HD.out (ownBools_at Ho23.out) (ownBools_at Ho3.out) (Cir.bits_length _ _) (Cir.bits_length _ _)).mono ?_
      rintro e w4 ⟨v4, rfl, hown4, hb4⟩
      have Ho4 := Lib.hid hown4
      have Hb4 := Lib.hid (Hb3.out.trans (hb4.mono hz3))
      have HoC := Lib.hid (own_below HoB.out hb4)
      have hz4 := Nat.le_trans hz3 hb4.size
      clear hown4 hb4
      go_wp2_with fail
      refine (litValue_any v4 _ l _ (ownBools_at Ho4.out) (by rw [Cir.vals_length d (Cir.bits_length _ _) (Cir.bits_length _ _)]; exact hl) (by omega)).mono ?_
      rintro e w' ⟨rfl, rfl⟩
      rw [HX.out]
      generalize Cir.litAt d l k = u at *
      have Hlit := Lib.hid (Row.of_own (World.ownsRow_lit (base := w4.heap.size) (e := 4) (size := 1) w4 #[.bool u] 1 (Nat.le_refl _) (by unfold maxLen; omega) rfl))
      go_wp2_with (at_builtin; refine append_bools rfl (.tmp 12) (.tmp 23) rfl w.heap.size _ k _ rfl (HoC.out.alloc _) _ 1 [.bool u] rfl Hlit.out (by simp [Value.oneCell']) (by omega) (by simp; omega) ?_; intro v7 w7 hown7 hg7 hat7; have Ho7 := Lib.hid hown7; have Hg7 := Lib.hid hg7; clear hown7 hg7 hat7)
      go_roundw
      case rel => exact ⟨_, k + 1, rfl, by omega, by go_num, Lib.hid (by rw [HS.out]; exact Ho7.out), (Hb4.out.alloc hz4 _).grown Hg7.out (Hb4.out.alloc hz4 _).size (own_ge0 HoC.out)⟩
      case measure => simp [intOf] <;> omega
    · obtain rfl : k = M := by omega
      go_wp2_with fail
      go_ret
      exact ⟨_, rfl, by rw [Cir.litTab_length]; exact Ho.out, hb⟩
theorem valid_sizes {c : Cz} (h : Cir.valid c = true) : 0 ≤ c.ins ∧ c.ins ≤ 4 ∧ c.next.length ≤ 3 ∧ c.gates.length ≤ 14 ∧ c.outs.length ≤ 3 := by
  unfold Cir.valid at h
  rw [Bool.and_eq_true, Bool.and_eq_true] at h
  have := h.1.1
  unfold Cir.sizes at this
  simpa using this
set_option maxHeartbeats 4000000 in
theorem implTable_no (v : Value) (c : Cz) (l : Int) (w : World) (h : CircAt w v c) (hno : Cir.valid c = false ∨ (Cir.valid c = true ∧ 0 < c.next.length) ∨ (Cir.valid c = true ∧ c.next.length = 0 ∧ Cir.isLit l (Cir.vars c) = false)) :
    Calls Try.prog 29 #[v, .int .i64 l] w fun e w' => e = .returned (.int .i64 (-1)) ∧ Below w.heap.size w w' := by
  obtain ⟨vn, vg, vo, rfl, r1, r2, r3⟩ := h
  obtain ⟨An, cn, hvn, hcn, hcmn⟩ := r1.shape
  subst hvn
  have hb0 : Below w.heap.size w (w.alloc (.cells #[.int .i64 c.ins, .slice An c.next.length cn, vg, vo] 31)) := (Below.refl _ _).alloc (Nat.le_refl _) _
  obtain ⟨z, p0, p1, p2, p3⟩ := PCells.boxed w c.ins (.slice An c.next.length cn) vg vo 31
  have hPC := PCirc.boxed (w := w) (c := c) 31 r1 r2 r3
  have HC : ∀ n : GW (w.alloc (.cells #[.int .i64 c.ins, .slice An c.next.length cn, vg, vo] 31)), CircAt (gw n) (.agg #[.int .i64 c.ins, .slice An c.next.length cn, vg, vo]) c := fun n =>
    ⟨_, _, _, rfl, Row.below r1 (hb0.trans ((gw_below n).mono hb0.size)), Row.below r2 (hb0.trans ((gw_below n).mono hb0.size)), Row.below r3 (hb0.trans ((gw_below n).mono hb0.size))⟩
  generalize hW : w.alloc (.cells #[.int .i64 c.ins, .slice An c.next.length cn, vg, vo] 31) = W at *
  have g0 := gw_cell p0 z
  have g1 := gw_cell p1 z
  have g2 := gw_cell p2 z
  have g3 := gw_cell p3 z
  have HV : Hid (∀ n : GW W, Calls Try.prog 47 #[.agg #[.int .i64 c.ins, .slice An c.next.length cn, vg, vo]] (gw n) fun e w' => e = .returned (.bool (Cir.valid c)) ∧ Below (gw n).heap.size (gw n) w') := Lib.hid fun n => implValid_any _ c _ (HC n)
  have B0 := Lib.hid hb0
  clear r1 r2 r3 hb0
  rcases hno with hv | ⟨hv, hl⟩ | ⟨hv, hl, hi⟩
  · rw [hv] at HV
    clear hv HC hPC
    go_enter Try.func29, Try.ntmps29
    go_wp2_with fail
    refine (HV.out ⟨W, Below.refl _ _⟩).mono ?_
    rintro e w1 ⟨rfl, hb1⟩
    have g1' := (hb1.cell (p := ⟨w.heap.size, 1, none⟩) z).trans p1
    have Hb1 : Hid (Below W.heap.size W w1) := Lib.hid hb1
    clear g0 g1 g2 g3 hb1 p0 p1 p2 p3
    go_wp2_with fail
    go_ret
    exact ⟨rfl, B0.out.trans (Hb1.out.mono B0.out.size)⟩
  · rw [hv] at HV
    have hd : decide (0 < c.next.length) = true := decide_eq_true hl
    clear hv HC hl hPC
    go_enter Try.func29, Try.ntmps29
    go_wp2_with fail
    refine (HV.out ⟨W, Below.refl _ _⟩).mono ?_
    rintro e w1 ⟨rfl, hb1⟩
    have g1' := (hb1.cell (p := ⟨w.heap.size, 1, none⟩) z).trans p1
    have Hb1 : Hid (Below W.heap.size W w1) := Lib.hid hb1
    clear g0 g1 g2 g3 hb1 p0 p1 p2 p3
    go_wp2_with fail
    go_ret
    exact ⟨rfl, B0.out.trans (Hb1.out.mono B0.out.size)⟩
  · rw [hv] at HV
    obtain ⟨s1, s2, s3, s4, s5⟩ := valid_sizes hv
    have HF : Hid (∀ n : GW W, Calls Try.prog 76 #[.pointer (some ⟨w.heap.size, 0, none⟩)] (gw n) fun e w' => e = .returned (.int .i64 (Cir.vars c)) ∧ Below (gw n).heap.size (gw n) w') := Lib.hid fun n => vars_any _ c _ (hPC.below (gw_below n)) s1 (by omega) (by omega) (by omega)
    have hvb : -1000000 ≤ Cir.vars c ∧ Cir.vars c ≤ 1000000 := by unfold Cir.vars Cir.first; omega
    have HI : Hid (∀ n : GW W, Calls Try.prog 75 #[.int .i64 l, .int .i64 (Cir.vars c)] (gw n) fun e w' => e = .returned (.bool false) ∧ gw n = w') := Lib.hid fun n => by
      have h1 := isLit_any l (Cir.vars c) (gw n) hvb.1 hvb.2
      rwa [hi] at h1
    have hd : decide (0 < c.next.length) = false := decide_eq_false (by omega)
    have hd4 : decide (4 < c.ins) = false := decide_eq_false (by omega)
    clear hv HC hi hl hPC
    generalize Cir.vars c = V at *
    go_enter Try.func29, Try.ntmps29
    go_wp2_with fail
    refine (HV.out ⟨W, Below.refl _ _⟩).mono ?_
    rintro e w1 ⟨rfl, hb1⟩
    have g1' := (hb1.cell (p := ⟨w.heap.size, 1, none⟩) z).trans p1
    have g0' := (hb1.cell (p := ⟨w.heap.size, 0, none⟩) z).trans p0
    have Hb1 : Hid (Below W.heap.size W w1) := Lib.hid hb1
    clear g0 g1 g2 g3 hb1 p0 p1 p2 p3
    go_wp2_with fail
    refine (HF.out ⟨w1, Hb1.out⟩).mono ?_
    rintro e w2 ⟨rfl, hb2⟩
    have Hb2 := Lib.hid (Hb1.out.trans (hb2.mono Hb1.out.size))
    clear hb2 g0' g1'
    go_wp2_with fail
    refine (HI.out ⟨w2, Hb2.out⟩).mono ?_
    rintro e w' ⟨rfl, rfl⟩
    simp only [gw]
    go_wp2_with fail
    go_ret
    exact ⟨rfl, B0.out.trans (Hb2.out.mono B0.out.size)⟩
set_option maxHeartbeats 4000000 in
theorem implTable_ok (v : Value) (d : Ci) (l : Nat) (w : World) (h : CircAt w v (Cir.toCz d)) (hd : Cir.Ok d) (hv : Cir.valid (Cir.toCz d) = true) (hn : d.next = []) (hl : l < 2 * Cir.nvars d) :
    Calls Try.prog 29 #[v, .int .i64 l] w fun e w' => e = .returned (.int .i64 (Cir.tab d l (2 ^ d.ins) : Nat)) ∧ Below w.heap.size w w' := by
  have s1 := hd.ins
  have s3 := hd.gatess
  have hnl : (Cir.toCz d).next.length = 0 := by simp [Cir.toCz, hn]
  have hgl : (Cir.toCz d).gates.length = d.gates.length := List.length_map _
  have hnv : Cir.nvars d ≤ 19 := by unfold Cir.nvars Cir.nfirst; rw [hn]; simp; omega
  have HCa := Lib.hid h
  have hins : (Cir.toCz d).ins = (d.ins : Int) := rfl
  obtain ⟨vn, vg, vo, rfl, r1, r2, r3⟩ := h
  obtain ⟨An, cn, hvn, hcn, hcmn⟩ := r1.shape
  rw [hnl] at hvn
  subst hvn
  have hPC : PCirc (w.alloc (.cells #[.int .i64 d.ins, .slice An 0 cn, vg, vo] 31)) w.heap.size (Cir.toCz d) := PCirc.boxed (w := w) (c := Cir.toCz d) 31 r1 r2 r3
  rw [hins] at HCa ⊢
  have hb0 : Below w.heap.size w (w.alloc (.cells #[.int .i64 d.ins, .slice An 0 cn, vg, vo] 31)) := (Below.refl _ _).alloc (Nat.le_refl _) _
  obtain ⟨z, p0, p1, p2, p3⟩ := PCells.boxed w d.ins (.slice An 0 cn) vg vo 31
  have HCW : Hid (CircAt (w.alloc (.cells #[.int .i64 d.ins, .slice An 0 cn, vg, vo] 31)) (.agg #[.int .i64 d.ins, .slice An 0 cn, vg, vo]) (Cir.toCz d)) := Lib.hid (HCa.out.below hb0)
  generalize hW : w.alloc (.cells #[.int .i64 d.ins, .slice An 0 cn, vg, vo] 31) = W at *
  have g0 := gw_cell p0 z
  have g1 := gw_cell p1 z
  have g2 := gw_cell p2 z
  have g3 := gw_cell p3 z
  have HV : Hid (∀ n : GW W, Calls Try.prog 47 #[.agg #[.int .i64 d.ins, .slice An 0 cn, vg, vo]] (gw n) fun e w' => e = .returned (.bool true) ∧ Below (gw n).heap.size (gw n) w') := Lib.hid fun n => by
    have := implValid_any _ _ _ (HCW.out.below (gw_below n))
    rwa [hv] at this
  have HF : Hid (∀ n : GW W, Calls Try.prog 76 #[.pointer (some ⟨w.heap.size, 0, none⟩)] (gw n) fun e w' => e = .returned (.int .i64 (Cir.nvars d : Nat)) ∧ Below (gw n).heap.size (gw n) w') := Lib.hid fun n => by
    have := vars_any _ _ _ (hPC.below (gw_below n)) (by show (0 : Int) ≤ (d.ins : Int); omega) (by show (d.ins : Int) ≤ 100; omega) (by omega) (by omega)
    rwa [Cir.vars_toCz] at this
  have HI : Hid (∀ n : GW W, Calls Try.prog 75 #[.int .i64 l, .int .i64 (Cir.nvars d : Nat)] (gw n) fun e w' => e = .returned (.bool true) ∧ gw n = w') := Lib.hid fun n => by
    have h1 := isLit_any l (Cir.nvars d : Nat) (gw n) (by omega) (by omega)
    rwa [show Cir.isLit (l : Int) ((Cir.nvars d : Nat) : Int) = true from decide_eq_true (by omega)] at h1
  have hd0 : decide (0 < 0) = false := rfl
  have hd4 : decide (4 < (d.ins : Int)) = false := decide_eq_false (by omega)
  have B0 := Lib.hid hb0
  have HD := Lib.hid hd
  have HP := Lib.hid hPC
  have HN := Lib.hid hn
  have Hl := Lib.hid hl
  obtain ⟨M, hM⟩ : ∃ M : Nat, M = 2 ^ d.ins := ⟨_, rfl⟩
  have hM16 : M ≤ 16 := by rw [hM]; exact Nat.pow_le_pow_right (show 0 < 2 by decide) s1
  have HM : Hid (2 ^ (d.ins + d.next.length) = M) := Lib.hid (by rw [hM, hn]; rfl)
  rw [← hM]
  clear r1 r2 r3 hb0 hd hv hn hnl hgl hM HCa hPC hl HCW
  obtain ⟨V, hV⟩ : ∃ V, Cir.nvars d = V := ⟨_, rfl⟩
  rw [hV] at HF HI hnv
  clear hV
  go_enter Try.func29, Try.ntmps29
  go_wp2_with fail
  refine (HV.out ⟨W, Below.refl _ _⟩).mono ?_
  rintro e w1 ⟨rfl, hb1⟩
  have g1' := (hb1.cell (p := ⟨w.heap.size, 1, none⟩) z).trans p1
  have g0' := (hb1.cell (p := ⟨w.heap.size, 0, none⟩) z).trans p0
  have Hb1 : Hid (Below W.heap.size W w1) := Lib.hid hb1
  clear g0 g1 g2 g3 hb1 p0 p1 p2 p3
  go_wp2_with fail
  refine (HF.out ⟨w1, Hb1.out⟩).mono ?_
  rintro e w2 ⟨rfl, hb2⟩
  have Hb2 := Lib.hid (Hb1.out.trans (hb2.mono Hb1.out.size))
  clear hb2 g0' g1'
  go_wp2_with fail
  refine (HI.out ⟨w2, Hb2.out⟩).mono ?_
  rintro e w' ⟨rfl, rfl⟩
  have e2 : gw (⟨w2, Hb2.out⟩ : GW W) = w2 := rfl
  rw [e2]
  clear e2
  have HPq := Lib.hid (HP.out.below Hb2.out)
  have Bq := Lib.hid (B0.out.trans (Hb2.out.mono B0.out.size))
  clear HV HF HI B0 HP
  go_wp2_with fail
  refine (litTable_any _ d l _ HPq.out HD.out Hl.out).mono ?_
  rintro e w3 ⟨v3, rfl, hown3, hb3⟩
  rw [Cir.litTab_length, HM.out] at hown3
  have hr3 := Row.of_own hown3
  obtain ⟨A3, c3, hv3, hc3, hcm3⟩ := hr3.shape
  subst hv3
  have Hr3 : Hid (Row w3 1 (.slice A3 M c3) M (bools (Cir.litTab d l M))) := Lib.hid hr3
  have B3 := Lib.hid (Bq.out.trans (hb3.mono Bq.out.size))
  clear hown3 hr3 hb3 hd0 hd4 hW Hb1 Hb2
  go_wp2_with fail
  go_loop [5, 31] (fun t x => ∃ k : Nat, k ≤ M ∧ x = .int .i64 k ∧ t = .int .i64 (Cir.tab d l k : Nat)) (fun _ x => M - (intOf x).toNat)
  case atStart => exact ⟨0, Nat.zero_le _, rfl, rfl⟩
  case round =>
    obtain ⟨k, hk, rfl, rfl⟩ := hrel
    by_cases hlt : k < M
    · have ht : Cir.tab d l k < 65536 := Nat.lt_of_lt_of_le (Cir.tab_lt d l k) (by
        have : (65536 : Nat) = 2 ^ 16 := by decide
        rw [this]; exact Nat.pow_le_pow_right (show 0 < 2 by decide) (by omega))
      have Hs : Hid (Cir.tab d l (k + 1) = Cir.tab d l k + (if Cir.litAt d l k then 2 ^ k else 0)) := Lib.hid (by rw [Cir.litAt_flat HN.out]; rfl)
      have hor := i64_or_nat (Cir.tab d l k) (2 ^ k) (by omega) (by
        have : 2 ^ k ≤ 2 ^ 15 := Nat.pow_le_pow_right (show 0 < 2 by decide) (by omega)
        have : (2 : Nat) ^ 15 = 32768 := by decide
        omega)
      rw [Cir.tab_or] at hor
      have hY : 2 ^ k ≤ 32768 := by
        have : (32768 : Nat) = 2 ^ 15 := by decide
        rw [this]; exact Nat.pow_le_pow_right (show 0 < 2 by decide) (by omega)
      have hYe : (2 : Int) ^ k = ((2 ^ k : Nat) : Int) := two_pow k
      generalize hYY : 2 ^ k = Y at *
      obtain ⟨b, o, c', hv, _, _, hbl, hcell⟩ := Hr3.out.open (by omega)
      injection hv with hv1 _ hv3
      subst hv1 hv3
      have hc0 := hcell k _ (show (bools (Cir.litTab d l M))[k]? = some (.bool (Cir.litAt d l k)) by unfold bools; rw [List.getElem?_map, Cir.litTab_get d l hlt]; rfl)
      have hwY : IntKind.i64.wrap (Y : Int) = (Y : Int) := IntWalk.i64_in _ (by omega)
      obtain ⟨T2, hT2⟩ : ∃ T2, Cir.tab d l (k + 1) = T2 := ⟨_, rfl⟩
      rw [hT2] at Hs
      have HT2 := Lib.hid hT2
      clear hcell hYY hT2
      cases hb : Cir.litAt d l k
      · rw [hb] at Hs hc0
        clear hor hb
        go_wp2_with fail
        go_round
        case rel => exact ⟨k + 1, by omega, by go_num, by rw [HT2.out, Hs.out]; rfl⟩
        case measure => simp [intOf] <;> omega
      · rw [hb] at Hs hc0
        clear hb
        go_wp2_with fail
        go_round
        case rel => exact ⟨k + 1, by omega, by go_num, by rw [HT2.out, Hs.out]; go_num⟩
        case measure => simp [intOf] <;> omega
    · obtain rfl : k = M := by omega
      go_wp2_with fail
      go_ret
      exact ⟨rfl, B3.out⟩
theorem next_nil {c : Cz} (h : c.next = []) : (Cir.nat c).next = [] := by unfold Cir.nat; rw [h]; rfl
theorem table_ok {c : Cz} {l : Int} (h : Cir.valid c = true ∧ c.next = [] ∧ Cir.isLit l (Cir.vars c) = true) : ∃ (d : Ci) (m : Nat), c = Cir.toCz d ∧ l = (m : Int) ∧ Cir.Ok d ∧ d.next = [] ∧ m < 2 * Cir.nvars d ∧ Cir.tabI c l = (Cir.tab d m (2 ^ d.ins) : Nat) := by
  obtain ⟨h1, h2⟩ := Cir.nat_ok h.1
  have h3 := h.2.2
  unfold Cir.isLit at h3
  rw [decide_eq_true_eq] at h3
  have h4 : Cir.vars c = (Cir.nvars (Cir.nat c) : Nat) := by
    rw [← Cir.vars_toCz, ← h1]
  exact ⟨Cir.nat c, l.toNat, h1, by omega, h2, next_nil h.2.1, by omega, by unfold Cir.tabI; rw [if_pos h]⟩
theorem table_no {c : Cz} {l : Int} (h : ¬ (Cir.valid c = true ∧ c.next = [] ∧ Cir.isLit l (Cir.vars c) = true)) : (Cir.valid c = false ∨ (Cir.valid c = true ∧ 0 < c.next.length) ∨ (Cir.valid c = true ∧ c.next.length = 0 ∧ Cir.isLit l (Cir.vars c) = false)) ∧ Cir.tabI c l = -1 := by
  refine ⟨?_, by unfold Cir.tabI; rw [if_neg h]⟩
  cases hv : Cir.valid c
  · exact .inl rfl
  · by_cases hn : c.next = []
    · refine .inr (.inr ⟨rfl, by rw [hn]; rfl, ?_⟩)
      cases hl : Cir.isLit l (Cir.vars c)
      · rfl
      · exact absurd ⟨hv, hn, hl⟩ h
    · exact .inr (.inl ⟨rfl, List.length_pos_iff.2 hn⟩)
theorem implTable_any (v : Value) (c : Cz) (l : Int) (w : World) (h : CircAt w v c) :
    Calls Try.prog 29 #[v, .int .i64 l] w fun e w' => e = .returned (.int .i64 (Cir.tabI c l)) ∧ Below w.heap.size w w' := by
  by_cases hc : Cir.valid c = true ∧ c.next = [] ∧ Cir.isLit l (Cir.vars c) = true
  · obtain ⟨d, m, rfl, rfl, hd, hn, hm, he⟩ := table_ok hc
    rw [he]
    exact implTable_ok v d m w h hd hc.1 hn hm
  · obtain ⟨h1, he⟩ := table_no hc
    rw [he]
    exact implTable_no v c l w h h1
end Go.Proofs.Ytlbfejdbfhgifaa

namespace Go.Proofs.Ytlbfejdbfhgifaa
open Go.RowKit
set_option maxRecDepth 100000
/-! Ternary simulation: the small functions. -/
theorem tlit_of {v : List Nat} {l x : Nat} (h : v[l / 2]? = some x) : Cir.tlit v l = if x = 2 ∨ l % 2 = 0 then x else 1 - x := by
  unfold Cir.tlit
  rw [List.getD_eq_getElem?_getD, h]
  rfl
theorem l27And_any (a b : Nat) (w : World) (ha : a ≤ 2) (hb : b ≤ 2) :
    Calls Try.prog 100 #[.int .i64 a, .int .i64 b] w fun e w' => e = .returned (.int .i64 (Cir.tand a b : Nat)) ∧ w = w' := by
  obtain rfl | rfl | rfl : a = 0 ∨ a = 1 ∨ a = 2 := by omega
  all_goals
    obtain rfl | rfl | rfl : b = 0 ∨ b = 1 ∨ b = 2 := by omega
    all_goals
      go_enter Try.func100, Try.ntmps100
      go_wp2
      go_ret
      exact ⟨rfl, rfl⟩
theorem l27Lit_any (v : Value) (xs : List Nat) (l : Nat) (w : World) (h : NatsAt w v xs) (hl : l < 2 * xs.length) (hb : l ≤ 1000000) (h2 : ∀ x ∈ xs, x ≤ 2) :
    Calls Try.prog 44 #[v, .int .i64 l] w fun e w' => e = .returned (.int .i64 (Cir.tlit xs l : Nat)) ∧ w = w' := by
  obtain ⟨A, c, hv, hc, hcm⟩ := Row.shape h
  rw [nats_length] at hv hc
  subst hv
  have hi : l / 2 < xs.length := by omega
  have h' : Row w 1 (.slice A xs.length c) xs.length (ints (nats xs)) := by have := h; unfold NatsAt IntsAt at this; rwa [nats_length] at this
  obtain ⟨b, o, x, rfl, hbl, hx, hs⟩ := nats_cell h' rfl hi
  have hx2 := h2 x (List.mem_of_getElem? hx.out)
  have HL := Lib.hid (tlit_of hx.out)
  have hq : (l : Int).tdiv 2 = ((l / 2 : Nat) : Int) := by rw [Int.tdiv_eq_ediv_of_nonneg (by omega)]; omega
  have hm : (l : Int).tmod 2 = ((l % 2 : Nat) : Int) := by rw [Int.tmod_eq_emod_of_nonneg (by omega)]; omega
  have hqb : l / 2 ≤ 1000000 := by omega
  have hr2 : l % 2 = 0 ∨ l % 2 = 1 := by omega
  rw [HL.out]
  generalize l / 2 = q at *
  generalize l % 2 = r at *
  have hwr : IntKind.i64.wrap (q : Int) = q := IntWalk.i64_in _ (by omega)
  clear h h' h2 hx HL hl
  obtain rfl | rfl | rfl : x = 0 ∨ x = 1 ∨ x = 2 := by omega
  all_goals
    rcases hr2 with rfl | rfl
    all_goals
      go_enter Try.func44, Try.ntmps44
      go_wp2
      go_ret
      exact ⟨rfl, rfl⟩
theorem ternaryLit_any (v : Value) (xs : List Nat) (l : Nat) (w : World) (h : NatsAt w v xs) (hl : l < 2 * xs.length) (hb : l ≤ 1000000) (h2 : ∀ x ∈ xs, x ≤ 2) :
    Calls Try.prog 54 #[v, .int .i64 l] w fun e w' => e = .returned (.int .i64 (Cir.tlit xs l : Nat)) ∧ w = w' := by
  obtain ⟨A, c, hv, hc, hcm⟩ := Row.shape h
  rw [nats_length] at hv hc
  subst hv
  have hi : l / 2 < xs.length := by omega
  have h' : Row w 1 (.slice A xs.length c) xs.length (ints (nats xs)) := by have := h; unfold NatsAt IntsAt at this; rwa [nats_length] at this
  obtain ⟨b, o, x, rfl, hbl, hx, hs⟩ := nats_cell h' rfl hi
  have hx2 := h2 x (List.mem_of_getElem? hx.out)
  have HL := Lib.hid (tlit_of hx.out)
  have hq : (l : Int).tdiv 2 = ((l / 2 : Nat) : Int) := by rw [Int.tdiv_eq_ediv_of_nonneg (by omega)]; omega
  have hm : bits .and .i64 (l : Int) 1 = ((l % 2 : Nat) : Int) := by
    have := i64_and_nat l 1 (by omega) (by omega)
    rw [Nat.and_one_is_mod] at this
    exact this
  have hqb : l / 2 ≤ 1000000 := by omega
  have hr2 : l % 2 = 0 ∨ l % 2 = 1 := by omega
  rw [HL.out]
  generalize l / 2 = q at *
  generalize l % 2 = r at *
  have hwr : IntKind.i64.wrap (q : Int) = q := IntWalk.i64_in _ (by omega)
  clear h h' h2 hx HL hl
  obtain rfl | rfl | rfl : x = 0 ∨ x = 1 ∨ x = 2 := by omega
  all_goals
    rcases hr2 with rfl | rfl
    all_goals
      go_enter Try.func54, Try.ntmps54
      go_wp2
      go_ret
      exact ⟨rfl, rfl⟩
def Cir.tern (x : Int) : Bool := decide (0 ≤ x ∧ x ≤ 2)
theorem all_dropT {p : Int → Bool} {l : List Int} {k : Nat} {x : Int} (h : l[k]? = some x) : (l.drop k).all p = (p x && (l.drop (k + 1)).all p) := all_drop h
theorem l27Ok_any (v : Value) (xs : List Int) (n : Int) (w : World) (h : IntsAt w v xs) :
    Calls Try.prog 99 #[v, .int .i64 n] w fun e w' => e = .returned (.bool (xs.all Cir.tern && decide ((xs.length : Int) = n))) ∧ w = w' := by
  obtain ⟨A, c, hv, hc, hcm⟩ := h.shape
  subst hv
  unfold maxLen at hcm
  have h0 : Hid ((xs.all Cir.tern && decide ((xs.length : Int) = n)) = ((xs.drop 0).all Cir.tern && decide ((xs.length : Int) = n))) := Lib.hid rfl
  have HI : Hid (∀ x : Int, decide (0 ≤ x ∧ x ≤ 2) = Cir.tern x) := Lib.hid fun _ => rfl
  generalize (xs.all Cir.tern && decide ((xs.length : Int) = n)) = res at h0 ⊢
  go_enter Try.func99, Try.ntmps99
  go_wp2_with fail
  go_loop [5] (fun i => ∃ k : Nat, k ≤ xs.length ∧ i = .int .i64 k ∧ Hid (res = ((xs.drop k).all Cir.tern && decide ((xs.length : Int) = n)))) (fun i => xs.length - (intOf i).toNat)
  case atStart => exact ⟨0, Nat.zero_le _, rfl, h0⟩
  case round =>
    obtain ⟨k, hk, rfl, hres⟩ := hrel
    by_cases hlt : k < xs.length
    · obtain ⟨b, o, x, rfl, hbl, hx, hs1⟩ := ints_open h (Below.refl _ _) rfl hlt
      have Hstep := Lib.hid (all_dropT (p := Cir.tern) hx.out)
      clear h h0
      cases h1 : Cir.tern x
      · have H1 := Lib.hid h1
        obtain rfl : res = false := by rw [hres.out, Hstep.out, h1]; rfl
        clear h1
        go_wp2_with fail
        refine (l1In_any _ _ _ _).mono ?_
        rintro e w' ⟨rfl, rfl⟩
        rw [HI.out, H1.out]
        go_wp2_with fail
        go_ret
        exact ⟨rfl, rfl⟩
      · have H1 := Lib.hid h1
        have Hn : Hid (res = ((xs.drop (k + 1)).all Cir.tern && decide ((xs.length : Int) = n))) := Lib.hid (by rw [hres.out, Hstep.out, h1]; rfl)
        clear h1
        go_wp2_with fail
        refine (l1In_any _ _ _ _).mono ?_
        rintro e w' ⟨rfl, rfl⟩
        rw [HI.out, H1.out]
        go_wp2_with fail
        go_round
        case rel => exact ⟨k + 1, by omega, by go_num, Hn⟩
        case measure => simp [intOf] <;> omega
    · have hr : res = decide ((xs.length : Int) = n) := by rw [hres.out, List.drop_eq_nil_of_le (by omega : xs.length ≤ k)]; rfl
      go_wp2_with fail
      go_ret
      refine ⟨ret_bool ?_, rfl⟩
      first
        | (rw [hr, Bool.eq_iff_iff]; simp)
        | (rw [Bool.eq_iff_iff]; simp)
end Go.Proofs.Ytlbfejdbfhgifaa

namespace Go.Proofs.Ytlbfejdbfhgifaa
open Go.RowKit
set_option maxRecDepth 100000
/-! Ternary simulation: the values of all variables, by the program. -/
theorem tlit_append {A B : List Nat} {l : Nat} (h : l / 2 < A.length) : Cir.tlit (A ++ B) l = Cir.tlit A l := by
  unfold Cir.tlit
  rw [List.getD_eq_getElem?_getD, List.getD_eq_getElem?_getD, List.getElem?_append_left h]
set_option maxHeartbeats 8000000 in
theorem evalTernary_any (g : Nat) (d : Ci) (vs vi : Value) (st inp : List Nat) (w : World) (h : PCirc w g (Cir.toCz d)) (hd : Cir.Ok d) (hs : NatsAt w vs st) (hi : NatsAt w vi inp) (h1 : inp.length = d.ins) (h2 : st.length = d.next.length) (t1 : ∀ x ∈ st, x ≤ 2) (t2 : ∀ x ∈ inp, x ≤ 2) :
    Calls Try.prog 51 #[.pointer (some ⟨g, 0, none⟩), vs, vi] w (OwnInts (nats (Cir.tvals d st inp)) w) := by
  have s1 := hd.ins
  have s2 := hd.nexts
  have s3 := hd.gatess
  have HGt := Lib.hid hd.gate
  have hnl : (Cir.toCz d).next.length = d.next.length := List.length_map _
  have hgl : (Cir.toCz d).gates.length = d.gates.length := List.length_map _
  obtain ⟨n, hn⟩ : ∃ n, n = Cir.nvars d := ⟨_, rfl⟩
  have hnd : n = 1 + d.ins + d.next.length + d.gates.length := hn
  have HV := vars_any g _ w h (by show (0 : Int) ≤ (d.ins : Int); omega) (by show (d.ins : Int) ≤ 100; omega) (by omega) (by omega)
  rw [Cir.vars_toCz, ← hn] at HV
  have Hv := Lib.hid HV
  have Hs := Lib.hid hs
  have Hi := Lib.hid hi
  have Hp := Lib.hid h
  have T1 := Lib.hid t1
  have T2 := Lib.hid t2
  clear t1 t2
  obtain ⟨As, cs, hvs, hcs, hcms⟩ := Row.shape hs
  obtain ⟨Ai, ci, hvi, hci, hcmi⟩ := Row.shape hi
  subst hvs hvi
  have hmk := run_make_row' (P := Try.prog) 22 3 (.int .i64 0) 8 Try.underlying22 info_int rfl .i64 .i64 n (by omega) (by omega)
  obtain ⟨m, hm⟩ : ∃ m, m = n := ⟨_, rfl⟩
  have Hnd : Hid (m = 1 + d.ins + d.next.length + d.gates.length) := Lib.hid (hm.trans hnd)
  have b1 : 1 ≤ n := by omega
  have b2 : n ≤ 22 := by omega
  have b3 : 1 + d.ins ≤ n := by omega
  have b4 : 1 + d.ins + d.next.length ≤ n := by omega
  have Hm := Lib.hid hm
  have HB3 : Hid (1 + d.ins + d.next.length ≤ m) := Lib.hid (by omega)
  rw [nats_length inp, h1] at hci Hi ⊢
  rw [nats_length st, h2] at hcs Hs ⊢
  have H1 := Lib.hid h1
  have H2 := Lib.hid h2
  have hww : IntKind.i64.wrap (1 + (d.ins : Int)) = 1 + d.ins := IntWalk.i64_in _ (by omega)
  obtain ⟨vn, vg, vo, hg, c0, c1, c2, c3, r1, r2, r3⟩ := Hp.out
  have C0 : Hid (w.cell? ⟨g, 0, none⟩ = some (.int .i64 d.ins)) := Lib.hid c0
  obtain ⟨Ag, cg, hvg, hcg, hcmg⟩ := Row.shape r2
  rw [hgl] at hvg
  subst hvg
  rw [hgl] at hcg
  have C2 := Lib.hid c2
  have R2 : Hid (Row w 2 (.slice Ag d.gates.length cg) d.gates.length (cubes (Cir.toCz d).gates)) := Lib.hid (by have := r2; unfold CubesAt at this; rwa [hgl] at this)
  have Hgl := Lib.hid hgl
  have SZ : (Try.prog.info? 3).map (·.size) = some 1 := by
    have := info_int
    cases hi : Try.prog.info? 3 with
    | none => rw [hi] at this; cases this
    | some i => rw [hi] at this; simp at this; simp [this]
  clear r1 r2 r3 c0 c1 c2 c3
  clear HV h hs hi hnl hgl hn hnd h1 h2 hm hd
  go_enter Try.func51, Try.ntmps51
  go_wp2_with fail
  refine Hv.out.mono ?_
  rintro e w1 ⟨rfl, hb1⟩
  have hZ : Hid ((w1.alloc (.cells (madeCells #[Value.int .i64 0] n) 3)).heap[w1.heap.size]? = some (.cells (nints (List.replicate m 0)).toArray 3 (0, 0))) := Lib.hid (by
    rw [heap_alloc_new, made_one, Hm.out]
    rw [nints_rep])
  have B1 : Hid (Below w.heap.size w (w1.alloc (.cells (madeCells #[Value.int .i64 0] n) 3))) := Lib.hid (hb1.alloc hb1.size _)
  have hz1 := hb1.size
  have c0 : (w1.alloc (.cells (madeCells #[Value.int .i64 0] n) 3)).cell? ⟨g, 0, none⟩ = some (.int .i64 d.ins) := (B1.out.cell (p := ⟨g, 0, none⟩) hg).trans C0.out
  generalize hW2 : w1.alloc (.cells (madeCells #[Value.int .i64 0] n) 3) = W2 at *
  clear hb1 Hv
  go_wp2_with (refine stop_slice _ _ _ _ _ rfl ?_)
  refine ⟨?_⟩
  clear hmk
  have hcase : (n = 1 ∧ n = 1 + d.ins) ∨ (n ≠ 1 ∧ n = 1 + d.ins) ∨ (n ≠ 1 ∧ n ≠ 1 + d.ins) := by omega
  have hcase2 : ∃ p q : Prop, Hid ((p → n = 1) ∧ (¬ p → n ≠ 1) ∧ (q → n = 1 + d.ins) ∧ (¬ q → n ≠ 1 + d.ins)) ∧ (((n = 1) = True ∧ (n = 1 + d.ins) = True ∧ p ∧ q) ∨ ((n = 1) = False ∧ (n = 1 + d.ins) = True ∧ ¬ p ∧ q) ∨ ((n = 1) = False ∧ (n = 1 + d.ins) = False ∧ ¬ p ∧ ¬ q)) := by
    refine ⟨n = 1, n = 1 + d.ins, Lib.hid ⟨id, id, id, id⟩, ?_⟩
    rcases hcase with ⟨h, h'⟩ | ⟨h, h'⟩ | ⟨h, h'⟩
    · exact .inl ⟨eq_true h, eq_true h', h, h'⟩
    · exact .inr (.inl ⟨eq_false h, eq_true h', h, h'⟩)
    · exact .inr (.inr ⟨eq_false h, eq_false h', h, h'⟩)
  clear hcase
  obtain ⟨pp, qq, HQ, ⟨hq, hq', hp1, hp2⟩ | ⟨hq, hq', hp1, hp2⟩ | ⟨hq, hq', hp1, hp2⟩⟩ := hcase2
  all_goals have HP := Lib.hid (And.intro hp1 hp2)
  all_goals clear hp1 hp2
  all_goals go_wp2_with (first
    | (refine wpList_copy_splice rfl (.tmp 17) (.tmp 18) 22 22 rfl 3 Try.underlying22 SZ _ _ _ _ _ _ rfl rfl w1.heap.size 1 (nints (List.replicate m 0)) 3 hZ.out (nints inp) ?_ ?_ ?_ (nints_one _) w.heap.size w B1.out hz1 ?_
       · have hb3 := HB3.out; have hmn := Hm.out; obtain ⟨q1, q2, q3, q4⟩ := HQ.out; obtain ⟨r1, r2⟩ := HP.out; simp only [r1, r2, not_true_eq_false, not_false_eq_true, true_implies, false_implies] at q1 q2 q3 q4; rw [nints_length, H1.out]; show d.ins = min _ _; omega
       · intro hp
         have hb3 := HB3.out
         have hmn := Hm.out
         obtain ⟨q1, q2, q3, q4⟩ := HQ.out
         obtain ⟨r1, r2⟩ := HP.out
         simp only [r1, r2, not_true_eq_false, not_false_eq_true, true_implies, false_implies] at q1 q2 q3 q4
         rw [nints_length, H1.out] at hp
         first
           | (exfalso; omega)
           | (refine ⟨by first | rfl | exact if_neg q2, ?_⟩
              obtain ⟨b, o, c', hv, _, _, _, hcell⟩ := Row.open (Row.below Hi.out B1.out) (by rw [nats_length, H1.out]; exact hp)
              injection hv with hv1 hv2 hv3
              refine ⟨⟨b, o, none⟩, hv1, fun j u hu => ?_⟩
              rw [Go.WideShapes.add_plain]
              exact hcell j u hu)
       · rw [nints_length, nints_length, H1.out, List.length_replicate, Hnd.out]; omega
       intro w5 HG5 hB5; have HB5 := Lib.hid hB5; have c5 := (hB5.cell (p := ⟨g, 0, none⟩) hg).trans C0.out; clear hB5 c0)
    | (refine wpList_copy_splice rfl (.tmp 26) (.tmp 27) 22 22 rfl 3 Try.underlying22 SZ _ _ _ _ _ _ rfl rfl w1.heap.size (1 + d.ins) (splice (nints (List.replicate m 0)) 1 (nints inp)) 3 HG5.out (nints st) ?_ ?_ ?_ (nints_one _) w.heap.size w HB5.out hz1 ?_
       · have hb3 := HB3.out; have hmn := Hm.out; obtain ⟨q1, q2, q3, q4⟩ := HQ.out; obtain ⟨r1, r2⟩ := HP.out; simp only [r1, r2, not_true_eq_false, not_false_eq_true, true_implies, false_implies] at q1 q2 q3 q4; rw [nints_length, H2.out]; show d.next.length = min _ _; omega
       · intro hp
         have hb3 := HB3.out
         have hmn := Hm.out
         obtain ⟨q1, q2, q3, q4⟩ := HQ.out
         obtain ⟨r1, r2⟩ := HP.out
         simp only [r1, r2, not_true_eq_false, not_false_eq_true, true_implies, false_implies] at q1 q2 q3 q4
         rw [nints_length, H2.out] at hp
         first
           | (exfalso; omega)
           | (refine ⟨by first | rfl | exact if_neg q4, ?_⟩
              obtain ⟨b, o, c', hv, _, _, _, hcell⟩ := Row.open (Row.below Hs.out HB5.out) (by rw [nats_length, H2.out]; exact hp)
              injection hv with hv1 hv2 hv3
              refine ⟨⟨b, o, none⟩, hv1, fun j u hu => ?_⟩
              rw [Go.WideShapes.add_plain]
              exact hcell j u hu)
       · rw [length_splice _ _ _ (by rw [nints_length, nints_length, H1.out, List.length_replicate, Hnd.out]; omega), nints_length, nints_length, H2.out, List.length_replicate, Hnd.out]; omega
       intro w6 HG6 hB6; have HB6 := Lib.hid hB6; have c6 := (hB6.cell (p := ⟨g, 2, none⟩) hg).trans C2.out; clear hB6 c5 HB5 HG5))
  all_goals
    have hmm := Hm.out
    subst hmm
    have hm22 := b2
    have hnf : Cir.nfirst d ≤ 8 := by unfold Cir.nfirst; omega
    have Hnf : Hid (m = Cir.nfirst d + d.gates.length) := Lib.hid (by rw [Hnd.out]; unfold Cir.nfirst; omega)
    have HE : Hid (∀ k, k ≤ d.gates.length → (Cir.tevalG (d.gates.take k) (0 :: (inp ++ st))).length = Cir.nfirst d + k) := Lib.hid fun k hk => by
      rw [Cir.tevalG_length]
      simp [Cir.nfirst, H1.out, H2.out]
      omega
    have Ho0 : Hid (w6.ownsRow w.heap.size 3 1 (.slice (some ⟨w1.heap.size, 0, none⟩) m m) m (nints (Cir.tevalG (d.gates.take 0) (0 :: (inp ++ st)) ++ List.replicate (d.gates.length - 0) 0))) := Lib.hid (by
      have e0 : Cir.tevalG (d.gates.take 0) (0 :: (inp ++ st)) = 0 :: (inp ++ st) := rfl
      have hb3 := HB3.out
      have hnd := Hnd.out
      have h1 := H1.out
      have h2 := H2.out
      have e1 : nints (List.replicate m 0) = List.replicate m (Value.int .i64 0) := nints_rep m
      have e2 : splice (splice (nints (List.replicate m 0)) 1 (nints inp)) (1 + d.ins) (nints st) = nints (0 :: (inp ++ st) ++ List.replicate (d.gates.length - 0) 0) := by
        rw [e1, splice_two (nints inp) (nints st) (.int .i64 0) m (1 + d.ins) (by rw [nints_length, h1]) (by rw [nints_length, nints_length, h1, h2]; omega), nints_length, nints_length, h1, h2, show m - (1 + d.ins + d.next.length) = d.gates.length - 0 by omega]
        simp [nints, ints, nats]
      rw [e0, ← e2]
      refine own_of_block hz1 HG6.out ?_ (by unfold maxLen; omega)
      rw [e2, nints_length]
      simp [h1, h2]
      omega)
    have HT : Hid (∀ k, ∀ x ∈ Cir.tevalG (d.gates.take k) (0 :: (inp ++ st)), x ≤ 2) := Lib.hid fun k => Cir.tevalG_le _ fun x hx => by
      rcases List.mem_cons.1 hx with rfl | hx
      · omega
      · rcases List.mem_append.1 hx with h | h
        · exact T2.out x h
        · exact T1.out x h
    have HV : Hid (Cir.tevalG (d.gates.take d.gates.length) (0 :: (inp ++ st)) = Cir.tvals d st inp) := Lib.hid (by rw [List.take_length]; rfl)
    have HPf : Hid (∀ w', Below w.heap.size w w' → Calls Try.prog 104 #[.pointer (some ⟨g, 0, none⟩)] w' fun e w'' => e = .returned (.int .i64 (Cir.nfirst d : Nat)) ∧ Below w'.heap.size w' w'') := Lib.hid fun w' hb => by
      have := firstGate_any g _ w' (Hp.out.below hb) (by show (0 : Int) ≤ (d.ins : Int); omega) (by show (d.ins : Int) ≤ 100; omega) (by show (List.map _ _).length ≤ 100; rw [List.length_map]; omega)
      rwa [Cir.first_toCz] at this
    generalize Cir.tvals d st inp = res at *
    generalize Cir.nfirst d = nf at *
    generalize hI0 : (0 :: (inp ++ st)) = I0 at *
    clear hq hq' HQ HP c6 C0 C2 hww HB3 Hnd Hm hZ HG6 H1 H2 B1 Hs Hi Hp
    go_loopw [34] (fun i wr => ∃ k : Nat, k ≤ d.gates.length ∧ i = .int .i64 k ∧ Hid (wr.ownsRow w.heap.size 3 1 (.slice (some ⟨w1.heap.size, 0, none⟩) m m) m (nints (Cir.tevalG (d.gates.take k) I0 ++ List.replicate (d.gates.length - k) 0))) ∧ Below w.heap.size w wr) (fun i _ => d.gates.length - (intOf i).toNat)
    case atStart => exact ⟨0, Nat.zero_le _, rfl, Ho0, HB6.out⟩
    case round =>
      obtain ⟨k, hk, rfl, Ho, hb⟩ := hrel
      clear Ho0 HB6
      by_cases hlt : k < d.gates.length
      · obtain ⟨b, o, x, rfl, hbl, hx, hs1, hs2⟩ := cubes_open R2.out hb Hgl.out.symm (i := k) (by rw [Hgl.out]; exact hlt)
        obtain ⟨gt, hgt⟩ := at_some hlt
        have hxe : x = ((gt.1 : Int), (gt.2 : Int)) := by
          have h1 := hx.out
          unfold Cir.toCz at h1
          simp only [List.getElem?_map, hgt] at h1
          exact (Option.some.inj h1).symm
        subst hxe
        obtain ⟨g1, g2⟩ := HGt.out k gt hgt
        have hEk := HE.out k (by omega)
        have hTk := HT.out k
        have HS := Lib.hid (Cir.tevalG_take_snoc hgt I0)
        have hgv : Cir.tgval (Cir.tevalG (d.gates.take k) I0) gt = Cir.tand (Cir.tlit (Cir.tevalG (d.gates.take k) I0) gt.1) (Cir.tlit (Cir.tevalG (d.gates.take k) I0) gt.2) := rfl
        rw [hgv] at HS
        clear hgv hx hgt
        obtain ⟨E2, hE2⟩ : ∃ E2, Cir.tevalG (d.gates.take (k + 1)) I0 = E2 := ⟨_, rfl⟩
        rw [hE2] at HS
        have HE2 := Lib.hid hE2
        clear hE2
        generalize Cir.tevalG (d.gates.take k) I0 = E at *
        have Hb := Lib.hid hb
        have hz := hb.size
        have hlen : (E ++ List.replicate (d.gates.length - k) 0).length = m := by
          have := Hnf.out
          simp [hEk]
          omega
        have HL := Lib.hid hlen
        have HT0 : Hid (∀ x ∈ E ++ List.replicate (d.gates.length - k) 0, x ≤ 2) := Lib.hid fun x hx => by
          rcases List.mem_append.1 hx with h | h
          · exact hTk x h
          · rw [(List.mem_replicate.1 h).2]; omega
        have hmnf := Hnf.out
        have hkm : nf + k < m := by omega
        have HSet : ∀ u : Nat, Hid ((nints (E ++ List.replicate (d.gates.length - k) 0)).set (nf + k) (.int .i64 (u : Nat)) = nints (E ++ [u] ++ List.replicate (d.gates.length - (k + 1)) 0)) := fun u => Lib.hid (by
          have e : ∀ xs : List Nat, nints xs = xs.map fun x => Value.int .i64 (x : Nat) := fun xs => by unfold nints ints nats; rw [List.map_map]; rfl
          rw [e, e, show d.gates.length - (k + 1) = d.gates.length - k - 1 from by omega, ← set_mid_at E 0 u (d.gates.length - k) (nf + k) hEk.symm (by omega), List.map_set])
        have HA : Hid (∀ G, G < 2 * (nf + k) → Cir.tlit (E ++ List.replicate (d.gates.length - k) 0) G = Cir.tlit E G) := Lib.hid fun G hG => tlit_append (by omega)
        have hl1 := Cir.tlit_le hTk gt.1
        have hl2 := Cir.tlit_le hTk gt.2
        obtain ⟨G1, hG1⟩ : ∃ G1, G1 = gt.1 := ⟨_, rfl⟩
        obtain ⟨G2, hG2⟩ : ∃ G2, G2 = gt.2 := ⟨_, rfl⟩
        rw [← hG1] at g1 HS hs1 hl1
        rw [← hG2] at g2 HS hs2 hl2
        have hwk : IntKind.i64.wrap ((nf : Int) + (k : Int)) = (nf : Int) + (k : Int) := IntWalk.i64_in _ (by omega)
        have hix : ((nf : Int) + (k : Int)).toNat = nf + k := by omega
        obtain ⟨W8, hW8⟩ : ∃ W8, W8 = wr.alloc (.cells #[.int .i64 (G1 : Nat), .int .i64 (G2 : Nat)] 55) := ⟨_, rfl⟩
        have z8 : wr.heap.size < W8.heap.size := by rw [hW8]; simp
        have q0 : W8.cell? ⟨wr.heap.size, 0, none⟩ = some (.int .i64 (G1 : Nat)) := by rw [hW8]; exact World.cell?_alloc_new _ _ _ 0
        have q1 : W8.cell? ⟨wr.heap.size, 1, none⟩ = some (.int .i64 (G2 : Nat)) := by rw [hW8]; exact World.cell?_alloc_new _ _ _ 1
        have HB8 : Hid (Below w.heap.size w W8) := Lib.hid (by rw [hW8]; exact Hb.out.alloc hz _)
        have Ho8 := Lib.hid (own_below Ho.out (show Below wr.heap.size wr W8 by rw [hW8]; exact (Below.refl _ _).alloc (Nat.le_refl _) _))
        have k0 := gw_cell q0 z8
        have k1 := gw_cell q1 z8
        have HC : Hid (∀ (G : Nat) (n : GW W8), G < 2 * (nf + k) → Calls Try.prog 54 #[.slice (some ⟨w1.heap.size, 0, none⟩) m m, .int .i64 (G : Nat)] (gw n) fun e w' => e = .returned (.int .i64 (Cir.tlit E G : Nat)) ∧ gw n = w') := Lib.hid fun G n hG => by
          have := ternaryLit_any (.slice (some ⟨w1.heap.size, 0, none⟩) m m) _ G (gw n) (nats_own (own_below Ho8.out (gw_below n)) HL.out) (by rw [HL.out]; omega) (by omega) HT0.out
          rwa [HA.out G hG] at this
        have hW8' := hW8.symm
        clear hb hG1 hG2 hEk hlen hmnf hTk hW8 q0 q1
        go_wp2_with fail
        refine wp_region_grow (by kernel_rfl) (by kernel_rfl) ?_
        repeat (go_big_quiet_step ((go_at_call 54; exact grow_same (HC.out _ _ (by assumption)))))
        refine wpQuiet_nil ?_
        intro _ hw'
        obtain ⟨nq, hw''⟩ := hw'
        subst hw''
        have hgq := gw_below nq
        generalize gw nq = wq at *
        clear nq
        generalize Cir.tlit E G1 = A1 at *
        generalize Cir.tlit E G2 = A2 at *
        have HB9 := Lib.hid (HB8.out.trans (hgq.mono HB8.out.size))
        have Ho9 := Lib.hid (own_below Ho8.out hgq)
        clear hgq k0 k1 HC hW8' z8
        obtain ⟨u, hu⟩ : ∃ u, u = Cir.tand A1 A2 := ⟨_, rfl⟩
        rw [← hu] at HS
        have HU := Lib.hid hu
        clear hu
        have HPw := Lib.hid (HPf.out _ HB9.out)
        have h9z := HB9.out.size
        clear HPf
        obtain rfl | rfl | rfl : A1 = 0 ∨ A1 = 1 ∨ A1 = 2 := by omega
        all_goals
          obtain rfl | rfl | rfl : A2 = 0 ∨ A2 = 1 ∨ A2 = 2 := by omega
          all_goals
            go_wp2_with fail
            refine HPw.out.mono ?_
            rintro e w9 ⟨rfl, hb9⟩
            have HbA := Lib.hid (HB9.out.trans (hb9.mono h9z))
            have HoA := Lib.hid (own_below Ho9.out hb9)
            obtain ⟨u0, _, hd0, hf0⟩ := own_slot HoA.out (j := nf + k) (by omega)
            have Hst := fun u : Nat => Lib.hid (HoA.out.stored (nf + k) (.int .i64 (u : Nat)))
            have HEe : Hid (nints (E2 ++ List.replicate (d.gates.length - (k + 1)) 0) = nints (E ++ [u] ++ List.replicate (d.gates.length - (k + 1)) 0)) := Lib.hid (by rw [HS.out])
            have huu := HU.out
            unfold Cir.tand at huu
            simp at huu
            subst huu
            clear hb9
            go_wp2_with fail
            go_roundw
            case rel => exact ⟨k + 1, by omega, by go_num, Lib.hid (by rw [HE2.out, HEe.out, ← (HSet _).out]; exact (Hst _).out.1), HbA.out.grown (Hst _).out.2 HbA.out.size (fun q hq => by have := Option.some.inj hq; omega)⟩
            case measure => simp [intOf] <;> omega
      · obtain rfl : k = d.gates.length := by omega
        have HR : Hid (res.length = m ∧ nints (Cir.tevalG (d.gates.take d.gates.length) I0 ++ List.replicate (d.gates.length - d.gates.length) 0) = nints res) := Lib.hid ⟨by rw [← HV.out, HE.out _ (Nat.le_refl _), Hnf.out], by rw [HV.out, Nat.sub_self]; simp⟩
        go_wp2_with fail
        go_ret
        refine ⟨_, rfl, ?_, hb⟩
        rw [nats_length, HR.out.1]
        have := Ho.out
        rw [HR.out.2] at this
        exact this
end Go.Proofs.Ytlbfejdbfhgifaa

namespace Go.Proofs.Ytlbfejdbfhgifaa
open Go.RowKit
set_option maxRecDepth 100000
/-! Values of lists of literals; numbers of bits. -/
theorem lits_snoc {v : List Bool} {ls : List Nat} {k l : Nat} (h : ls[k]? = some l) : Cir.lits v (ls.take (k + 1)) = Cir.lits v (ls.take k) ++ [Cir.lit v l] := by
  unfold Cir.lits
  rw [take_snoc h, List.map_append]
  rfl
theorem lits_length (v : List Bool) (ls : List Nat) : (Cir.lits v ls).length = ls.length := List.length_map _
theorem litValues_any (v vl : Value) (xs : List Bool) (ls : List Nat) (w : World) (h : BoolsAt w v xs) (hl : NatsAt w vl ls) (hlt : ∀ l ∈ ls, l < 2 * xs.length) (hn : ls.length ≤ 1000) (hx : xs.length ≤ 1000) :
    Calls Try.prog 127 #[v, vl] w (OwnBools (Cir.lits xs ls) w) := by
  obtain ⟨A, c, rfl, hc, hcm⟩ := hl.shape
  have hmk := run_make_cap (P := Try.prog) 62 4 (.bool false) 1 1 Try.underlying62 info_bool .i64 .i64 ls.length (by omega) (by omega)
  simp only [Value.cells, Nat.mul_one] at hmk
  have Hl := Lib.hid hl
  have H := Lib.hid h
  have HLt := Lib.hid hlt
  clear hl h hlt
  go_enter Try.func127, Try.ntmps127
  go_wp2_with fail
  have hown0 := World.ownsRow_made (base := w.heap.size) (e := 4) (size := 1) w (madeCells #[Value.bool false] ls.length) ls.length (Nat.le_refl _) (by unfold maxLen; omega) (by simp [madeCells])
  have hb0 : Below w.heap.size w (w.alloc (.cells (madeCells #[Value.bool false] ls.length) 4)) := (Below.refl _ _).alloc (Nat.le_refl _) _
  clear hmk
  go_loopw [5, 13] (fun v i wr => ∃ (vv : Value) (k : Nat), vv = v ∧ k ≤ ls.length ∧ i = .int .i64 k ∧ Hid (wr.ownsRow w.heap.size 4 1 v k (bools (Cir.lits xs (ls.take k)))) ∧ Below w.heap.size w wr) (fun _ i _ => ls.length - (intOf i).toNat)
  case atStart => exact ⟨_, 0, rfl, Nat.zero_le _, rfl, Lib.hid hown0, hb0⟩
  case round =>
    obtain ⟨vv, k, hvv, hk, rfl, Ho, hb⟩ := hrel
    subst hvv
    clear hown0 hb0
    by_cases hlt : k < ls.length
    · have hz := hb.size
      have Hb := Lib.hid hb
      obtain ⟨b, o, l, rfl, hbl, hx0, hs0⟩ := nats_cell (nats_row (Hl.out.below hb)) rfl hlt
      have hl2 := HLt.out l (List.mem_of_getElem? hx0.out)
      have HS : Hid (bools (Cir.lits xs (ls.take (k + 1))) = bools (Cir.lits xs (ls.take k)) ++ [.bool (Cir.lit xs l)]) := Lib.hid (by rw [lits_snoc hx0.out, bools_append]; rfl)
      have Hx := Lib.hid (Row.below H.out hb)
      clear hb
      go_wp2_with fail
      refine (litValue_any _ xs l _ Hx.out hl2 (by omega)).mono ?_
      rintro e w' ⟨rfl, rfl⟩
      generalize Cir.lit xs l = u at *
      have Hlit := Lib.hid (Row.of_own (World.ownsRow_lit (base := wr.heap.size) (e := 4) (size := 1) wr #[.bool u] 1 (Nat.le_refl _) (by unfold maxLen; omega) rfl))
      go_wp2_with (at_builtin; refine append_bools rfl (.tmp 17) (.tmp 21) rfl w.heap.size _ k _ rfl (Ho.out.alloc _) _ 1 [.bool u] rfl Hlit.out (by simp [Value.oneCell']) (by omega) (by simp; omega) ?_; intro v7 w7 hown7 hg7 hat7; have Ho7 := Lib.hid hown7; have Hg7 := Lib.hid hg7; clear hown7 hg7 hat7)
      go_roundw
      case rel => exact ⟨_, k + 1, rfl, by omega, by go_num, Lib.hid (by rw [HS.out]; exact Ho7.out), (Hb.out.alloc hz _).grown Hg7.out (Hb.out.alloc hz _).size (own_ge0 Ho.out)⟩
      case measure => simp [intOf] <;> omega
    · obtain rfl : k = ls.length := by omega
      go_wp2_with fail
      go_ret
      exact ⟨_, rfl, by rw [lits_length]; have := Ho.out; rwa [List.take_length] at this, hb⟩
theorem l2Lits_any (v vl : Value) (xs : List Bool) (ls : List Nat) (w : World) (h : BoolsAt w v xs) (hl : NatsAt w vl ls) (hlt : ∀ l ∈ ls, l < 2 * xs.length) (hn : ls.length ≤ 1000) (hx : xs.length ≤ 1000) :
    Calls Try.prog 98 #[v, vl] w (OwnBools (Cir.lits xs ls) w) := by
  obtain ⟨A, c, rfl, hc, hcm⟩ := hl.shape
  have Hl := Lib.hid hl
  have H := Lib.hid h
  have HLt := Lib.hid hlt
  clear hl h hlt
  go_enter Try.func98, Try.ntmps98
  go_wp2_with fail
  go_loopw [5, 6] (fun v i wr => ∃ (vv : Value) (k : Nat), vv = v ∧ k ≤ ls.length ∧ i = .int .i64 k ∧ Hid (wr.ownsRow w.heap.size 4 1 v k (bools (Cir.lits xs (ls.take k)))) ∧ Below w.heap.size w wr) (fun _ i _ => ls.length - (intOf i).toNat)
  case atStart => exact ⟨_, 0, rfl, Nat.zero_le _, rfl, Lib.hid (World.ownsRow_lit (base := w.heap.size) (e := 4) (size := 1) w #[] 0 (Nat.le_refl _) (by unfold maxLen; omega) rfl), (Below.refl _ _).alloc (Nat.le_refl _) _⟩
  case round =>
    obtain ⟨vv, k, hvv, hk, rfl, Ho, hb⟩ := hrel
    subst hvv
    by_cases hlt : k < ls.length
    · have hz := hb.size
      have Hb := Lib.hid hb
      obtain ⟨b, o, l, rfl, hbl, hx0, hs0⟩ := nats_cell (nats_row (Hl.out.below hb)) rfl hlt
      have hl2 := HLt.out l (List.mem_of_getElem? hx0.out)
      have HS : Hid (bools (Cir.lits xs (ls.take (k + 1))) = bools (Cir.lits xs (ls.take k)) ++ [.bool (Cir.lit xs l)]) := Lib.hid (by rw [lits_snoc hx0.out, bools_append]; rfl)
      have Hx := Lib.hid (Row.below H.out hb)
      clear hb
      go_wp2_with fail
      refine (l2Lit_any _ xs l _ Hx.out hl2 (by omega)).mono ?_
      rintro e w' ⟨rfl, rfl⟩
      generalize Cir.lit xs l = u at *
      have Hlit := Lib.hid (Row.of_own (World.ownsRow_lit (base := wr.heap.size) (e := 4) (size := 1) wr #[.bool u] 1 (Nat.le_refl _) (by unfold maxLen; omega) rfl))
      go_wp2_with (at_builtin; refine append_bools rfl (.tmp 14) (.tmp 21) rfl w.heap.size _ k _ rfl (Ho.out.alloc _) _ 1 [.bool u] rfl Hlit.out (by simp [Value.oneCell']) (by omega) (by simp; omega) ?_; intro v7 w7 hown7 hg7 hat7; have Ho7 := Lib.hid hown7; have Hg7 := Lib.hid hg7; clear hown7 hg7 hat7)
      go_roundw
      case rel => exact ⟨_, k + 1, rfl, by omega, by go_num, Lib.hid (by rw [HS.out]; exact Ho7.out), (Hb.out.alloc hz _).grown Hg7.out (Hb.out.alloc hz _).size (own_ge0 Ho.out)⟩
      case measure => simp [intOf] <;> omega
    · obtain rfl : k = ls.length := by omega
      go_wp2_with fail
      go_ret
      exact ⟨_, rfl, by rw [lits_length]; have := Ho.out; rwa [List.take_length] at this, hb⟩
/-! ### numbers -/
theorem num_append : ∀ (a b : List Bool), Cir.num (a ++ b) = Cir.num a + 2 ^ a.length * Cir.num b
  | [], b => by simp [Cir.num]
  | x :: a, b => by
    rw [List.cons_append, Cir.num, Cir.num, num_append a b, List.length_cons, Nat.pow_succ]
    rw [Nat.mul_add, ← Nat.mul_assoc, Nat.mul_comm 2 (2 ^ a.length)]
    omega
theorem num_snoc (a : List Bool) (b : Bool) : Cir.num (a ++ [b]) = Cir.num a + (if b then 2 ^ a.length else 0) := by
  rw [num_append]
  cases b <;> simp [Cir.num]
theorem num_drop {l : List Bool} {k : Nat} {b : Bool} (h : l[k]? = some b) : Cir.num (l.drop k) = (if b then 1 else 0) + 2 * Cir.num (l.drop (k + 1)) := by
  obtain ⟨hk, rfl⟩ := List.getElem?_eq_some_iff.1 h
  rw [List.drop_eq_getElem_cons hk, Cir.num]
theorem num_or {a : List Bool} : Cir.num a ||| 2 ^ a.length = Cir.num a + 2 ^ a.length := by
  have h := Cir.num_lt a
  rw [Nat.or_comm]
  have := Nat.two_pow_add_eq_or_of_lt h 1
  rw [Nat.mul_one] at this
  omega
theorem number_any (v : Value) (xs : List Bool) (w : World) (h : BoolsAt w v xs) (hx : xs.length ≤ 16) :
    Calls Try.prog 129 #[v] w fun e w' => e = .returned (.int .i64 (Cir.num xs : Nat)) ∧ w = w' := by
  obtain ⟨A, c, hv, hc, hcm⟩ := Row.shape h
  subst hv
  have H := Lib.hid h
  clear h
  go_enter Try.func129, Try.ntmps129
  go_wp2_with fail
  go_loop [3, 8] (fun x i => ∃ (k : Nat), k ≤ xs.length ∧ i = .int .i64 k ∧ x = .int .i64 (Cir.num (xs.take k) : Nat)) (fun _ i => xs.length - (intOf i).toNat)
  case atStart => exact ⟨0, Nat.zero_le _, rfl, rfl⟩
  case round =>
    obtain ⟨k, hk, rfl, rfl⟩ := hrel
    by_cases hlt : k < xs.length
    · obtain ⟨b, o, u, rfl, hbl, hx0, hs0⟩ := bools_open H.out (Below.refl _ _) rfl hlt
      have htl : (xs.take k).length = k := by rw [List.length_take]; omega
      have HS : Hid (Cir.num (xs.take (k + 1)) = Cir.num (xs.take k) + (if u then 2 ^ k else 0)) := Lib.hid (by rw [take_snoc hx0.out, num_snoc, htl])
      have hlt2 : Cir.num (xs.take k) < 65536 := by
        have h1 := Cir.num_lt (xs.take k)
        rw [htl] at h1
        have h2 : 2 ^ k ≤ 2 ^ 16 := Nat.pow_le_pow_right (show 0 < 2 by decide) (by omega)
        omega
      have hor : Cir.num (xs.take k) ||| 2 ^ k = Cir.num (xs.take k) + 2 ^ k := by have := num_or (a := xs.take k); rwa [htl] at this
      have h2 : 2 ^ k ≤ 65536 := by
        have h2 : 2 ^ k ≤ 2 ^ 16 := Nat.pow_le_pow_right (show 0 < 2 by decide) (by omega)
        omega
      have hbor := i64_or_nat (Cir.num (xs.take k)) (2 ^ k) (by omega) (by omega)
      rw [hor] at hbor
      clear hor htl
      obtain ⟨N2, hN2⟩ : ∃ N2, Cir.num (xs.take (k + 1)) = N2 := ⟨_, rfl⟩
      rw [hN2] at HS
      have HN2 := Lib.hid hN2
      clear hN2
      generalize Cir.num (xs.take k) = N at *
      have e2 : (2 : Int) ^ k = ((2 ^ k : Nat) : Int) := two_pow k
      generalize 2 ^ k = M at *
      have hwM := IntWalk.i64_in (M : Int) (by omega)
      cases u
      · go_wp2_with fail
        go_round
        case rel => exact ⟨k + 1, by omega, by go_num, by rw [HN2.out, HS.out]; rfl⟩
        case measure => simp [intOf] <;> omega
      · go_wp2_with fail
        go_round
        case rel => exact ⟨k + 1, by omega, by go_num, by rw [HN2.out, HS.out]; rfl⟩
        case measure => simp [intOf] <;> omega
    · obtain rfl : k = xs.length := by omega
      go_wp2_with fail
      go_ret
      exact ⟨rfl, rfl⟩
end Go.Proofs.Ytlbfejdbfhgifaa

namespace Go.Proofs.Ytlbfejdbfhgifaa
open Go.RowKit
section
variable {S : RS} {Fin : List Ty → Prop} {o : Oper} {l : List Oper} {i : Nat} {τs : List Ty}
/-- A step that leaves the world alone and whose value the simplifier finds. -/
theorem rs_eq (hO : S.Ok) (hid : i ≠ S.d ∨ ∀ ov w, S.J ov w) {c : Value}
    (h : ∀ ρ w, Only S.E S.w0 w → Known S.ops (tys τs) S.a0 ρ w i o.op.operands.toList → (execOp ρ o).run S.P w = .ok (.value c) w)
    (rest : RSeq S Fin l (i + 1) (TEq c :: τs)) : RSeq S Fin (o :: l) i τs :=
  rs_look hO hid (TEq c) (stb_eq _ _) (fun ρ w ho hK => ⟨c, h ρ w ho hK, rfl⟩) rest
end
end Go.Proofs.Ytlbfejdbfhgifaa

namespace Go.Proofs.Ytlbfejdbfhgifaa
open Go.RowKit
set_option maxRecDepth 100000
/-! One clock cycle, by the program. -/
theorem toCz_next (d : Ci) : (Cir.toCz d).next.length = d.next.length := List.length_map _
theorem toCz_outs (d : Ci) : (Cir.toCz d).outs.length = d.outs.length := List.length_map _
theorem toCz_gates (d : Ci) : (Cir.toCz d).gates.length = d.gates.length := List.length_map _
set_option maxHeartbeats 4000000 in
theorem cycle_any (g : Nat) (d : Ci) (s x : Nat) (w : World) (h : PCirc w g (Cir.toCz d)) (hd : Cir.Ok d) (hs : s ≤ 1000) (hx : x ≤ 1000) :
    Calls Try.prog 120 #[.pointer (some ⟨g, 0, none⟩), .int .i64 s, .int .i64 x] w fun e w' => e = .returned (.tuple #[.int .i64 (Cir.nextOf d s x : Nat), .int .i64 (Cir.num (Cir.outsOf d s x) : Nat)]) ∧ Below w.heap.size w w' := by
  have l1 := hd.ins
  have l2 := hd.nexts
  have l3 := hd.outss
  have HN := Lib.hid hd.next
  have HO := Lib.hid hd.out
  have HP := Lib.hid h
  obtain ⟨vn, vg, vo, hg, c0, c1, c2, c3, r1, r2, r3⟩ := h
  obtain ⟨An, cn, rfl, hcn, hcmn⟩ := NatsAt.shape (xs := d.next) r1
  obtain ⟨Ao, co, rfl, hco, hcmo⟩ := NatsAt.shape (xs := d.outs) r3
  have R1 : Hid (NatsAt w (.slice An d.next.length cn) d.next) := Lib.hid r1
  have R3 : Hid (NatsAt w (.slice Ao d.outs.length co) d.outs) := Lib.hid r3
  have C0 : Hid (w.cell? ⟨g, 0, none⟩ = some (.int .i64 d.ins)) := Lib.hid c0
  have C1 := Lib.hid c1
  have C3 := Lib.hid c3
  have HL : Hid ((Cir.vals d (Cir.bits s d.next.length) (Cir.bits x d.ins)).length = Cir.nvars d) := Lib.hid (Cir.vals_length d (Cir.bits_length _ _) (Cir.bits_length _ _))
  have hnv : Cir.nvars d ≤ 22 := by have := hd.gatess; unfold Cir.nvars Cir.nfirst; omega
  have Hd := Lib.hid hd
  clear r1 r2 r3 c0 c1 c2 c3 hd
  go_enter Try.func120, Try.ntmps120
  go_wp2_with fail
  refine wp_region_rs (quietRS Try.prog _ w _) quietRS_ok (by kernel_rfl) (by kernel_rfl) (by kernel_rfl) (Nat.le_of_ble_eq_true rfl) trivial trivial ?_
  refine rs_old quietRS_ok quiet_any _ (.inl rfl) _ rfl rfl ?_
  refine rs_old quietRS_ok quiet_any _ (.inl rfl) _ rfl rfl ?_
  refine rs_old quietRS_ok quiet_any _ (.inl rfl) _ rfl rfl ?_
  apply rs_eq quietRS_ok quiet_any
  · intro ρ w' ho hK
    have ho : Only _ w w' := ho
    obtain ⟨h0, -⟩ := hK
    have h0' : ρ (.tmp 11) = _ := h0
    go_simp
    try exact rfl
  apply rs_eq quietRS_ok quiet_any
  · intro ρ w' ho hK
    have ho : Only _ w w' := ho
    obtain ⟨h0, -⟩ := hK
    have h0' : ρ (.tmp 12) = _ := h0
    go_simp
    try exact rfl
  apply rs_eq quietRS_ok quiet_any
  · intro ρ w' ho hK
    have ho : Only _ w w' := ho
    obtain ⟨h0, -⟩ := hK
    have h0' : ρ (.tmp 13) = _ := h0
    have hb := only_below ho
    have q0 := (hb.cell (p := ⟨g, 0, none⟩) hg).trans C0.out
    have q1 := (hb.cell (p := ⟨g, 1, none⟩) hg).trans C1.out
    go_simp
    try exact rfl
  apply rs_eq quietRS_ok quiet_any
  · intro ρ w' ho hK
    have ho : Only _ w w' := ho
    obtain ⟨h0, -⟩ := hK
    have h0' : ρ (.tmp 14) = _ := h0
    go_simp
    try exact rfl
  refine rs_call quietRS_ok quiet_any (TBools (Cir.bits s d.next.length)) (stb_bools _) 103 _ _ rfl (fun ρ w' ho hK => by
    have ho : Only _ w w' := ho
    obtain ⟨h0, h1, h2, -⟩ := hK
    have h0' : ρ (.func 103) = .func (.func 103) #[] #[] := h0
    have h1' : ρ (.tmp 10) = _ := h1
    have h2' : ρ (.tmp 15) = _ := h2
    refine ⟨#[ρ (.tmp 10), ρ (.tmp 15)], ?_, ?_⟩
    · go_simp
    · rw [h1', h2']
      refine (bitsOf_any s d.next.length w' (by omega) (by omega)).mono ?_
      rintro e w2 ⟨v2, rfl, hO, hb⟩
      exact ⟨v2, rfl, Row.of_own hO, hb⟩) ?_
  refine rs_old quietRS_ok quiet_any _ (.inl rfl) _ rfl rfl ?_
  refine rs_old quietRS_ok quiet_any _ (.inl rfl) _ rfl rfl ?_
  apply rs_eq quietRS_ok quiet_any
  · intro ρ w' ho hK
    have ho : Only _ w w' := ho
    obtain ⟨h0, -⟩ := hK
    have h0' : ρ (.tmp 18) = _ := h0
    go_simp
    try exact rfl
  apply rs_eq quietRS_ok quiet_any
  · intro ρ w' ho hK
    have ho : Only _ w w' := ho
    obtain ⟨h0, -⟩ := hK
    have h0' : ρ (.tmp 19) = _ := h0
    go_simp
    try exact rfl
  apply rs_eq quietRS_ok quiet_any
  · intro ρ w' ho hK
    have ho : Only _ w w' := ho
    obtain ⟨h0, -⟩ := hK
    have h0' : ρ (.tmp 20) = _ := h0
    have hb := only_below ho
    have q0 := (hb.cell (p := ⟨g, 0, none⟩) hg).trans C0.out
    have q1 := (hb.cell (p := ⟨g, 1, none⟩) hg).trans C1.out
    go_simp
    try exact rfl
  refine rs_call quietRS_ok quiet_any (TBools (Cir.bits x d.ins)) (stb_bools _) 103 _ _ rfl (fun ρ w' ho hK => by
    have ho : Only _ w w' := ho
    obtain ⟨h0, h1, h2, -⟩ := hK
    have h0' : ρ (.func 103) = .func (.func 103) #[] #[] := h0
    have h1' : ρ (.tmp 17) = _ := h1
    have h2' : ρ (.tmp 21) = _ := h2
    refine ⟨#[ρ (.tmp 17), ρ (.tmp 21)], ?_, ?_⟩
    · go_simp
    · rw [h1', h2']
      refine (bitsOf_any x d.ins w' (by omega) (by omega)).mono ?_
      rintro e w2 ⟨v2, rfl, hO, hb⟩
      exact ⟨v2, rfl, Row.of_own hO, hb⟩) ?_
  refine rs_call quietRS_ok quiet_any (TBools (Cir.vals d (Cir.bits s d.next.length) (Cir.bits x d.ins))) (stb_bools _) 115 _ _ rfl (fun ρ w' ho hK => by
    have ho : Only _ w w' := ho
    obtain ⟨h0, h1, h2, h3, h4, h5, -⟩ := hK
    have h0' : ρ (.func 115) = .func (.func 115) #[] #[] := h0
    have h1' : ρ (.tmp 9) = _ := h1
    have h2' : (TBools (Cir.bits s d.next.length)) w' (ρ (.tmp 16)) := h2
    have h3' : (TBools (Cir.bits x d.ins)) w' (ρ (.tmp 22)) := h3
    have h4' : ρ (.const (Value.int IntKind.i64 (-1))) = (Value.int IntKind.i64 (-1)) := h4
    have h5' : ρ (.const (Value.bool false)) = (Value.bool false) := h5
    refine ⟨#[ρ (.tmp 9), ρ (.tmp 16), ρ (.tmp 22), ρ (.const (Value.int IntKind.i64 (-1))), ρ (.const (Value.bool false))], ?_, ?_⟩
    · go_simp
    · rw [h1', h4', h5']
      refine (evaluate_any g d _ _ _ _ w' (HP.out.below (only_below ho)) Hd.out h2' h3' (Cir.bits_length _ _) (Cir.bits_length _ _)).mono ?_
      rintro e w2 ⟨v2, rfl, hO, hb⟩
      exact ⟨v2, rfl, Row.of_own hO, hb⟩) ?_
  refine rs_same quietRS_ok quiet_any 23 14 (.inr rfl) rfl _ rfl ?_
  intro f w9 k9 hk9 hI9 ht9 hcp9
  have E0 : f 0 = _ := ht9 0 (Nat.le_of_ble_eq_true rfl)
  conv at E0 => rhs; whnf
  have E1 : f 1 = _ := ht9 1 (Nat.le_of_ble_eq_true rfl)
  conv at E1 => rhs; whnf
  have E2 : f 2 = _ := ht9 2 (Nat.le_of_ble_eq_true rfl)
  conv at E2 => rhs; whnf
  have E3 : f 3 = _ := ht9 3 (Nat.le_of_ble_eq_true rfl)
  have E4 : f 4 = _ := ht9 4 (Nat.le_of_ble_eq_true rfl)
  have E5 : f 5 = _ := ht9 5 (Nat.le_of_ble_eq_true rfl)
  have E6 : f 6 = _ := ht9 6 (Nat.le_of_ble_eq_true rfl)
  have E7 : (TBools (Cir.bits s d.next.length)) w9 (f 7) := ht9 7 (Nat.le_of_ble_eq_true rfl)
  have E8 : f 8 = _ := ht9 8 (Nat.le_of_ble_eq_true rfl)
  conv at E8 => rhs; whnf
  have E9 : f 9 = _ := ht9 9 (Nat.le_of_ble_eq_true rfl)
  conv at E9 => rhs; whnf
  have E10 : f 10 = _ := ht9 10 (Nat.le_of_ble_eq_true rfl)
  have E11 : f 11 = _ := ht9 11 (Nat.le_of_ble_eq_true rfl)
  have E12 : f 12 = _ := ht9 12 (Nat.le_of_ble_eq_true rfl)
  have E13 : (TBools (Cir.bits x d.ins)) w9 (f 13) := ht9 13 (Nat.le_of_ble_eq_true rfl)
  have E14 : (TBools (Cir.vals d (Cir.bits s d.next.length) (Cir.bits x d.ins))) w9 (f 14) := ht9 14 (Nat.le_of_ble_eq_true rfl)
  have E15 : (TBools (Cir.vals d (Cir.bits s d.next.length) (Cir.bits x d.ins))) w9 (f 15) := ht9 15 (Nat.le_of_ble_eq_true rfl)
  have Ho9 : Only _ w w9 := hI9.2.1
  have C15 : f 15 = f 14 := (hcp9 15 _ 23 14 rfl rfl rfl rfl).2
  simp only [putAll, E0, E1, E2, E3, E4, E5, E6, E8, E9, E10, E11, E12, C15, Nat.zero_add, Nat.reduceAdd, Act.put, List.setIfInBounds_toArray, List.set_cons_succ, List.set_cons_zero]
  clear E0 E1 E2 E3 E4 E5 E6 E8 E9 E10 E11 E12
  clear hI9 ht9 hcp9 hk9
  generalize f 7 = r7 at *
  generalize f 13 = r13 at *
  generalize f 14 = r14 at *
  have hb9 := only_below Ho9
  have HV9 := Lib.hid E14
  have C1 := Lib.hid ((hb9.cell (p := ⟨g, 1, none⟩) hg).trans C1.out)
  have C3 := Lib.hid ((hb9.cell (p := ⟨g, 3, none⟩) hg).trans C3.out)
  have R1 := Lib.hid (R1.out.below hb9)
  have R3 := Lib.hid (R3.out.below hb9)
  have B9 := Lib.hid hb9
  have hg9 : g < w9.heap.size := Nat.lt_of_lt_of_le hg hb9.size
  clear hb9 E7 E13 E14 Ho9 HP Hd C0
  go_wp2_with fail
  obtain ⟨w1, hw1⟩ : ∃ w1, w1 = w9 := ⟨_, rfl⟩
  subst hw1
  obtain ⟨u, hu⟩ : ∃ u, u = r14 := ⟨_, rfl⟩
  subst hu
  have HN2 : Hid (Cir.nextOf d s x = Cir.num (Cir.lits (Cir.vals d (Cir.bits s d.next.length) (Cir.bits x d.ins)) d.next)) := Lib.hid rfl
  have HO2 : Hid (Cir.num (Cir.outsOf d s x) = Cir.num (Cir.lits (Cir.vals d (Cir.bits s d.next.length) (Cir.bits x d.ins)) d.outs)) := Lib.hid rfl
  generalize Cir.vals d (Cir.bits s d.next.length) (Cir.bits x d.ins) = V at *
  refine wp_region_rs (quietRS Try.prog _ w1 _) quietRS_ok (by kernel_rfl) (by kernel_rfl) (by kernel_rfl) (Nat.le_of_ble_eq_true rfl) trivial trivial ?_
  refine rs_old quietRS_ok quiet_any _ (.inl rfl) _ rfl rfl ?_
  refine rs_old quietRS_ok quiet_any _ (.inl rfl) _ rfl rfl ?_
  apply rs_eq quietRS_ok quiet_any
  · intro ρ w' ho hK
    have ho : Only _ w1 w' := ho
    obtain ⟨h0, -⟩ := hK
    have h0' : ρ (.tmp 25) = _ := h0
    go_simp
    try exact rfl
  apply rs_eq quietRS_ok quiet_any
  · intro ρ w' ho hK
    have ho : Only _ w1 w' := ho
    obtain ⟨h0, -⟩ := hK
    have h0' : ρ (.tmp 26) = _ := h0
    go_simp
    try exact rfl
  apply rs_eq quietRS_ok quiet_any
  · intro ρ w' ho hK
    have ho : Only _ w1 w' := ho
    obtain ⟨h0, -⟩ := hK
    have h0' : ρ (.tmp 27) = _ := h0
    have hb := only_below ho
    have q0 := (hb.cell (p := ⟨g, 1, none⟩) hg9).trans C1.out
    have q1 := (hb.cell (p := ⟨g, 3, none⟩) hg9).trans C3.out
    go_simp
    try exact rfl
  refine rs_call quietRS_ok quiet_any (TBools (Cir.lits V d.next)) (stb_bools _) 127 _ _ rfl (fun ρ w' ho hK => by
    have ho : Only _ w1 w' := ho
    obtain ⟨h0, h1, h2, -⟩ := hK
    have h0' : ρ (.func 127) = .func (.func 127) #[] #[] := h0
    have h1' : ρ (.tmp 24) = _ := h1
    have h2' : ρ (.tmp 28) = _ := h2
    refine ⟨#[ρ (.tmp 24), ρ (.tmp 28)], ?_, ?_⟩
    · go_simp
    · rw [h1', h2']
      refine (litValues_any _ _ V d.next w' (Row.below HV9.out (only_below ho)) (R1.out.below (only_below ho)) (by rw [HL.out]; exact HN.out) (by omega) (by rw [HL.out]; omega)).mono ?_
      rintro e w2 ⟨v2, rfl, hO, hb⟩
      exact ⟨v2, rfl, Row.of_own hO, hb⟩) ?_
  refine rs_call quietRS_ok quiet_any (TEq (.int .i64 (Cir.num (Cir.lits V d.next) : Nat))) (stb_eq _ _) 129 _ _ rfl (fun ρ w' ho hK => by
    have ho : Only _ w1 w' := ho
    obtain ⟨h0, h1, -⟩ := hK
    have h0' : ρ (.func 129) = .func (.func 129) #[] #[] := h0
    have h1' : (TBools (Cir.lits V d.next)) w' (ρ (.tmp 29)) := h1
    refine ⟨#[ρ (.tmp 29)], ?_, ?_⟩
    · go_simp
    · skip
      refine (number_any _ _ w' h1' (by rw [lits_length]; omega)).mono ?_
      rintro e w2 ⟨rfl, rfl⟩
      exact ⟨_, rfl, rfl, Below.refl _ _⟩) ?_
  refine rs_old quietRS_ok quiet_any _ (.inl rfl) _ rfl rfl ?_
  refine rs_old quietRS_ok quiet_any _ (.inl rfl) _ rfl rfl ?_
  apply rs_eq quietRS_ok quiet_any
  · intro ρ w' ho hK
    have ho : Only _ w1 w' := ho
    obtain ⟨h0, -⟩ := hK
    have h0' : ρ (.tmp 32) = _ := h0
    go_simp
    try exact rfl
  apply rs_eq quietRS_ok quiet_any
  · intro ρ w' ho hK
    have ho : Only _ w1 w' := ho
    obtain ⟨h0, -⟩ := hK
    have h0' : ρ (.tmp 33) = _ := h0
    go_simp
    try exact rfl
  apply rs_eq quietRS_ok quiet_any
  · intro ρ w' ho hK
    have ho : Only _ w1 w' := ho
    obtain ⟨h0, -⟩ := hK
    have h0' : ρ (.tmp 34) = _ := h0
    have hb := only_below ho
    have q0 := (hb.cell (p := ⟨g, 1, none⟩) hg9).trans C1.out
    have q1 := (hb.cell (p := ⟨g, 3, none⟩) hg9).trans C3.out
    go_simp
    try exact rfl
  refine rs_call quietRS_ok quiet_any (TBools (Cir.lits V d.outs)) (stb_bools _) 127 _ _ rfl (fun ρ w' ho hK => by
    have ho : Only _ w1 w' := ho
    obtain ⟨h0, h1, h2, -⟩ := hK
    have h0' : ρ (.func 127) = .func (.func 127) #[] #[] := h0
    have h1' : ρ (.tmp 31) = _ := h1
    have h2' : ρ (.tmp 35) = _ := h2
    refine ⟨#[ρ (.tmp 31), ρ (.tmp 35)], ?_, ?_⟩
    · go_simp
    · rw [h1', h2']
      refine (litValues_any _ _ V d.outs w' (Row.below HV9.out (only_below ho)) (R3.out.below (only_below ho)) (by rw [HL.out]; exact HO.out) (by omega) (by rw [HL.out]; omega)).mono ?_
      rintro e w2 ⟨v2, rfl, hO, hb⟩
      exact ⟨v2, rfl, Row.of_own hO, hb⟩) ?_
  refine rs_call quietRS_ok quiet_any (TEq (.int .i64 (Cir.num (Cir.lits V d.outs) : Nat))) (stb_eq _ _) 129 _ _ rfl (fun ρ w' ho hK => by
    have ho : Only _ w1 w' := ho
    obtain ⟨h0, h1, -⟩ := hK
    have h0' : ρ (.func 129) = .func (.func 129) #[] #[] := h0
    have h1' : (TBools (Cir.lits V d.outs)) w' (ρ (.tmp 36)) := h1
    refine ⟨#[ρ (.tmp 36)], ?_, ?_⟩
    · go_simp
    · skip
      refine (number_any _ _ w' h1' (by rw [lits_length]; omega)).mono ?_
      rintro e w2 ⟨rfl, rfl⟩
      exact ⟨_, rfl, rfl, Below.refl _ _⟩) ?_
  refine rs_same quietRS_ok quiet_any 30 6 (.inr rfl) rfl _ rfl ?_
  refine rs_same quietRS_ok quiet_any 37 13 (.inr rfl) rfl _ rfl ?_
  intro f w9 k9 hk9 hI9 ht9 hcp9
  have E0 : f 0 = _ := ht9 0 (Nat.le_of_ble_eq_true rfl)
  conv at E0 => rhs; whnf
  have E1 : f 1 = _ := ht9 1 (Nat.le_of_ble_eq_true rfl)
  conv at E1 => rhs; whnf
  have E2 : f 2 = _ := ht9 2 (Nat.le_of_ble_eq_true rfl)
  have E3 : f 3 = _ := ht9 3 (Nat.le_of_ble_eq_true rfl)
  have E4 : f 4 = _ := ht9 4 (Nat.le_of_ble_eq_true rfl)
  have E5 : (TBools (Cir.lits V d.next)) w9 (f 5) := ht9 5 (Nat.le_of_ble_eq_true rfl)
  have E6 : f 6 = _ := ht9 6 (Nat.le_of_ble_eq_true rfl)
  have E7 : f 7 = _ := ht9 7 (Nat.le_of_ble_eq_true rfl)
  conv at E7 => rhs; whnf
  have E8 : f 8 = _ := ht9 8 (Nat.le_of_ble_eq_true rfl)
  conv at E8 => rhs; whnf
  have E9 : f 9 = _ := ht9 9 (Nat.le_of_ble_eq_true rfl)
  have E10 : f 10 = _ := ht9 10 (Nat.le_of_ble_eq_true rfl)
  have E11 : f 11 = _ := ht9 11 (Nat.le_of_ble_eq_true rfl)
  have E12 : (TBools (Cir.lits V d.outs)) w9 (f 12) := ht9 12 (Nat.le_of_ble_eq_true rfl)
  have E13 : f 13 = _ := ht9 13 (Nat.le_of_ble_eq_true rfl)
  have E14 : f 14 = _ := ht9 14 (Nat.le_of_ble_eq_true rfl)
  have E15 : f 15 = _ := ht9 15 (Nat.le_of_ble_eq_true rfl)
  have Ho9 : Only _ w1 w9 := hI9.2.1
  simp only [putAll, E0, E1, E2, E3, E4, E6, E7, E8, E9, E10, E11, E13, E14, E15, Nat.zero_add, Nat.reduceAdd, Act.put, List.setIfInBounds_toArray, List.set_cons_succ, List.set_cons_zero]
  clear E0 E1 E2 E3 E4 E6 E7 E8 E9 E10 E11 E13 E14 E15
  clear hI9 ht9 hcp9 hk9
  generalize f 5 = r5 at *
  generalize f 12 = r12 at *
  have B := Lib.hid (B9.out.trans ((only_below Ho9).mono B9.out.size))
  clear Ho9 E5 E12 HV9 B9
  go_wp2_with fail
  exact bodyPost_ret (v := .tuple #[.int .i64 (Cir.num (Cir.lits V d.next) : Nat), .int .i64 (Cir.num (Cir.lits V d.outs) : Nat)]) (by simp [results, Try.results120, go_sem]) rfl ⟨by rw [HN2.out, HO2.out], B.out⟩
end Go.Proofs.Ytlbfejdbfhgifaa

namespace Go.Proofs.Ytlbfejdbfhgifaa
open Go.RowKit
/-! Drawn regions with one step that writes. -/
def JStep (R0 R1 : World → Prop) : Option Value → World → Prop
  | none, w => R0 w
  | some _, w => R1 w
@[reducible] def stepRS (Pg : Program) (ops : Array Oper) (w : World) (a : Act) (E : Nat → Prop) (R0 R1 : World → Prop) (d : Nat) : RS :=
  { P := Pg, ops := ops, E := E, F := fun _ => False, rd := none, w0 := w, J := JStep R0 R1, d := d, a0 := a }
theorem stepRS_ok {Pg : Program} {ops : Array Oper} {w : World} {a : Act} {E : Nat → Prop} {R0 R1 : World → Prop} {d : Nat} (hE : ∀ g, E g → g < w.heap.size) (h0 : ∀ w1 w2, R0 w1 → Below w1.heap.size w1 w2 → R0 w2) (h1 : ∀ w1 w2, R1 w1 → Below w1.heap.size w1 w2 → R1 w2) : (stepRS Pg ops w a E R0 R1 d).Ok :=
  ⟨fun _ h => h.elim, fun ov w1 w2 hj ho => by
    cases ov with
    | none => exact h0 _ _ hj (only_below ho)
    | some v => exact h1 _ _ hj (only_below ho),
    fun _ _ e => (by cases e), hE⟩
/-- A row of the call's own. -/
def TOwn (B : Nat) (e : TypeId) (size n : Nat) (cs : List Value) : Ty := fun w v => w.ownsRow B e size v n cs
theorem stb_own {E : Nat → Prop} {B : Nat} (hE : ∀ g, E g → g < B) (e : TypeId) (size n : Nat) (cs : List Value) : Stb E (TOwn B e size n cs) := fun v w w' h ho =>
  own_only h ho fun g hg he => by have h1 := (h.lt g hg).1; have h2 := hE g he; omega
/-- Two of them, in a struct. -/
def TOwn2 (B : Nat) (e : TypeId) (n : Nat) (cs : List Value) (e' : TypeId) (n' : Nat) (cs' : List Value) : Ty := fun w v => ∃ a b, v = .agg #[a, b] ∧ w.ownsRow B e 1 a n cs ∧ w.ownsRow B e' 1 b n' cs'
theorem stb_own2 {E : Nat → Prop} {B : Nat} (hE : ∀ g, E g → g < B) (e : TypeId) (n : Nat) (cs : List Value) (e' : TypeId) (n' : Nat) (cs' : List Value) : Stb E (TOwn2 B e n cs e' n' cs') := by
  rintro v w w' ⟨a, b, rfl, h1, h2⟩ ho
  exact ⟨a, b, rfl, stb_own hE _ _ _ _ _ _ _ h1 ho, stb_own hE _ _ _ _ _ _ _ h2 ho⟩
section
variable {S : RS} {Fin : List Ty → Prop} {o : Oper} {l : List Oper} {i : Nat} {τs : List Ty}
/-- The step that writes. -/
theorem rs_do (hd : i = S.d) {R0 R1 : World → Prop} (hJ : S.J = JStep R0 R1) (hrd : S.rd = none)
    (h : ∀ ρ w, Only S.E S.w0 w → R0 w → Known S.ops (tys τs) S.a0 ρ w i o.op.operands.toList → ∃ w', (execOp ρ o).run S.P w = .ok .skip w' ∧ R1 w' ∧ Only S.E w w')
    (rest : RSeq S Fin l (i + 1) (TAny :: τs)) : RSeq S Fin (o :: l) i τs := by
  intro _
  refine ⟨TAny, stb_any _, fun k ov ρ w hk hI hov hK => ?_, rest⟩
  obtain rfl := hov (by rw [hd]; exact ancB_self _ _ _)
  have h0 : R0 w := by have := hI.2.2; rw [hJ] at this; exact this
  obtain ⟨w', hrun, h1, hon⟩ := h ρ w hI.2.1 h0 hK
  unfold Good
  rw [hrun]
  refine ⟨trivial, ⟨?_, hI.2.1.trans hon, ?_⟩, hon⟩
  · rw [hrd]; trivial
  · rw [if_pos hd, hJ]
    exact h1
end
end Go.Proofs.Ytlbfejdbfhgifaa

namespace Go.Proofs.Ytlbfejdbfhgifaa
open Go.RowKit
set_option maxRecDepth 100000
/-! One clock cycle, by the reference. -/
/-- What l2Step makes. -/
def OwnStep (so st : List Bool) (w : World) (e : Ending) (w' : World) : Prop := ∃ a b, e = .returned (.agg #[a, b]) ∧ w'.ownsRow w.heap.size 4 1 a so.length (bools so) ∧ w'.ownsRow w.heap.size 4 1 b st.length (bools st) ∧ Below w.heap.size w w'
/-- The result's cells. -/
def R1Step (g0 : Nat) (so st : List Bool) (w : World) : Prop := ∃ a b, g0 + 1 < w.heap.size ∧ w.cell? ⟨g0 + 1, 0, none⟩ = some a ∧ w.cell? ⟨g0 + 1, 1, none⟩ = some b ∧ w.ownsRow (g0 + 2) 4 1 a so.length (bools so) ∧ w.ownsRow (g0 + 2) 4 1 b st.length (bools st)
theorem R1Step.below {g0 : Nat} {so st : List Bool} {w w' : World} (h : R1Step g0 so st w) (hb : Below w.heap.size w w') : R1Step g0 so st w' := by
  obtain ⟨a, b, hg, c0, c1, o0, o1⟩ := h
  exact ⟨a, b, Nat.lt_of_lt_of_le hg hb.size, (hb.cell (p := ⟨g0 + 1, 0, none⟩) hg).trans c0, (hb.cell (p := ⟨g0 + 1, 1, none⟩) hg).trans c1, own_below o0 hb, own_below o1 hb⟩
set_option maxHeartbeats 4000000 in
theorem l2Step_any (v vs vi : Value) (d : Ci) (st inp : List Bool) (w : World) (h : CircAt w v (Cir.toCz d)) (hd : Cir.Ok d) (hs : BoolsAt w vs st) (hi : BoolsAt w vi inp) (h1 : inp.length = d.ins) (h2 : st.length = d.next.length) :
    Calls Try.prog 40 #[v, vs, vi] w (OwnStep (Cir.lits (Cir.vals d st inp) d.outs) (Cir.lits (Cir.vals d st inp) d.next) w) := by
  have l2 := hd.nexts
  have l3 := hd.outss
  have HN := Lib.hid hd.next
  have HO := Lib.hid hd.out
  have HC := Lib.hid h
  obtain ⟨vn, vg, vo, rfl, r1, r2, r3⟩ := h
  obtain ⟨An, cn, rfl, hcn, hcmn⟩ := NatsAt.shape (xs := d.next) r1
  obtain ⟨Ao, co, rfl, hco, hcmo⟩ := NatsAt.shape (xs := d.outs) r3
  have hins : (Cir.toCz d).ins = (d.ins : Int) := rfl
  rw [hins] at HC ⊢
  obtain ⟨ag, hag⟩ : ∃ ag, ag = Obj.cells #[.int .i64 d.ins, .slice An d.next.length cn, vg, .slice Ao d.outs.length co] 31 := ⟨_, rfl⟩
  have hbz := bel_new w ag
  obtain ⟨z, p0, p1, p2, p3⟩ := PCells.boxed w d.ins (.slice An d.next.length cn) vg (.slice Ao d.outs.length co) 31
  rw [← hag] at z p0 p1 p2 p3
  have HL : Hid ((Cir.vals d st inp).length = Cir.nvars d) := Lib.hid (Cir.vals_length d h1 h2)
  have hnv : Cir.nvars d ≤ 22 := by have := hd.gatess; have := hd.ins; unfold Cir.nvars Cir.nfirst; omega
  have hb1 := bel_new (w.alloc ag) (.cells #[.slice none 0 0, .slice none 0 0] 64)
  have B0 := Lib.hid (hbz.trans (hb1.mono hbz.size))
  have P0 := Lib.hid (PCells.below ⟨z, p0, p1, p2, p3⟩ hb1)
  have R1 : Hid (NatsAt w (.slice An d.next.length cn) d.next) := Lib.hid r1
  have R3 : Hid (NatsAt w (.slice Ao d.outs.length co) d.outs) := Lib.hid r3
  have HW : Hid (((w.alloc ag).alloc (.cells #[.slice none 0 0, .slice none 0 0] 64)).heap[w.heap.size + 1]? = some (.cells #[.slice none 0 0, .slice none 0 0] 64 (0, 0))) := Lib.hid (by
    have := heap_alloc_new (w.alloc ag) (.cells #[.slice none 0 0, .slice none 0 0] 64)
    rwa [World.size_alloc] at this)
  have HV := Lib.hid (l2Values_any _ _ _ d st inp _ (HC.out.below B0.out) hd (Row.below hs B0.out) (Row.below hi B0.out) h1 h2)
  have hsz : ((w.alloc ag).alloc (.cells #[.slice none 0 0, .slice none 0 0] 64)).heap.size = w.heap.size + 2 := by simp
  clear r1 r2 r3 z p0 p1 p2 p3 hbz hb1 hs hi h1 h2 HC hd hins
  go_enter Try.func40, Try.ntmps40
  obtain ⟨z, p0, p1, p2, p3⟩ := P0.out
  go_wp2_with fail
  rw [← hag]
  clear hag
  generalize (w.alloc ag).alloc (.cells #[.slice none 0 0, .slice none 0 0] 64) = W at *
  generalize Cir.vals d st inp = V at *
  refine HV.out.mono ?_
  rintro e w1 ⟨v1, rfl, hO1, hb1⟩
  have B1 := Lib.hid (B0.out.trans (hb1.mono B0.out.size))
  have HW1 := Lib.hid ((hb1.block _ (by omega)).trans HW.out)
  have HV1 := Lib.hid (own_mono hO1 (show w.heap.size + 2 ≤ W.heap.size by omega))
  have P1 := Lib.hid (P0.out.below hb1)
  have z1 := hb1.size
  clear hb1 hO1 P0 HW HV p0 p1 p2 p3 z B0
  obtain ⟨z, p0, p1, p2, p3⟩ := P1.out
  go_wp2_with fail
  obtain ⟨G, hG⟩ : ∃ G, G = w.heap.size + 1 := ⟨_, rfl⟩
  have hO := fun ops a => stepRS_ok (Pg := Try.prog) (ops := ops) (w := w1) (a := a) (E := fun g => g = w.heap.size + 1) (R0 := fun w' => w'.heap[w.heap.size + 1]? = some (.cells #[.slice none 0 0, .slice none 0 0] 64 (0, 0)))
    (R1 := R1Step w.heap.size (Cir.lits V d.outs) (Cir.lits V d.next)) (d := 9) (fun g hg => by have h : g = w.heap.size + 1 := hg; omega) (fun w1 w2 h hb => (hb.block _ (heap_lt h)).trans h) (fun _ _ => R1Step.below)
  have HBw : ∀ w', Only (fun g => g = w.heap.size + 1) w1 w' → Below w.heap.size w w' := fun w' ho => Only.below B1.out ho B1.out.size (fun g hg => by have h : g = w.heap.size + 1 := hg; omega)
  have HVw : ∀ w', Only (fun g => g = w.heap.size + 1) w1 w' → BoolsAt w' v1 V := fun w' ho => ownBools_at (own_only HV1.out ho (fun g hg he => by have h1 := (HV1.out.lt g hg).1; have h : g = w.heap.size + 1 := he; omega))
  refine wp_region_rs (stepRS Try.prog _ w1 _ (fun g => g = w.heap.size + 1) (fun w' => w'.heap[w.heap.size + 1]? = some (.cells #[.slice none 0 0, .slice none 0 0] 64 (0, 0))) (R1Step w.heap.size (Cir.lits V d.outs) (Cir.lits V d.next)) 9) (hO _ _) (by kernel_rfl) (by kernel_rfl) (by kernel_rfl) (Nat.le_of_ble_eq_true rfl) trivial HW1.out ?_
  refine rs_old (hO _ _) (.inl (Nat.ne_of_beq_eq_false rfl)) _ (.inl rfl) _ rfl rfl ?_
  apply rs_eq (hO _ _) (.inl (Nat.ne_of_beq_eq_false rfl))
  · intro ρ w' ho hK
    have ho : Only _ w1 w' := ho
    obtain ⟨h0, -⟩ := hK
    have h0' : ρ (.tmp 3) = _ := h0
    go_simp
    try exact rfl
  apply rs_eq (hO _ _) (.inl (Nat.ne_of_beq_eq_false rfl))
  · intro ρ w' ho hK
    have ho : Only _ w1 w' := ho
    obtain ⟨h0, -⟩ := hK
    have h0' : ρ (.tmp 13) = _ := h0
    have q1 := cell_on ho (by omega) z p1
    have q3 := cell_on ho (by omega) z p3
    go_simp
    try exact rfl
  refine rs_call (hO _ _) (.inl (Nat.ne_of_beq_eq_false rfl)) (TOwn (w.heap.size + 2) 4 1 (Cir.lits V d.outs).length (bools (Cir.lits V d.outs))) (stb_own (fun g hg => by have h : g = w.heap.size + 1 := hg; omega) _ _ _ _) 98 _ _ rfl (fun ρ w' ho hK => by
    have ho : Only _ w1 w' := ho
    obtain ⟨h0, h1, h2, -⟩ := hK
    have h0' : ρ (.func 98) = .func (.func 98) #[] #[] := h0
    have h1' : ρ (.tmp 12) = _ := h1
    have h2' : ρ (.tmp 14) = _ := h2
    refine ⟨#[ρ (.tmp 12), ρ (.tmp 14)], ?_, ?_⟩
    · go_simp
    · rw [h1', h2']
      refine (l2Lits_any _ _ V d.outs w' (HVw _ ho) (R3.out.below (HBw _ ho)) (by rw [HL.out]; exact HO.out) (by omega) (by rw [HL.out]; omega)).mono ?_
      rintro e w2 ⟨v2, rfl, hO2, hb2⟩
      exact ⟨v2, rfl, own_mono hO2 (by have := ho.size; omega), hb2⟩) ?_
  refine rs_old (hO _ _) (.inl (Nat.ne_of_beq_eq_false rfl)) _ (.inl rfl) _ rfl rfl ?_
  apply rs_eq (hO _ _) (.inl (Nat.ne_of_beq_eq_false rfl))
  · intro ρ w' ho hK
    have ho : Only _ w1 w' := ho
    obtain ⟨h0, -⟩ := hK
    have h0' : ρ (.tmp 3) = _ := h0
    go_simp
    try exact rfl
  apply rs_eq (hO _ _) (.inl (Nat.ne_of_beq_eq_false rfl))
  · intro ρ w' ho hK
    have ho : Only _ w1 w' := ho
    obtain ⟨h0, -⟩ := hK
    have h0' : ρ (.tmp 17) = _ := h0
    have q1 := cell_on ho (by omega) z p1
    have q3 := cell_on ho (by omega) z p3
    go_simp
    try exact rfl
  refine rs_call (hO _ _) (.inl (Nat.ne_of_beq_eq_false rfl)) (TOwn (w.heap.size + 2) 4 1 (Cir.lits V d.next).length (bools (Cir.lits V d.next))) (stb_own (fun g hg => by have h : g = w.heap.size + 1 := hg; omega) _ _ _ _) 98 _ _ rfl (fun ρ w' ho hK => by
    have ho : Only _ w1 w' := ho
    obtain ⟨h0, h1, h2, -⟩ := hK
    have h0' : ρ (.func 98) = .func (.func 98) #[] #[] := h0
    have h1' : ρ (.tmp 16) = _ := h1
    have h2' : ρ (.tmp 18) = _ := h2
    refine ⟨#[ρ (.tmp 16), ρ (.tmp 18)], ?_, ?_⟩
    · go_simp
    · rw [h1', h2']
      refine (l2Lits_any _ _ V d.next w' (HVw _ ho) (R1.out.below (HBw _ ho)) (by rw [HL.out]; exact HN.out) (by omega) (by rw [HL.out]; omega)).mono ?_
      rintro e w2 ⟨v2, rfl, hO2, hb2⟩
      exact ⟨v2, rfl, own_mono hO2 (by have := ho.size; omega), hb2⟩) ?_
  refine rs_look (hO _ _) (.inl (Nat.ne_of_beq_eq_false rfl)) (TOwn2 (w.heap.size + 2) 4 (Cir.lits V d.outs).length (bools (Cir.lits V d.outs)) 4 (Cir.lits V d.next).length (bools (Cir.lits V d.next))) (stb_own2 (fun g hg => by have h : g = w.heap.size + 1 := hg; omega) _ _ _ _ _ _) (fun ρ w' ho hK => by
    have ho : Only _ w1 w' := ho
    obtain ⟨h1, h2, -⟩ := hK
    have h1' : w'.ownsRow (w.heap.size + 2) 4 1 (ρ (.tmp 15)) (Cir.lits V d.outs).length (bools (Cir.lits V d.outs)) := h1
    have h2' : w'.ownsRow (w.heap.size + 2) 4 1 (ρ (.tmp 19)) (Cir.lits V d.next).length (bools (Cir.lits V d.next)) := h2
    obtain ⟨A1, c1, e1⟩ := slice_of_own h1'
    obtain ⟨A2, c2, e2⟩ := slice_of_own h2'
    refine ⟨.agg #[ρ (.tmp 15), ρ (.tmp 19)], ?_, ⟨_, _, rfl, h1', h2'⟩⟩
    go_simp) ?_
  refine rs_do rfl rfl rfl (fun ρ w' ho h0 hK => by
    have ho : Only _ w1 w' := ho
    obtain ⟨h1, h2, -⟩ := hK
    have h1' : ρ (.tmp 6) = .pointer (some ⟨w.heap.size + 1, 0, none⟩) := h1
    obtain ⟨a, b, e2, oa, ob⟩ : (TOwn2 (w.heap.size + 2) 4 (Cir.lits V d.outs).length (bools (Cir.lits V d.outs)) 4 (Cir.lits V d.next).length (bools (Cir.lits V d.next))) w' (ρ (.tmp 20)) := h2
    obtain ⟨A1, c1, rfl⟩ := slice_of_own oa
    obtain ⟨A2, c2, rfl⟩ := slice_of_own ob
    have hl := heap_lt h0
    have k0 := blk_cell h0 0
    have k1 := blk_cell h0 1
    have f0 := blk_free h0 0
    have f1 := blk_free h0 1
    simp at k0 k1
    have s1 := heap_setCell_same w' (w.heap.size + 1) 0 _ _ (.slice A1 (Cir.lits V d.outs).length c1) h0
    have s2 := heap_setCell_same _ (w.heap.size + 1) 1 _ _ (.slice A2 (Cir.lits V d.next).length c2) s1
    refine ⟨(w'.setCell ⟨w.heap.size + 1, 0, none⟩ (.slice A1 (Cir.lits V d.outs).length c1)).setCell ⟨w.heap.size + 1, 1, none⟩ (.slice A2 (Cir.lits V d.next).length c2), ?_, ⟨_, _, heap_lt s2, blk_cell s2 0, blk_cell s2 1, ?_, ?_⟩, ?_⟩
    · clear s1 s2
      go_simp
    · exact own_set (own_set oa (by omega)) (by omega)
    · exact own_set (own_set ob (by omega)) (by omega)
    · exact (Only.grown (set_grown w' (w.heap.size + 1) 0 _) (fun q hq => (Option.some.inj hq).symm)).trans (Only.grown (set_grown _ (w.heap.size + 1) 1 _) (fun q hq => (Option.some.inj hq).symm))) ?_
  intro f w9 k9 hk9 hI9 ht9 hcp9
  have E0 : f 0 = _ := ht9 0 (Nat.le_of_ble_eq_true rfl)
  conv at E0 => rhs; whnf
  have E1 : f 1 = _ := ht9 1 (Nat.le_of_ble_eq_true rfl)
  have E2 : f 2 = _ := ht9 2 (Nat.le_of_ble_eq_true rfl)
  have E3 : (TOwn (w.heap.size + 2) 4 1 (Cir.lits V d.outs).length (bools (Cir.lits V d.outs))) w9 (f 3) := ht9 3 (Nat.le_of_ble_eq_true rfl)
  have E4 : f 4 = _ := ht9 4 (Nat.le_of_ble_eq_true rfl)
  conv at E4 => rhs; whnf
  have E5 : f 5 = _ := ht9 5 (Nat.le_of_ble_eq_true rfl)
  have E6 : f 6 = _ := ht9 6 (Nat.le_of_ble_eq_true rfl)
  have E7 : (TOwn (w.heap.size + 2) 4 1 (Cir.lits V d.next).length (bools (Cir.lits V d.next))) w9 (f 7) := ht9 7 (Nat.le_of_ble_eq_true rfl)
  have E8 : (TOwn2 (w.heap.size + 2) 4 (Cir.lits V d.outs).length (bools (Cir.lits V d.outs)) 4 (Cir.lits V d.next).length (bools (Cir.lits V d.next))) w9 (f 8) := ht9 8 (Nat.le_of_ble_eq_true rfl)
  have E9 : (TAny) w9 (f 9) := ht9 9 (Nat.le_of_ble_eq_true rfl)
  have Ho9 : Only _ w1 w9 := hI9.2.1
  have HJ9 := hI9.2.2
  simp only [putAll, E0, E1, E2, E4, E5, E6, Nat.zero_add, Nat.reduceAdd, Act.put, List.setIfInBounds_toArray, List.set_cons_succ, List.set_cons_zero]
  clear E0 E1 E2 E4 E5 E6
  clear hI9 ht9 hcp9 hk9
  generalize f 3 = r3 at *
  generalize f 7 = r7 at *
  generalize f 8 = r8 at *
  generalize f 9 = r9 at *
  have hR : R1Step w.heap.size (Cir.lits V d.outs) (Cir.lits V d.next) w9 := HJ9
  have B := Lib.hid (HBw _ Ho9)
  obtain ⟨a, b, hg, c0, c1, oa, ob⟩ := hR
  have Oa := Lib.hid oa
  have Ob := Lib.hid ob
  clear E3 E7 E8 E9 HJ9 Ho9 oa ob HBw HVw hO p0 p1 p2 p3
  go_wp2_with fail
  exact bodyPost_ret (v := .agg #[a, b]) (by simp [results, Try.results40, go_sem, c0, c1]) rfl ⟨_, _, rfl, own_mono Oa.out (by omega), own_mono Ob.out (by omega), B.out⟩
end Go.Proofs.Ytlbfejdbfhgifaa

namespace Go.Proofs.Ytlbfejdbfhgifaa
/-! Reachable states, plainly. -/
namespace Cir
/-- Membership, as a Bool that the simplifier leaves alone. -/
def memB (l : List Nat) (n : Nat) : Bool := l.contains n
theorem memB_iff {l : List Nat} {n : Nat} : memB l n = true ↔ n ∈ l := by unfold memB; simp
def push (l : List Nat) (n : Nat) : List Nat := if l.contains n then l else l ++ [n]
/-- The next states for the first j inputs are added. -/
def pushes (c : Ci) (s j : Nat) (l : List Nat) : List Nat := ((List.range j).map (nextOf c s)).foldl push l
def bfs (c : Ci) : Nat → Nat → List Nat → List Nat
  | 0, _, l => l
  | f + 1, k, l => match l[k]? with
    | none => l
    | some s => bfs c f (k + 1) (pushes c s (2 ^ c.ins) l)
def reach (c : Ci) : List Nat := bfs c 9 0 [0]
/-- Different states of the circuit. -/
structure Sts (c : Ci) (l : List Nat) : Prop where
  nodup : l.Nodup
  lt : ∀ x ∈ l, x < 2 ^ c.next.length
theorem nodup_lt : ∀ (N : Nat) (l : List Nat), l.Nodup → (∀ x ∈ l, x < N) → l.length ≤ N
  | 0, l, _, h => by
    cases l with
    | nil => simp
    | cons a l => exact absurd (h a (by simp)) (by omega)
  | N + 1, l, hn, h => by
    by_cases hm : N ∈ l
    · have h1 := nodup_lt N (l.erase N) (hn.erase N) (fun x hx => by
        have h2 := (List.Nodup.mem_erase_iff hn).1 hx
        have h3 := h x h2.2
        have h4 := h2.1
        omega)
      rw [List.length_erase_of_mem hm] at h1
      omega
    · have := nodup_lt N l hn (fun x hx => by
        have h3 := h x hx
        have h4 : x ≠ N := fun e => hm (e ▸ hx)
        omega)
      omega
theorem Sts.len {c : Ci} {l : List Nat} (h : Sts c l) (hc : Ok c) : l.length ≤ 8 := by
  have h1 := nodup_lt _ l h.nodup h.lt
  have h2 : 2 ^ c.next.length ≤ 2 ^ 3 := Nat.pow_le_pow_right (show 0 < 2 by decide) hc.nexts
  omega
theorem Sts.zero (c : Ci) : Sts c [0] := ⟨by simp, fun x hx => by simp at hx; subst hx; exact Nat.pow_pos (by decide)⟩
theorem Sts.push {c : Ci} {l : List Nat} (h : Sts c l) {n : Nat} (hn : n < 2 ^ c.next.length) : Sts c (Cir.push l n) := by
  unfold Cir.push
  cases hc : l.contains n
  · refine ⟨?_, fun x hx => ?_⟩
    · simp only [Bool.false_eq_true, if_false]
      rw [List.nodup_append]
      refine ⟨h.nodup, by simp, fun a ha b hb => ?_⟩
      simp at hb
      subst hb
      rintro rfl
      have : l.contains a = true := by simpa using ha
      rw [hc] at this
      cases this
    · simp at hx
      rcases hx with hx | rfl
      · exact h.lt x hx
      · exact hn
  · simpa using h
theorem push_no {l : List Nat} {n : Nat} (h : memB l n = false) : push l n = l ++ [n] := by unfold memB at h; unfold push; rw [h]; rfl
theorem push_yes {l : List Nat} {n : Nat} (h : memB l n = true) : push l n = l := by unfold memB at h; unfold push; rw [h]; rfl
theorem memB_snoc (l : List Nat) (n x : Nat) : memB (l ++ [n]) x = (memB l x || x == n) := by unfold memB; rw [Bool.eq_iff_iff]; simp
theorem memB_zero (x : Nat) : memB [0] x = (x == 0) := by unfold memB; rw [Bool.eq_iff_iff]; simp
theorem pushes_zero (c : Ci) (s : Nat) (l : List Nat) : pushes c s 0 l = l := rfl
theorem pushes_succ (c : Ci) (s j : Nat) (l : List Nat) : pushes c s (j + 1) l = push (pushes c s j l) (nextOf c s j) := by
  unfold pushes
  rw [List.range_succ, List.map_append, List.foldl_append]
  rfl
theorem Sts.pushes {c : Ci} {l : List Nat} (h : Sts c l) (s : Nat) : ∀ j, Sts c (Cir.pushes c s j l)
  | 0 => h
  | j + 1 => by
    rw [pushes_succ]
    exact (Sts.pushes h s j).push (nextOf_lt _ _ _)
theorem pushes_prefix (c : Ci) (s : Nat) (l : List Nat) : ∀ j, ∃ m, Cir.pushes c s j l = l ++ m
  | 0 => ⟨[], by simp [pushes_zero]⟩
  | j + 1 => by
    obtain ⟨m, hm⟩ := pushes_prefix c s l j
    rw [pushes_succ, hm]
    unfold push
    split
    · exact ⟨m, rfl⟩
    · exact ⟨m ++ [nextOf c s j], by rw [List.append_assoc]⟩
theorem pushes_get {c : Ci} {s : Nat} {l : List Nat} {j k x : Nat} (h : l[k]? = some x) : (Cir.pushes c s j l)[k]? = some x := by
  obtain ⟨m, hm⟩ := pushes_prefix c s l j
  obtain ⟨hk, _⟩ := List.getElem?_eq_some_iff.1 h
  rw [hm, List.getElem?_append_left hk, h]
theorem bfs_step {c : Ci} {f k : Nat} {l : List Nat} {s : Nat} (h : l[k]? = some s) : bfs c (f + 1) k l = bfs c f (k + 1) (pushes c s (2 ^ c.ins) l) := by
  rw [bfs, h]
theorem bfs_end {c : Ci} {f : Nat} {l : List Nat} : bfs c f l.length l = l := by
  cases f with
  | zero => rfl
  | succ f => rw [bfs, List.getElem?_eq_none (Nat.le_refl _)]
theorem Sts.bfs {c : Ci} : ∀ (f k : Nat) {l : List Nat}, Sts c l → Sts c (Cir.bfs c f k l)
  | 0, _, _, h => h
  | f + 1, k, l, h => by
    rw [Cir.bfs]
    split
    · exact h
    · exact Sts.bfs f (k + 1) (h.pushes _ _)
theorem reach_sts (c : Ci) : Sts c (reach c) := Sts.bfs _ _ (Sts.zero c)
end Cir
end Go.Proofs.Ytlbfejdbfhgifaa

namespace Go.Proofs.Ytlbfejdbfhgifaa
open Go.RowKit
set_option maxRecDepth 100000
/-! The next state and the outputs, by the reference; small searches in lists. -/
theorem step_field0 (A B : Option Addr) (n m c q : Nat) (w : World) : (Instr.field 64 (.agg #[.slice A n c, .slice B m q]) 0).run Try.prog w = .ok (.slice A n c) w := by kernel_rfl
theorem step_field1 (A B : Option Addr) (n m c q : Nat) (w : World) : (Instr.field 64 (.agg #[.slice A n c, .slice B m q]) 1).run Try.prog w = .ok (.slice B m q) w := by kernel_rfl
/-- l2Step, drawn: a struct of two rows. -/
def TStep (so st : List Bool) : Ty := fun w v => ∃ a b, v = .agg #[a, b] ∧ BoolsAt w a so ∧ BoolsAt w b st
theorem stb_step (so st : List Bool) : Stb (fun _ => False) (TStep so st) := by
  rintro v w w' ⟨a, b, rfl, h1, h2⟩ ho
  exact ⟨a, b, rfl, stb_bools _ _ _ _ h1 ho, stb_bools _ _ _ _ h2 ho⟩
end Go.Proofs.Ytlbfejdbfhgifaa

namespace Go.Proofs.Ytlbfejdbfhgifaa
open Go.RowKit
set_option maxRecDepth 100000
namespace Cir
def evalOk (c : Cz) (st inp : List Int) : Bool := valid c && (decide (st.length = c.next.length) && (decide ((inp.length : Int) = c.ins) && (st.all tern && inp.all tern)))
/-- What EvalTernary answers. -/
def evalT (c : Cz) (st inp : List Int) : List Int := if evalOk c st inp = true then nats (tvals (nat c) (st.map Int.toNat) (inp.map Int.toNat)) else []
theorem tern_nats : ∀ {xs : List Int}, xs.all tern = true → xs = nats (xs.map Int.toNat) ∧ ∀ x ∈ xs.map Int.toNat, x ≤ 2
  | [], _ => ⟨rfl, by simp⟩
  | x :: xs, h => by
    rw [List.all_cons, Bool.and_eq_true] at h
    obtain ⟨h1, h2⟩ := tern_nats h.2
    have h0 : 0 ≤ x ∧ x ≤ 2 := by have := h.1; unfold tern at this; simpa using this
    refine ⟨?_, ?_⟩
    · rw [List.map_cons, nats, List.map_cons, ← nats, ← h1]
      congr 1
      simp; omega
    · intro y hy
      rw [List.map_cons] at hy
      rcases List.mem_cons.1 hy with rfl | hy
      · omega
      · exact h2 y hy
theorem evalT_no {c : Cz} {st inp : List Int} (h : evalOk c st inp = false) : evalT c st inp = [] := by unfold evalT; rw [h]; rfl
end Cir
theorem bel_al (w : World) (o : Obj) : Below w.heap.size w (w.alloc o) := (Below.refl _ _).alloc (Nat.le_refl _) o
end Go.Proofs.Ytlbfejdbfhgifaa
