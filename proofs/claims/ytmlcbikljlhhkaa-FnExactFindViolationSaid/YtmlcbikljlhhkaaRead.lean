import Derived.Test.YtmlcbikljlhhkaaProg
import Derived.Test.YtmlcbikljlhhkaaGa
import Derived.Lib.SmallJoins
import Derived.ProofKit
import Derived.Deep.Slices
import Derived.Deep.Fields
import Derived.ChangeSame
namespace Go.Proofs.Ytmlcbikljlhhkaa
set_option maxRecDepth 100000
open Go.RowKit Go.Joins Go.ChangeShapes Go.WideShapes Go.ChangeAt Go.Deep
/-! Arguments that are slices, whatever their elements. -/
theorem flat_at {α : Type} {size : Nat} : ∀ {els : List (List α)}, (∀ e ∈ els, e.length = size) → ∀ {j : Nat} {u : α}, els.flatten[j]? = some u → ∃ (i r : Nat) (e : List α), j = i * size + r ∧ r < size ∧ els[i]? = some e ∧ e[r]? = some u
  | [], _, j, u, h => by simp at h
  | e :: els, hl, j, u, h => by
    have he := hl e (by simp)
    rw [List.flatten_cons, List.getElem?_append] at h
    split at h
    · rename_i hlt
      exact ⟨0, j, e, by omega, by omega, rfl, h⟩
    · rename_i hge
      obtain ⟨i, r, e', hj, hr, hi, hu⟩ := flat_at (fun e' h' => hl e' (List.mem_cons_of_mem _ h')) h
      refine ⟨i + 1, r, e', ?_, hr, by simpa using hi, hu⟩
      rw [Nat.add_mul]
      omega
theorem flat_length {α : Type} {size : Nat} : ∀ {els : List (List α)}, (∀ e ∈ els, e.length = size) → els.flatten.length = els.length * size
  | [], _ => by simp
  | e :: els, h => by
    rw [List.flatten_cons, List.length_append, flat_length (fun e' h' => h e' (List.mem_cons_of_mem _ h')), h e (by simp), List.length_cons, Nat.add_mul]
    omega
section
variable {H : Type} {enc : TypeId × Value → H} {P : Program} {w : World} {base : Nat} {spare : Nat → Bool} {held : Bool}
theorem slice_rd {t e : TypeId} {size fuel : Nat} {cs : List Value} {x : DataW H × List MemPlace} (ht : P.underlying t = some (.slice e)) (hc : P.cellsOf e = size) (hs : 0 < size) (G : List Value → Prop)
    (hG : ∀ n cs' y, cs'.length = size → DataW.trod enc P w base spare held n e cs' = some y → G cs') (h : DataW.trod enc P w base spare held fuel t cs = some x) :
    ∃ (A : Option Addr) (n c : Nat) (els : List (List Value)), cs = [.slice A n c] ∧ Row w size (.slice A n c) n els.flatten ∧ els.length = n ∧ (∀ e ∈ els, e.length = size) ∧ ∀ e ∈ els, G e := by
  rcases open_slice ht h with ⟨rfl, _⟩ | ⟨a, len, cap, m, n, D, Pl, rfl, hb, hl, hm, hmm, _, hx⟩
  · exact ⟨none, 0, 0, [], rfl, Row.nil w size, rfl, by simp, by simp⟩
  · have hx' : ∀ i, i < len → ∃ cs', cs'.length = size ∧ (∀ j, j < size → w.cell? (a.add (i * size + j)) = cs'[j]?) ∧ G cs' := by
      intro i hi
      have him : i < m := by rw [hmm]; split <;> omega
      obtain ⟨cs', h1, h2⟩ := hx i him
      rw [hc] at h1
      obtain ⟨_, h3, h4⟩ := World.cells?_some h1
      refine ⟨cs', h3, fun j hj => ?_, hG _ _ _ h3 h2⟩
      rw [← Go.Deep.add_add]
      exact h4 j hj
    let f : Nat → List Value := fun i => if h : i < len then (hx' i h).choose else []
    have hf : ∀ i, i < len → (f i).length = size ∧ (∀ j, j < size → w.cell? (a.add (i * size + j)) = (f i)[j]?) ∧ G (f i) := by
      intro i hi
      have := (hx' i hi).choose_spec
      simp only [f, hi, dite_true]
      exact this
    have hel : ∀ e ∈ (List.range len).map f, e.length = size := by
      intro e he
      obtain ⟨i, hi, rfl⟩ := List.mem_map.1 he
      exact (hf i (List.mem_range.1 hi)).1
    refine ⟨some a, len, cap, (List.range len).map f, rfl, ⟨by rw [flat_length hel]; simp, some a, cap, rfl, hl, hm, fun hn => ?_⟩, by simp, hel, fun e he => ?_⟩
    · obtain ⟨b, off, spot⟩ := a
      obtain ⟨h5, h6, _⟩ := hf 0 hn
      have h0 := h6 0 hs
      rw [List.getElem?_eq_getElem (by omega)] at h0
      have hspot : spot = none := by simpa [Addr.add] using World.cell?_spot h0
      subst hspot
      refine ⟨b, off, rfl, ?_, fun j u hu => ?_⟩
      · rcases Nat.lt_or_ge b w.heap.size with hl | hl
        · exact hl
        · simp [World.cell?, Addr.add, Array.getElem?_eq_none hl] at h0
      · obtain ⟨i, r, e', rfl, hr, hi, hu'⟩ := flat_at hel hu
        have hil : i < len := by
          obtain ⟨hi', _⟩ := List.getElem?_eq_some_iff.1 hi
          simpa using hi'
        have : e' = f i := by simpa [hil] using hi.symm
        subst this
        rw [← Go.WideShapes.add_plain, (hf i hil).2.1 r hr]
        exact hu'
    · obtain ⟨i, hi, rfl⟩ := List.mem_map.1 he
      exact (hf i (List.mem_range.1 hi)).2.2
end
def WfI (x : Int) : Prop := -9223372036854775808 ≤ x ∧ x ≤ 9223372036854775807
theorem wf_i {x : Int} (h : (Lit.int .i64 x).wf = true) : WfI x := by
  have := Go.bounds_i64 h
  unfold WfI
  omega
/-- What the cells of the elements come to. -/
theorem els_of {α : Type} (f : α → List Value) (G : α → Prop) : ∀ {els : List (List Value)}, (∀ e ∈ els, ∃ x, e = f x ∧ G x) → ∃ xs : List α, els.flatten = xs.flatMap f ∧ xs.length = els.length ∧ ∀ x ∈ xs, G x
  | [], _ => ⟨[], rfl, rfl, by simp⟩
  | e :: els, h => by
    obtain ⟨xs, h1, h2, h3⟩ := els_of f G (fun e' h' => h e' (List.mem_cons_of_mem _ h'))
    obtain ⟨x, rfl, hx⟩ := h e (by simp)
    refine ⟨x :: xs, by simp [h1], by simp [h2], ?_⟩
    intro y hy
    rcases List.mem_cons.1 hy with e | hy
    · exact e ▸ hx
    · exact h3 y hy
theorem flatMap_one {α : Type} (f : α → Value) : ∀ xs : List α, (xs.flatMap fun x => [f x]) = xs.map f
  | [] => rfl
  | x :: xs => by rw [List.flatMap_cons, flatMap_one f xs]; rfl
/-- What is known of an argument's cells. -/
def GInts (w : World) (cs : List Value) : Prop := ∃ (A : Option Addr) (n c : Nat) (xs : List Int), cs = [.slice A n c] ∧ IntsAt w (.slice A n c) xs ∧ xs.length = n ∧ ∀ x ∈ xs, WfI x
def GBools (w : World) (cs : List Value) : Prop := ∃ (A : Option Addr) (n c : Nat) (xs : List Bool), cs = [.slice A n c] ∧ BoolsAt w (.slice A n c) xs ∧ xs.length = n
def GPairs (w : World) (cs : List Value) : Prop := ∃ (A : Option Addr) (n c : Nat) (xs : List (Int × Int)), cs = [.slice A n c] ∧ CubesAt w (.slice A n c) xs ∧ xs.length = n ∧ ∀ x ∈ xs, WfI x.1 ∧ WfI x.2
section
variable {H : Type} {enc : TypeId × Value → H} {w : World} {base : Nat} {spare : Nat → Bool} {held : Bool}
theorem rd_int {n : Nat} {cs : List Value} {y : DataW H × List MemPlace} (h : DataW.trod enc Try.prog w base spare held n 3 cs = some y) : ∃ x, cs = [.int .i64 x] ∧ WfI x := by
  obtain ⟨x, e, _, hw⟩ := DataW.trod_int Try.underlying3 h
  exact ⟨x, e, wf_i hw⟩
theorem rd_bool {n : Nat} {cs : List Value} {y : DataW H × List MemPlace} (h : DataW.trod enc Try.prog w base spare held n 4 cs = some y) : ∃ x, cs = [.bool x] := by
  obtain ⟨x, e, _⟩ := DataW.trod_bool Try.underlying4 h
  exact ⟨x, e⟩
theorem rd_ints {n : Nat} {cs : List Value} {y : DataW H × List MemPlace} (h : DataW.trod enc Try.prog w base spare held n 22 cs = some y) : GInts w cs := by
  obtain ⟨A, n, c, els, rfl, hr, rfl, _, hg⟩ := slice_rd (size := 1) Try.underlying22 (by kernel_rfl) (by decide) (fun cs => ∃ x, cs = [.int .i64 x] ∧ WfI x) (fun _ _ _ _ h => rd_int h) h
  obtain ⟨xs, h1, h2, h3⟩ := els_of (fun x : Int => [Value.int .i64 x]) WfI hg
  rw [flatMap_one] at h1
  exact ⟨A, _, c, xs, rfl, by rw [h1, ← h2] at hr; rw [← h2]; exact hr, h2, h3⟩
theorem rd_bools {n : Nat} {cs : List Value} {y : DataW H × List MemPlace} (h : DataW.trod enc Try.prog w base spare held n 78 cs = some y) : GBools w cs := by
  obtain ⟨A, n, c, els, rfl, hr, rfl, _, hg⟩ := slice_rd (size := 1) Try.underlying78 (by kernel_rfl) (by decide) (fun cs => ∃ x, cs = [.bool x]) (fun _ _ _ _ h => rd_bool h) h
  obtain ⟨xs, h1, h2, _⟩ := els_of (fun x : Bool => [Value.bool x]) (fun _ => True) (fun e he => by obtain ⟨x, hx⟩ := hg e he; exact ⟨x, hx, trivial⟩)
  rw [flatMap_one] at h1
  exact ⟨A, _, c, xs, rfl, by rw [h1, ← h2] at hr; rw [← h2]; exact hr, h2⟩
theorem rd_pair {t : TypeId} {f0 f1 : Field} (hs : Try.prog.underlying t = some (.struct #[f0, f1])) (h0 : f0.type = 3) (h1 : f1.type = 3) (hone : oneCellFields Try.prog #[f0, f1] = true) (hC : Try.prog.cellsOf t = 2) {n : Nat} {cs : List Value} {y : DataW H × List MemPlace} (hl : cs.length = 2) (h : DataW.trod enc Try.prog w base spare held n t cs = some y) : ∃ x : Int × Int, cs = [.int .i64 x.1, .int .i64 x.2] ∧ WfI x.1 ∧ WfI x.2 := by
  match cs, hl with
  | [c0, c1], _ =>
    obtain ⟨xs, n, _, hx, _, hlen, hg⟩ := DataW.trod_struct hs h
    obtain ⟨o0, k0⟩ := hone_of hone 0 f0 rfl
    obtain ⟨o1, k1⟩ := hone_of hone 1 f1 rfl
    match xs, hlen with
    | [y0, y1], _ =>
      have g0 : DataW.trod enc Try.prog w base spare held n f0.type [c0] = some y0 := by simpa [Value.cells, o0, k0] using hg 0 f0 rfl
      have g1 : DataW.trod enc Try.prog w base spare held n f1.type [c1] = some y1 := by simpa [Value.cells, o1, k1] using hg 1 f1 rfl
      rw [h0] at g0
      rw [h1] at g1
      obtain ⟨a, e0, w0⟩ := rd_int g0
      obtain ⟨b, e1, w1⟩ := rd_int g1
      injection e0 with e0
      injection e1 with e1
      subst e0 e1
      exact ⟨(a, b), rfl, w0, w1⟩
theorem rd_pairs {t e : TypeId} {f0 f1 : Field} (ht : Try.prog.underlying t = some (.slice e)) (hs : Try.prog.underlying e = some (.struct #[f0, f1])) (h0 : f0.type = 3) (h1 : f1.type = 3) (hone : oneCellFields Try.prog #[f0, f1] = true) (hC : Try.prog.cellsOf e = 2) {n : Nat} {cs : List Value} {y : DataW H × List MemPlace} (h : DataW.trod enc Try.prog w base spare held n t cs = some y) : GPairs w cs := by
  obtain ⟨A, n, c, els, rfl, hr, rfl, _, hg⟩ := slice_rd (size := 2) ht hC (by decide) (fun cs => ∃ x : Int × Int, cs = [.int .i64 x.1, .int .i64 x.2] ∧ WfI x.1 ∧ WfI x.2) (fun _ _ _ hl h => rd_pair hs h0 h1 hone hC hl h) h
  obtain ⟨xs, g1, g2, g3⟩ := els_of (fun x : Int × Int => [Value.int .i64 x.1, Value.int .i64 x.2]) (fun x => WfI x.1 ∧ WfI x.2) hg
  exact ⟨A, _, c, xs, rfl, by rw [g1, ← g2] at hr; rw [← g2]; exact hr, g2, g3⟩
end
theorem slice_val {P : Program} {w : World} {r : Reach} {b0 : Nat} {t e : TypeId} {v : Value} (ht : P.underlying t = some (.slice e)) (hv : Value.okWide P w r b0 t v) : ∃ A n c, v = .slice A n c := by
  simp only [Value.okWide, ht, Cell.okWide] at hv
  cases v <;> simp_all [Cell.ok]
section
variable {H : Type} {enc : TypeId × Value → H} {w : World} {r : Reach} {b0 base : Nat} {spare : Nat → Bool} {held : Bool} {v : Value} {d : DataW H} {p : List MemPlace}
/-- Arguments: an int, a slice of ints, of booleans, of pairs of ints. -/
def AInt (_ : World) (v : Value) : Prop := ∃ x : Int, v = .int .i64 x ∧ WfI x
theorem open_aint (hv : Value.okWide Try.prog w r b0 3 v) (h : DataW.Trod enc Try.prog w base spare held 3 v d p) : AInt w v := by
  obtain ⟨x, rfl, rfl, rfl, hw⟩ := open_int Try.underlying3 hv h
  exact ⟨x, rfl, wf_i hw⟩
def AInts (w : World) (v : Value) : Prop := ∃ xs : List Int, IntsAt w v xs ∧ ∀ x ∈ xs, WfI x
theorem open_aints (hv : Value.okWide Try.prog w r b0 22 v) (h : DataW.Trod enc Try.prog w base spare held 22 v d p) : AInts w v := by
  obtain ⟨A, n, c, rfl⟩ := slice_val Try.underlying22 hv
  obtain ⟨m, hm⟩ := h
  obtain ⟨A', n', c', xs, e, h1, h2, h3⟩ := rd_ints hm
  simp [Value.cells] at e
  obtain ⟨rfl, rfl, rfl⟩ := e
  exact ⟨xs, h1, h3⟩
def ABools (w : World) (v : Value) : Prop := ∃ xs : List Bool, BoolsAt w v xs
theorem open_abools (hv : Value.okWide Try.prog w r b0 78 v) (h : DataW.Trod enc Try.prog w base spare held 78 v d p) : ABools w v := by
  obtain ⟨A, n, c, rfl⟩ := slice_val Try.underlying78 hv
  obtain ⟨m, hm⟩ := h
  obtain ⟨A', n', c', xs, e, h1, h2⟩ := rd_bools hm
  simp [Value.cells] at e
  obtain ⟨rfl, rfl, rfl⟩ := e
  exact ⟨xs, h1⟩
def APairs (w : World) (v : Value) : Prop := ∃ xs : List (Int × Int), CubesAt w v xs ∧ ∀ x ∈ xs, WfI x.1 ∧ WfI x.2
end
end Go.Proofs.Ytmlcbikljlhhkaa
