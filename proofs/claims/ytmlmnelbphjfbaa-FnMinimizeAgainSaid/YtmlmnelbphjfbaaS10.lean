import Derived.Test.YtmlmnelbphjfbaaS07
set_option linter.unusedVariables false
set_option linter.unusedSimpArgs false
namespace Go.Proofs.Ytmlmnelbphjfbaa
open Go.RowKit
set_option maxRecDepth 100000
/-! A machine with its states renamed, plainly. -/
namespace Mac
def perm (n s : Nat) : Nat := if s = 0 then 0 else n - s
theorem perm_lt {n s : Nat} (hs : s < n) : perm n s < n := by unfold perm; split <;> omega
theorem perm_perm {n s : Nat} (hs : s < n) : perm n (perm n s) = s := by unfold perm; split <;> split <;> omega
def permL (n : Nat) : List Nat := (List.range n).map (perm n)
theorem permL_get {n s : Nat} (hs : s < n) : (permL n)[s]? = some (perm n s) := by unfold permL; rw [List.getElem?_map, List.getElem?_range hs]; rfl
theorem permL_len (n : Nat) : (permL n).length = n := by unfold permL; simp
def renRow (n : Nat) (r : List Int) : List Int := r.map fun y => ((perm n y.toNat : Nat) : Int)
def ren (m : Mz) : Mz := ⟨m.ins, (List.range m.next.length).map (fun s => renRow m.next.length (nrow m.next (perm m.next.length s))), (List.range m.next.length).map fun s => key0 m.out (perm m.next.length s)⟩
theorem ren_next {m : Mz} {s : Nat} (hs : s < m.next.length) : (ren m).next[s]? = some (renRow m.next.length (nrow m.next (perm m.next.length s))) := by
  unfold ren; simp only; rw [List.getElem?_map, List.getElem?_range hs]; rfl
theorem ren_out {m : Mz} {s : Nat} (hs : s < m.next.length) : (ren m).out[s]? = some (key0 m.out (perm m.next.length s)) := by
  unfold ren; simp only; rw [List.getElem?_map, List.getElem?_range hs]; rfl
theorem ren_valid {m : Mz} (hv : valid m = true) : valid (ren m) = true := by
  have hsz := valid_sizes hv
  have hl : (ren m).next.length = m.next.length := by unfold ren; simp
  have hlo : (ren m).out.length = m.next.length := by unfold ren; simp
  have hv2 := hv
  unfold valid at hv2
  rw [Bool.and_eq_true, Bool.and_eq_true, List.all_eq_true, List.all_eq_true] at hv2
  unfold valid
  rw [Bool.and_eq_true, Bool.and_eq_true, List.all_eq_true, List.all_eq_true]
  refine ⟨?_, fun r hr => ?_, fun r hr => ?_⟩
  · unfold sizes
    rw [decide_eq_true_eq, hl, hlo]
    exact ⟨hsz.1, hsz.2.1, hsz.2.2.1, hsz.2.2.2.1, rfl⟩
  · obtain ⟨s, hs, rfl⟩ := List.mem_iff_getElem.1 hr
    have hs' : s < m.next.length := by omega
    have e := ren_next hs'
    rw [List.getElem?_eq_getElem hs] at e
    rw [Option.some.inj e]
    have hp := perm_lt hs'
    obtain ⟨r0, q0, y0, o0, h1, -, h3, -⟩ := valid_row hv hp (show 0 < 2 ^ m.ins.toNat from Nat.pow_pos (by decide))
    have hr0 := hv2.2.1 r0 (List.mem_of_getElem? h1)
    unfold rowOk lenOk at hr0 ⊢
    rw [Bool.and_eq_true, decide_eq_true_eq, List.all_eq_true] at hr0 ⊢
    rw [nrow_get h1]
    refine ⟨by unfold renRow; rw [List.length_map]; exact hr0.1, fun x hx => ?_⟩
    unfold renRow at hx
    obtain ⟨y, hy, rfl⟩ := List.mem_map.1 hx
    have h5 := inOk_iff.1 (hr0.2 y hy)
    rw [inOk_iff, hl]
    have := perm_lt (n := m.next.length) (s := y.toNat) (by omega)
    omega
  · obtain ⟨s, hs, rfl⟩ := List.mem_iff_getElem.1 hr
    have hs' : s < m.next.length := by omega
    have e := ren_out hs'
    rw [List.getElem?_eq_getElem hs] at e
    rw [Option.some.inj e]
    have hp := perm_lt hs'
    obtain ⟨r0, q0, y0, o0, -, h2, -⟩ := valid_row hv hp (show 0 < 2 ^ m.ins.toNat from Nat.pow_pos (by decide))
    rw [key0_get h2]
    exact hv2.2.2 q0 (List.mem_of_getElem? h2)
theorem ren_step {m : Mz} (hv : valid m = true) {s x : Nat} (hs : s < m.next.length) (hx : x < 2 ^ m.ins.toNat) : stepN (ren m) s x = perm m.next.length (stepN m (perm m.next.length s) x) ∧ stepO (ren m) s x = stepO m (perm m.next.length s) x ∧ stepN m (perm m.next.length s) x < m.next.length := by
  have hp := perm_lt hs
  obtain ⟨r, q, y, o, h1, h2, h3, h4, h5, h6, h7, -, -, h10, h11⟩ := valid_row hv hp hx
  rw [h10]
  refine ⟨?_, ?_, h6⟩
  · unfold stepN
    simp only [List.getD_eq_getElem?_getD, ren_next hs, Option.getD_some, nrow_get h1, Int.toNat_natCast]
    unfold renRow
    rw [List.getElem?_map, h5]
    rfl
  · rw [h11]
    unfold stepO
    simp only [List.getD_eq_getElem?_getD, ren_out hs, Option.getD_some, key0_get h2, Int.toNat_natCast, h7]
theorem ren_beh {m : Mz} (hv : valid m = true) : ∀ (xs : List Nat) (s : Nat), s < m.next.length → behM (ren m) s xs = behM m (perm m.next.length s) xs
  | [], _, _ => rfl
  | x :: xs, s, hs => by
    have hx : x % 2 ^ m.ins.toNat < 2 ^ m.ins.toNat := Nat.mod_lt _ (Nat.pow_pos (by decide))
    obtain ⟨h1, h2, h3⟩ := ren_step hv hs hx
    rw [behM, behM]
    show stepO (ren m) s ((x % 2 ^ m.ins.toNat : Nat) : Int) :: behM (ren m) (stepN (ren m) s ((x % 2 ^ m.ins.toNat : Nat) : Int)) xs = _
    rw [h2, h1, ren_beh hv xs _ (perm_lt h3), perm_perm h3]
theorem ren_min {m : Mz} (hv : valid m = true) : minI (ren m) = minI m := by
  have hsz := valid_sizes hv
  refine minI_same (ren_valid hv) hv rfl (funext fun xs => ?_)
  rw [ren_beh hv xs 0 (by omega)]
  rfl
end Mac
/-- The renamed machine under construction. -/
structure MY (gm : Nat) (ins : Int) (E1 : Nat → Prop) (vN vO : Value) (xs : List (List Int)) (us : List Value) (w : World) : Prop where
  box : w.heap[gm]? = some (.cells #[.int .i64 ins, vN, vO] 25 (0, 0))
  n : OwnIntSE (gm + 1) E1 w vN xs
  o : w.ownsRow (gm + 1) 28 1 vO us.length us
  d : ∀ g, vO.ownBlock = some g → ¬ E1 g
  l1 : ∀ g, E1 g → g < w.heap.size
theorem my_lt {gm : Nat} {ins : Int} {E1 : Nat → Prop} {vN vO : Value} {xs : List (List Int)} {us : List Value} {w : World} (h : MY gm ins E1 vN vO xs us w) : gm < w.heap.size := heap_lt h.box
theorem MY.start (ins : Int) (w : World) : MY w.heap.size ins (fun _ => False) (.slice none 0 0) (.slice none 0 0) [] [] (w.alloc (.cells #[.int .i64 ins, .slice none 0 0, .slice none 0 0] 25)) :=
  ⟨heap_alloc_new _ _, OwnSE.nil _ _ _ _ _ _, World.ownsRow_nil _ _ _ _, fun _ _ h => h, fun _ h => h.elim⟩
theorem MY.below {gm : Nat} {ins : Int} {E1 : Nat → Prop} {vN vO : Value} {xs : List (List Int)} {us : List Value} {w w' : World} (h : MY gm ins E1 vN vO xs us w) (hb : Below w.heap.size w w') : MY gm ins E1 vN vO xs us w' :=
  ⟨(hb.block gm (my_lt h)).trans h.box, OwnSE.below h.n hb, own_below h.o hb, h.d, fun g he => Nat.lt_of_lt_of_le (h.l1 g he) hb.size⟩
theorem MY.cells {gm : Nat} {ins : Int} {E1 : Nat → Prop} {vN vO : Value} {xs : List (List Int)} {us : List Value} {w : World} (h : MY gm ins E1 vN vO xs us w) : w.cell? ⟨gm, 0, none⟩ = some (.int .i64 ins) ∧ w.cell? ⟨gm, 1, none⟩ = some vN ∧ w.cell? ⟨gm, 2, none⟩ = some vO ∧ w.frozen? ⟨gm, 1, none⟩ = false ∧ w.frozen? ⟨gm, 2, none⟩ = false :=
  ⟨blk_cell h.box 0, blk_cell h.box 1, blk_cell h.box 2, blk_free h.box 1, blk_free h.box 2⟩
theorem MY.addN {gm : Nat} {ins : Int} {E1 : Nat → Prop} {vN vO : Value} {xs : List (List Int)} {us : List Value} {w w' : World} {u v' : Value} {x : List Int} {vs : List Value} (h : MY gm ins E1 vN vO xs us w) (q1 : vs.length = xs.length) (q3 : ∀ (i : Nat) (x : List Int) (u : Value), xs[i]? = some x → vs[i]? = some u → w.ownsRow (gm + 1) 3 1 u x.length (ints x)) (q4 : vs.Pairwise Apart) (q5 : ∀ u ∈ vs, Apart u vN) (q6 : ∀ g, vN.ownBlock = some g → E1 g) (q7 : ∀ u ∈ vs, ∀ g, u.ownBlock = some g → E1 g)
    (hu : w.ownsRow (gm + 1) 3 1 u x.length (ints x)) (n1 : ∀ g, u.ownBlock = some g → ¬ E1 g) (n2 : ∀ g, u.ownBlock = some g → vO.ownBlock ≠ some g) (hown : w'.ownsRow (gm + 1) 28 1 v' (xs.length + 1) (vs ++ [u])) (hg : w.grownBy w' vN.ownBlock) (hat : v'.ownBlock = vN.ownBlock ∨ v'.ownBlock = some w.heap.size) :
    MY gm ins (fun g => E1 g ∨ u.ownBlock = some g ∨ v'.ownBlock = some g) v' vO (xs ++ [x]) us (w'.setCell ⟨gm, 1, none⟩ v') := by
  have hgm : vN.ownBlock ≠ some gm := fun e => by
    obtain ⟨vs', _, p2, _⟩ := h.n
    have := (p2.lt gm e).1
    omega
  have hbox := (hg.block gm (my_lt h) (fun e => hgm e.symm)).trans h.box
  refine ⟨heap_setCell_same w' gm 1 _ _ v' hbox, OwnSE.set (se_append q1 q3 q4 q5 q6 q7 hu n1 hown hg hat) (Nat.lt_succ_self _), own_set (own_kept h.o hg fun g h1 h2 => h.d g h1 (q6 g h2)) (Nat.lt_succ_self _), ?_, ?_⟩
  · rintro g hv (he | he | he)
    · exact h.d g hv he
    · exact n2 g he hv
    · rcases hat with e | e
      · exact h.d g hv (q6 g (e.symm.trans he))
      · have h3 := Option.some.inj (he.symm.trans e)
        have h4 := (h.o.lt g hv).2
        omega
  · rintro g (he | he | he)
    · have h1 := h.l1 g he; have h2 := hg.size; have h3 := (set_grown w' gm 1 v').size; omega
    · have h1 := (hu.lt g he).2; have h2 := hg.size; have h3 := (set_grown w' gm 1 v').size; omega
    · have h1 := (hown.lt g he).2; have h3 := (set_grown w' gm 1 v').size; omega
theorem MY.addO {gm : Nat} {ins : Int} {E1 : Nat → Prop} {vN vO : Value} {xs : List (List Int)} {us : List Value} {w w' : World} {u v' : Value} (h : MY gm ins E1 vN vO xs us w) (ho : Only (fun g => vO.ownBlock = some g) w w') (hown : w'.ownsRow (gm + 1) 28 1 v' (us.length + 1) (us ++ [u])) (hat : ∀ g, v'.ownBlock = some g → vO.ownBlock = some g ∨ w.heap.size ≤ g) :
    MY gm ins E1 vN v' xs (us ++ [u]) (w'.setCell ⟨gm, 2, none⟩ v') := by
  have hgm : vO.ownBlock ≠ some gm := fun e => by have := (h.o.lt gm e).1; omega
  have hbox := (ho.block gm (my_lt h) hgm).trans h.box
  refine ⟨heap_setCell_same w' gm 2 _ _ v' hbox, (h.n.only ho (fun g _ he hv => h.d g hv he)).set (Nat.lt_succ_self _), own_set (by rw [List.length_append]; exact hown) (Nat.lt_succ_self _), fun g hv he => ?_, fun g he => ?_⟩
  · rcases hat g hv with e | e
    · exact h.d g e he
    · have := h.l1 g he; omega
  · have h1 := h.l1 g he; have h2 := ho.size; have h3 := (set_grown w' gm 2 v').size; omega
end Go.Proofs.Ytmlmnelbphjfbaa
