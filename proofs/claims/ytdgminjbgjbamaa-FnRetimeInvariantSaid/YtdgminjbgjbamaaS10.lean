import Derived.Test.YtdgminjbgjbamaaS07
import Derived.Test.YtdgminjbgjbamaaS05
import Derived.Test.YtdgminjbgjbamaaS06
import Derived.Test.YtdgminjbgjbamaaS08
import Derived.Test.YtdgminjbgjbamaaS09
set_option linter.unusedVariables false
set_option linter.unusedSimpArgs false
set_option maxRecDepth 100000
set_option maxHeartbeats 16000000
namespace Go.Proofs.Ytdgminjbgjbamaa
namespace Cir
theorem getD_at {α : Type} {l : List α} {i : Nat} {a : α} (d : α) (h : l[i]? = some a) : l.getD i d = a := by rw [List.getD_eq_getElem?_getD, h]; rfl
theorem at_getD {α : Type} {l : List α} {i : Nat} (d : α) (h : i < l.length) : l[i]? = some (l.getD i d) := by rw [List.getD_eq_getElem?_getD, List.getElem?_eq_getElem h]; rfl
structure Sim (c d : Ci) (f : List Bool → List Bool) : Prop where
  ins : d.ins = c.ins
  outss : d.outs.length = c.outs.length
  zero : f (List.replicate c.next.length false) = List.replicate d.next.length false
  step : ∀ st inp : List Bool, inp.length = c.ins → st.length = c.next.length → lits (vals d (f st) inp) d.next = f (lits (vals c st inp) c.next) ∧ lits (vals d (f st) inp) d.outs = lits (vals c st inp) c.outs
section
variable {c d : Ci} {f : List Bool → List Bool}
theorem Sim.nextOf (h : Sim c d f) {s t : Nat} (e : bits t d.next.length = f (bits s c.next.length)) (x : Nat) : bits (nextOf d t x) d.next.length = f (bits (nextOf c s x) c.next.length) := by
  rw [← lits_next, ← lits_next, e, h.ins, (h.step _ _ (bits_length _ _) (bits_length _ _)).1]
theorem Sim.bad (h : Sim c d f) {s t : Nat} (e : bits t d.next.length = f (bits s c.next.length)) (o x : Nat) : bad d o t x = bad c o s x := by
  unfold Cir.bad outsOf
  rw [e, h.ins, (h.step _ _ (bits_length _ _) (bits_length _ _)).2]
theorem Sim.run (h : Sim c d f) : ∀ (xs : List Nat) (s t : Nat), bits t d.next.length = f (bits s c.next.length) → bits (runN d t xs) d.next.length = f (bits (runN c s xs) c.next.length)
  | [], _, _, e => e
  | x :: xs, s, t, e => h.run xs _ _ (h.nextOf e x)
theorem Sim.start (h : Sim c d f) : bits 0 d.next.length = f (bits 0 c.next.length) := by rw [bits_zero, bits_zero, h.zero]
theorem Sim.none (h : Sim c d f) (hc : Ok c) (hd : Ok d) (o : Nat) : viol d o = none ↔ viol c o = none := by
  rw [viol_none hc, viol_none hd, h.ins]
  constructor
  · intro H s hs x hx
    obtain ⟨p, hp, rfl⟩ := reach_run hs
    rw [← h.bad (h.run p 0 0 h.start)]
    exact H _ (run_reach hd p 0 (reach_zero d) (fun y hy => by rw [h.ins]; exact hp y hy)) x hx
  · intro H t ht x hx
    obtain ⟨p, hp, rfl⟩ := reach_run ht
    rw [h.bad (h.run p 0 0 h.start)]
    exact H _ (run_reach hc p 0 (reach_zero c) (fun y hy => by have := hp y hy; rwa [h.ins] at this)) x hx
theorem Sim.isSome (h : Sim c d f) (hc : Ok c) (hd : Ok d) (o : Nat) : (viol d o).isSome = (viol c o).isSome := by
  have := h.none hc hd o
  rw [← Option.not_isSome_iff_eq_none, ← Option.not_isSome_iff_eq_none] at this
  cases h1 : (viol d o).isSome <;> cases h2 : (viol c o).isSome <;> simp_all
theorem SameStep.sim (h : SameStep c d) : Sim c d id := ⟨h.ins, h.outss, by rw [h.nexts]; rfl, h.step⟩
end
def remP (d : Ci) (keep : List Bool) (v : Nat) : Nat :=
  if v < 1 + d.ins then v else if v < nfirst d then (if keep.getD v false then 1 + d.ins + (keptI (1 + d.ins) keep (v - (1 + d.ins))).length else 0)
  else 1 + d.ins + (keptI (1 + d.ins) keep d.next.length).length + (v - nfirst d)
def remU (d : Ci) (keep : List Bool) (l : Nat) : Nat := 2 * remP d keep (l / 2) + l % 2
def remC (d : Ci) (keep : List Bool) : Ci :=
  { ins := d.ins, next := (keptI (1 + d.ins) keep d.next.length).map (fun j => remU d keep (d.next.getD j 0)), gates := d.gates.map (fun g => (remU d keep g.1, remU d keep g.2)), outs := d.outs.map (remU d keep) }
structure Needs (d : Ci) (keep : List Bool) : Prop where
  out : ∀ l, l ∈ d.outs → keep.getD (l / 2) false = true
  gate : ∀ j, j < d.gates.length → keep.getD (nfirst d + j) false = true → keep.getD ((d.gates.getD j (0, 0)).1 / 2) false = true ∧ keep.getD ((d.gates.getD j (0, 0)).2 / 2) false = true
  latch : ∀ j, j < d.next.length → keep.getD (1 + d.ins + j) false = true → keep.getD (d.next.getD j 0 / 2) false = true
def remF (d : Ci) (keep : List Bool) (st : List Bool) : List Bool := (keptI (1 + d.ins) keep d.next.length).map (fun j => st.getD j false)
theorem keptI_get {F : Nat} {keep : List Bool} {j : Nat} (hk : keep.getD (F + j) false = true) : ∀ n, j < n → (keptI F keep n)[(keptI F keep j).length]? = some j
  | 0, h => by omega
  | n + 1, h => by
    rw [keptI_succ]
    by_cases e : j = n
    · subst e
      rw [if_pos hk, List.getElem?_append_right (Nat.le_refl _), Nat.sub_self]
      rfl
    · have IH := keptI_get hk n (by omega)
      have hl := (List.getElem?_eq_some_iff.1 IH).1
      rw [List.getElem?_append_left hl, IH]
theorem keptI_lt {F : Nat} {keep : List Bool} {n j : Nat} (h : j ∈ keptI F keep n) : j < n ∧ keep.getD (F + j) false = true := by
  unfold keptI at h
  rw [List.mem_filter, List.mem_range] at h
  exact h
theorem keptI_len_lt {F : Nat} {keep : List Bool} {j n : Nat} (hk : keep.getD (F + j) false = true) (h : j < n) : (keptI F keep j).length < (keptI F keep n).length := (List.getElem?_eq_some_iff.1 (keptI_get hk n h)).1
theorem remC_first (d : Ci) (keep : List Bool) : nfirst (remC d keep) = 1 + d.ins + (keptI (1 + d.ins) keep d.next.length).length := by simp [nfirst, remC]
theorem remP_lt {d : Ci} {keep : List Bool} {v k : Nat} (h : v < nfirst d + k) : remP d keep v < nfirst (remC d keep) + k := by
  rw [remC_first]
  unfold remP
  split
  · omega
  · split
    · split
      · rename_i h1 h2 h3
        have hf : nfirst d = 1 + d.ins + d.next.length := rfl
        have := keptI_len_lt (F := 1 + d.ins) (keep := keep) (j := v - (1 + d.ins)) (n := d.next.length) (by rw [show 1 + d.ins + (v - (1 + d.ins)) = v from by omega]; exact h3) (by omega)
        omega
      · omega
    · omega
theorem remU_lt {d : Ci} {keep : List Bool} {l k : Nat} (h : l < 2 * (nfirst d + k)) : remU d keep l < 2 * (nfirst (remC d keep) + k) := by
  have := remP_lt (d := d) (keep := keep) (v := l / 2) (k := k) (by omega)
  unfold remU
  omega
theorem remC_ok {d : Ci} (hd : Ok d) (keep : List Bool) : Ok (remC d keep) := by
  have hl := keptI_le (1 + d.ins) keep d.next.length
  have h3 := hd.nexts
  have hg : nvars (remC d keep) = nfirst (remC d keep) + d.gates.length := by unfold nvars; simp [remC]
  refine ⟨hd.ins, by simp [remC]; omega, by simpa [remC] using hd.gatess, by simpa [remC] using hd.outss, fun k g hk => ?_, fun l h => ?_, fun l h => ?_⟩
  · simp only [remC, List.getElem?_map, Option.map_eq_some_iff] at hk
    obtain ⟨g', hk, rfl⟩ := hk
    have := hd.gate k g' hk
    exact ⟨remU_lt this.1, remU_lt this.2⟩
  · simp only [remC, List.mem_map] at h
    obtain ⟨j, hj, rfl⟩ := h
    rw [hg]
    refine remU_lt (hd.next _ ?_)
    exact List.mem_of_getElem? (at_getD 0 (keptI_lt hj).1)
  · simp only [remC, List.mem_map] at h
    obtain ⟨l', hl', rfl⟩ := h
    rw [hg]
    exact remU_lt (hd.out _ hl')
theorem remF_length (d : Ci) (keep st : List Bool) : (remF d keep st).length = (remC d keep).next.length := by simp [remF, remC]
theorem cons_get {inp st : List Bool} {v : Nat} (h : v < 1 + inp.length) (st' : List Bool) : (false :: (inp ++ st)).getD v false = (false :: (inp ++ st')).getD v false := by
  cases v with
  | zero => rfl
  | succ v =>
    rw [List.getD_cons_succ, List.getD_cons_succ, getD_append_lt false (by omega), getD_append_lt false (by omega)]
theorem cons_get2 {inp st : List Bool} {v : Nat} (h : 1 + inp.length ≤ v) : (false :: (inp ++ st)).getD v false = st.getD (v - (1 + inp.length)) false := by
  obtain ⟨k, rfl⟩ : ∃ k, v = k + 1 := ⟨v - 1, by omega⟩
  rw [List.getD_cons_succ, List.getD_eq_getElem?_getD, List.getElem?_append_right (by omega), ← List.getD_eq_getElem?_getD, show k - inp.length = k + 1 - (1 + inp.length) from by omega]
theorem lit_double (v : List Bool) (p b : Nat) (hb : b < 2) : lit v (2 * p + b) = (v.getD p false != (b == 1)) := by
  unfold lit
  rw [show (2 * p + b) / 2 = p from by omega, show (2 * p + b) % 2 = b from by omega]
theorem rem_val {d : Ci} (hd : Ok d) {keep : List Bool} (hk : Needs d keep) {st inp : List Bool} (l1 : inp.length = d.ins) (l2 : st.length = d.next.length) :
    ∀ k, k ≤ d.gates.length → ∀ v, v < nfirst d + k → keep.getD v false = true → (vals (remC d keep) (remF d keep st) inp).getD (remP d keep v) false = (vals d st inp).getD v false
  | 0, _, v, hv, hkv => by
    have hf : nfirst d = 1 + d.ins + d.next.length := rfl
    have hlt := remP_lt (d := d) (keep := keep) (v := v) (k := 0) hv
    rw [vals_first (remC d keep) l1 (remF_length d keep st) (by omega), vals_first d l1 l2 (by omega)]
    unfold remP
    by_cases h1 : v < 1 + d.ins
    · rw [if_pos h1]
      exact cons_get (by omega) _
    · have hkv' : keep.getD (1 + d.ins + (v - (1 + d.ins))) false = true := by rw [show 1 + d.ins + (v - (1 + d.ins)) = v from by omega]; exact hkv
      rw [if_neg h1, if_pos (by omega), if_pos hkv, cons_get2 (by omega), cons_get2 (by omega)]
      have := keptI_get hkv' d.next.length (by omega)
      unfold remF
      rw [l1, show 1 + d.ins + (keptI (1 + d.ins) keep (v - (1 + d.ins))).length - (1 + d.ins) = (keptI (1 + d.ins) keep (v - (1 + d.ins))).length from by omega]
      rw [List.getD_eq_getElem?_getD, List.getElem?_map, this]
      rfl
  | k + 1, hkl, v, hv, hkv => by
    by_cases e : v < nfirst d + k
    · exact rem_val hd hk l1 l2 k (by omega) v e hkv
    · obtain rfl : v = nfirst d + k := by omega
      have hf : nfirst d = 1 + d.ins + d.next.length := rfl
      have hg := ok_getD hd (show k < d.gates.length by omega)
      have hgk := at_getD (0, 0) (show k < d.gates.length by omega)
      have hcl := hk.gate k (by omega) hkv
      generalize d.gates.getD k (0, 0) = g at *
      have hp : remP d keep (nfirst d + k) = nfirst (remC d keep) + k := by
        rw [remC_first]
        unfold remP
        rw [if_neg (by omega), if_neg (by omega)]
        omega
      have hgk' : (remC d keep).gates[k]? = some (remU d keep g.1, remU d keep g.2) := by
        simp only [remC, List.getElem?_map, hgk]
        rfl
      have IH := rem_val hd hk l1 l2 k (by omega)
      rw [hp, vals_gate (remC d keep) l1 (remF_length d keep st) (remC_ok hd keep) hgk', vals_gate d l1 l2 hd hgk]
      unfold gval
      have key : ∀ l, l < 2 * (nfirst d + k) → keep.getD (l / 2) false = true → lit (vals (remC d keep) (remF d keep st) inp) (remU d keep l) = lit (vals d st inp) l := fun l h1 h2 => by
        unfold remU
        rw [lit_double _ _ _ (by omega), IH (l / 2) (by omega) h2]
        rfl
      rw [key _ hg.1 hcl.1, key _ hg.2 hcl.2]
theorem rem_lit {d : Ci} (hd : Ok d) {keep : List Bool} (hk : Needs d keep) {st inp : List Bool} (l1 : inp.length = d.ins) (l2 : st.length = d.next.length) {l : Nat} (h1 : l < 2 * nvars d) (h2 : keep.getD (l / 2) false = true) : lit (vals (remC d keep) (remF d keep st) inp) (remU d keep l) = lit (vals d st inp) l := by
  unfold remU
  rw [lit_double _ _ _ (by omega), rem_val hd hk l1 l2 _ (Nat.le_refl _) (l / 2) (by unfold nvars at h1; omega) h2]
  rfl
theorem rem_sim {d : Ci} (hd : Ok d) {keep : List Bool} (hk : Needs d keep) : Sim d (remC d keep) (remF d keep) := by
  refine ⟨rfl, by simp [remC], ?_, fun st inp l1 l2 => ⟨?_, ?_⟩⟩
  · have : ∀ j, (List.replicate d.next.length false).getD j false = false := fun j => by
      rw [List.getD_eq_getElem?_getD, List.getElem?_replicate]
      split <;> rfl
    unfold remF
    rw [show (remC d keep).next.length = (keptI (1 + d.ins) keep d.next.length).length from by simp [remC]]
    generalize keptI (1 + d.ins) keep d.next.length = L
    rw [List.map_congr_left (g := fun _ => false) (fun j _ => this j), List.map_const']
  · unfold lits remF
    rw [show (remC d keep).next = (keptI (1 + d.ins) keep d.next.length).map (fun j => remU d keep (d.next.getD j 0)) from rfl, List.map_map]
    refine List.map_congr_left fun j hj => ?_
    obtain ⟨hj, hkj⟩ := keptI_lt hj
    have hn := at_getD 0 hj
    show lit (vals (remC d keep) (remF d keep st) inp) (remU d keep (d.next.getD j 0)) = _
    rw [rem_lit hd hk l1 l2 (hd.next _ (List.mem_of_getElem? hn)) (hk.latch j hj hkj), List.getD_eq_getElem?_getD (l := List.map _ _), List.getElem?_map, hn]
    rfl
  · unfold lits
    rw [show (remC d keep).outs = d.outs.map (remU d keep) from rfl, List.map_map]
    exact List.map_congr_left fun l hl => rem_lit hd hk l1 l2 (hd.out l hl) (hk.out l hl)
end Cir
end Go.Proofs.Ytdgminjbgjbamaa
namespace Go.Proofs.Ytdgminjbgjbamaa
open Go.RowKit Go.Maps
def gz (l : List (Nat × Nat)) : List (Int × Int) := l.map fun s => ((s.1 : Int), (s.2 : Int))
theorem gz_snoc (l : List (Nat × Nat)) (x y : Nat) : cubes (gz (l ++ [(x, y)])) = cubes (gz l) ++ [.int .i64 (x : Int), .int .i64 (y : Int)] := by
  unfold gz
  rw [List.map_append, cubes_append]
  rfl
theorem gz_length (l : List (Nat × Nat)) : (gz l).length = l.length := by unfold gz; simp
theorem pcells_only {E : Nat → Prop} {w w' : World} {g : Nat} {i : Int} {vn vg vo : Value} (h : PCells w g i vn vg vo) (ho : Only E w w') (hne : ¬ E g) : PCells w' g i vn vg vo := by
  obtain ⟨z, a, b, c, e⟩ := h
  have hb := ho.block g z hne
  exact ⟨Nat.lt_of_lt_of_le z ho.size, (World.cell?_of_block hb).trans a, (World.cell?_of_block hb).trans b, (World.cell?_of_block hb).trans c, (World.cell?_of_block hb).trans e⟩
structure Bx (w0 : World) (B gC gR gx : Nat) (ins : Int) (cn cg co vm vN vG vO : Value) (m N O : List Nat) (G : List (Nat × Nat)) (w : World) : Prop where
  hC : PCells w gC ins cn cg co
  hR : w.heap[gR]? = some (.cells #[.int .i64 0, .slice none 0 0, .slice none 0 0, .slice none 0 0] 26 (0, 0))
  hx : w.heap[gx]? = some (.cells #[.int .i64 ins, vN, vG, vO] 26 (0, 0))
  m : w.ownsRow B 3 1 vm m.length (nints m)
  n : w.ownsRow B 3 1 vN N.length (nints N)
  g : w.ownsRow B 72 2 vG G.length (cubes (gz G))
  o : w.ownsRow B 3 1 vO O.length (nints O)
  mn : Apart vm vN
  mo : Apart vm vO
  no : Apart vN vO
  lC : gC < B
  lR : gR < B
  xC : gC ≠ gx
  xR : gR ≠ gx
  lx : w0.heap.size ≤ gx
  lB : w0.heap.size ≤ B
  zB : B ≤ w.heap.size
  below : Below w0.heap.size w0 w
section
variable {w0 w w' w9 : World} {B gC gR gx x y : Nat} {ins : Int} {cn cg co vm vN vG vO vm' vN' vG' vO' : Value} {m N O : List Nat} {G : List (Nat × Nat)}
theorem Bx.step (h : Bx w0 B gC gR gx ins cn cg co vm vN vG vO m N O G w) (hb : Below w.heap.size w w') : Bx w0 B gC gR gx ins cn cg co vm vN vG vO m N O G w' :=
  ⟨h.hC.below hb, (hb.block gR (Nat.lt_of_lt_of_le h.lR h.zB)).trans h.hR, (hb.block gx (blk_ltB h.hx)).trans h.hx, own_below h.m hb, own_below h.n hb, own_below h.g hb, own_below h.o hb, h.mn, h.mo, h.no, h.lC, h.lR, h.xC, h.xR, h.lx, h.lB, Nat.le_trans h.zB hb.size, h.below.trans (hb.mono h.below.size)⟩
theorem Bx.keep {E : Nat → Prop} (h : Bx w0 B gC gR gx ins cn cg co vm vN vG vO m N O G w) (ho : Only E w w') (hE : ∀ g, E g → B ≤ g) (hx : ¬ E gx) : PCells w' gC ins cn cg co ∧ w'.heap[gR]? = some (.cells #[.int .i64 0, .slice none 0 0, .slice none 0 0, .slice none 0 0] 26 (0, 0)) ∧ w'.heap[gx]? = some (.cells #[.int .i64 ins, vN, vG, vO] 26 (0, 0)) ∧ Below w0.heap.size w0 w' := by
  have l1 := h.lC
  have l2 := h.lR
  have l3 := h.zB
  have l4 := h.lB
  refine ⟨pcells_only h.hC ho (fun e => by have := hE _ e; omega), (ho.block gR (by omega) (fun e => by have := hE _ e; omega)).trans h.hR, (ho.block gx (blk_ltB h.hx) hx).trans h.hx, Only.below h.below ho h.below.size (fun q hq => by have := hE q hq; omega)⟩
theorem Bx.rowN (h : Bx w0 B gC gR gx ins cn cg co vm vN vG vO m N O G w) (ho : Only (fun g => vN.ownBlock = some g) w w') : PCells w' gC ins cn cg co ∧ w'.heap[gR]? = some (.cells #[.int .i64 0, .slice none 0 0, .slice none 0 0, .slice none 0 0] 26 (0, 0)) ∧ w'.heap[gx]? = some (.cells #[.int .i64 ins, vN, vG, vO] 26 (0, 0)) ∧ Below w0.heap.size w0 w' :=
  h.keep ho (fun g hg => (h.n.lt g hg).1) (fun e => own_ne_tag h.n h.hx (by decide) e)
theorem Bx.rowG (h : Bx w0 B gC gR gx ins cn cg co vm vN vG vO m N O G w) (ho : Only (fun g => vG.ownBlock = some g) w w') : PCells w' gC ins cn cg co ∧ w'.heap[gR]? = some (.cells #[.int .i64 0, .slice none 0 0, .slice none 0 0, .slice none 0 0] 26 (0, 0)) ∧ w'.heap[gx]? = some (.cells #[.int .i64 ins, vN, vG, vO] 26 (0, 0)) ∧ Below w0.heap.size w0 w' :=
  h.keep ho (fun g hg => (h.g.lt g hg).1) (fun e => own_ne_tag h.g h.hx (by decide) e)
theorem Bx.rowO (h : Bx w0 B gC gR gx ins cn cg co vm vN vG vO m N O G w) (ho : Only (fun g => vO.ownBlock = some g) w w') : PCells w' gC ins cn cg co ∧ w'.heap[gR]? = some (.cells #[.int .i64 0, .slice none 0 0, .slice none 0 0, .slice none 0 0] 26 (0, 0)) ∧ w'.heap[gx]? = some (.cells #[.int .i64 ins, vN, vG, vO] 26 (0, 0)) ∧ Below w0.heap.size w0 w' :=
  h.keep ho (fun g hg => (h.o.lt g hg).1) (fun e => own_ne_tag h.o h.hx (by decide) e)
theorem bx_apart {w : World} {v v' u : Value} (h : Apart v u) (hat : ∀ g, v'.ownBlock = some g → v.ownBlock = some g ∨ w.heap.size ≤ g) (hu : ∀ g, u.ownBlock = some g → g < w.heap.size) : Apart v' u := fun g h1 h2 => by
  rcases hat g h1 with e | e
  · exact h g e h2
  · have := hu g h2; omega
theorem setx (hx : w.heap[gx]? = some (.cells #[.int .i64 ins, vN, vG, vO] 26 (0, 0))) : (w.setCell ⟨gx, 1, none⟩ vN').heap[gx]? = some (.cells #[.int .i64 ins, vN', vG, vO] 26 (0, 0)) ∧ (w.setCell ⟨gx, 2, none⟩ vG').heap[gx]? = some (.cells #[.int .i64 ins, vN, vG', vO] 26 (0, 0)) ∧ (w.setCell ⟨gx, 3, none⟩ vO').heap[gx]? = some (.cells #[.int .i64 ins, vN, vG, vO'] 26 (0, 0)) := by
  have h1 := heap_setCell_same w gx 1 _ _ vN' hx
  have h2 := heap_setCell_same w gx 2 _ _ vG' hx
  have h3 := heap_setCell_same w gx 3 _ _ vO' hx
  simp at h1 h2 h3
  exact ⟨h1, h2, h3⟩
theorem Bx.appN (h : Bx w0 B gC gR gx ins cn cg co vm vN vG vO m N O G w) (own : w9.ownsRow B 3 1 vN' (N.length + 1) (nints N ++ [.int .i64 (x : Int)])) (ho : Only (fun g => vN.ownBlock = some g) w w9) (hat : ∀ g, vN'.ownBlock = some g → vN.ownBlock = some g ∨ w.heap.size ≤ g) : Bx w0 B gC gR gx ins cn cg co vm vN' vG vO m (N ++ [x]) O G (w9.setCell ⟨gx, 1, none⟩ vN') := by
  have k := h.rowN ho
  have hs := set1_only w9 gx 1 vN'
  have hx' := (setx (vN' := vN') (vG' := vG) (vO' := vO) k.2.2.1).1
  have m9 := own_only h.m ho (fun g h2 h3 => h.mn g h2 h3)
  have g9 := own_only h.g ho (fun g h2 h3 => own_ne_own h.g h.n (by decide) h2 h3)
  have o9 := own_only h.o ho (fun g h2 h3 => h.no g h3 h2)
  have zz := ho.size
  have l1 := h.lC
  have l2 := h.lR
  have l3 := h.zB
  have l4 := h.lx
  refine ⟨pcells_only k.1 hs (fun e => h.xC e), (hs.block gR (by omega) (fun e => h.xR e)).trans k.2.1, hx', own_only m9 hs (fun g hg e => own_ne_tag m9 k.2.2.1 (by decide) (by rw [hg, e])), ?_, own_only g9 hs (fun g hg e => own_ne_tag g9 k.2.2.1 (by decide) (by rw [hg, e])), own_only o9 hs (fun g hg e => own_ne_tag o9 k.2.2.1 (by decide) (by rw [hg, e])), (bx_apart h.mn.symm hat fun g hg => (h.m.lt g hg).2).symm, h.mo, bx_apart h.no hat fun g hg => (h.o.lt g hg).2, h.lC, h.lR, h.xC, h.xR, h.lx, h.lB, Nat.le_trans h.zB (Nat.le_trans zz hs.size), Only.below k.2.2.2 hs k.2.2.2.size (fun q hq => by omega)⟩
  rw [List.length_append, List.length_singleton, nints_snoc]
  exact own_only own hs (fun g hg e => own_ne_tag own k.2.2.1 (by decide) (by rw [hg, e]))
theorem Bx.appO (h : Bx w0 B gC gR gx ins cn cg co vm vN vG vO m N O G w) (own : w9.ownsRow B 3 1 vO' (O.length + 1) (nints O ++ [.int .i64 (x : Int)])) (ho : Only (fun g => vO.ownBlock = some g) w w9) (hat : ∀ g, vO'.ownBlock = some g → vO.ownBlock = some g ∨ w.heap.size ≤ g) : Bx w0 B gC gR gx ins cn cg co vm vN vG vO' m N (O ++ [x]) G (w9.setCell ⟨gx, 3, none⟩ vO') := by
  have k := h.rowO ho
  have hs := set1_only w9 gx 3 vO'
  have hx' := (setx (vN' := vN) (vG' := vG) (vO' := vO') k.2.2.1).2.2
  have m9 := own_only h.m ho (fun g h2 h3 => h.mo g h2 h3)
  have g9 := own_only h.g ho (fun g h2 h3 => own_ne_own h.g h.o (by decide) h2 h3)
  have n9 := own_only h.n ho (fun g h2 h3 => h.no g h2 h3)
  have zz := ho.size
  have l1 := h.lC
  have l2 := h.lR
  have l3 := h.zB
  have l4 := h.lx
  refine ⟨pcells_only k.1 hs (fun e => h.xC e), (hs.block gR (by omega) (fun e => h.xR e)).trans k.2.1, hx', own_only m9 hs (fun g hg e => own_ne_tag m9 k.2.2.1 (by decide) (by rw [hg, e])), own_only n9 hs (fun g hg e => own_ne_tag n9 k.2.2.1 (by decide) (by rw [hg, e])), own_only g9 hs (fun g hg e => own_ne_tag g9 k.2.2.1 (by decide) (by rw [hg, e])), ?_, h.mn, (bx_apart h.mo.symm hat fun g hg => (h.m.lt g hg).2).symm, (bx_apart h.no.symm hat fun g hg => (h.n.lt g hg).2).symm, h.lC, h.lR, h.xC, h.xR, h.lx, h.lB, Nat.le_trans h.zB (Nat.le_trans zz hs.size), Only.below k.2.2.2 hs k.2.2.2.size (fun q hq => by omega)⟩
  rw [List.length_append, List.length_singleton, nints_snoc]
  exact own_only own hs (fun g hg e => own_ne_tag own k.2.2.1 (by decide) (by rw [hg, e]))
theorem Bx.appG (h : Bx w0 B gC gR gx ins cn cg co vm vN vG vO m N O G w) (own : w9.ownsRow B 72 2 vG' (G.length + 1) (cubes (gz G) ++ [.int .i64 (x : Int), .int .i64 (y : Int)])) (ho : Only (fun g => vG.ownBlock = some g) w w9) : Bx w0 B gC gR gx ins cn cg co vm vN vG' vO m N O (G ++ [(x, y)]) (w9.setCell ⟨gx, 2, none⟩ vG') := by
  have k := h.rowG ho
  have hs := set1_only w9 gx 2 vG'
  have hx' := (setx (vN' := vN) (vG' := vG') (vO' := vO) k.2.2.1).2.1
  have m9 := own_only h.m ho (fun g h2 h3 => own_ne_own h.m h.g (by decide) h2 h3)
  have o9 := own_only h.o ho (fun g h2 h3 => own_ne_own h.o h.g (by decide) h2 h3)
  have n9 := own_only h.n ho (fun g h2 h3 => own_ne_own h.n h.g (by decide) h2 h3)
  have zz := ho.size
  have l1 := h.lC
  have l2 := h.lR
  have l3 := h.zB
  have l4 := h.lx
  refine ⟨pcells_only k.1 hs (fun e => h.xC e), (hs.block gR (by omega) (fun e => h.xR e)).trans k.2.1, hx', own_only m9 hs (fun g hg e => own_ne_tag m9 k.2.2.1 (by decide) (by rw [hg, e])), own_only n9 hs (fun g hg e => own_ne_tag n9 k.2.2.1 (by decide) (by rw [hg, e])), ?_, own_only o9 hs (fun g hg e => own_ne_tag o9 k.2.2.1 (by decide) (by rw [hg, e])), h.mn, h.mo, h.no, h.lC, h.lR, h.xC, h.xR, h.lx, h.lB, Nat.le_trans h.zB (Nat.le_trans zz hs.size), Only.below k.2.2.2 hs k.2.2.2.size (fun q hq => by omega)⟩
  rw [List.length_append, List.length_singleton, gz_snoc]
  exact own_only own hs (fun g hg e => own_ne_tag own k.2.2.1 (by decide) (by rw [hg, e]))
theorem Bx.map (hm : w.ownsRow B 3 1 vm m.length (nints m)) {l : Nat} (hl : l / 2 < m.length) (hb : l ≤ 1000000) (hv : ∀ x ∈ m, x ≤ 1000000) : Calls Try.prog 65 #[vm, .int .i64 (l : Int)] w fun e w'' => e = .returned (.int .i64 (Cir.useX m l : Nat)) ∧ Below w.heap.size w w'' :=
  l3Map_any vm l m w (by
    have h := Row.of_own hm
    unfold IntsAt
    rw [List.length_map]
    exact h) hl hb hv
theorem useX_le {m : List Nat} {b l : Nat} (hv : ∀ x ∈ m, x ≤ 2 * b + 1) : Cir.useX m l ≤ 2 * b + 1 := by
  have := Cir.useX_lt (N := b + 1) (by omega) (fun x hx => by have := hv x hx; omega) l
  omega
end
end Go.Proofs.Ytdgminjbgjbamaa
namespace Go.Proofs.Ytdgminjbgjbamaa
open Go.RowKit Go.Maps
namespace Cir
def rPlace (F i bent v : Nat) : Nat := if v < F then 2 * v else if v = F + i then 2 * F + bent else 2 * v + 2
def rRow (F n i bent : Nat) : List Nat := (List.range n).map (rPlace F i bent)
def bentC (d : Ci) (i : Nat) : Nat := ((d.gates.getD i (0, 0)).1 % 2) * ((d.gates.getD i (0, 0)).2 % 2)
def rMap (d : Ci) (i : Nat) : Nat → Nat := useX (rRow (nfirst d) (nfirst d + d.gates.length) i (bentC d i))
def retC (d : Ci) (i : Nat) : Ci :=
  { ins := d.ins
    next := d.next.map (rMap d i) ++ [2 * (nfirst d + d.gates.length + 1) + bentC d i]
    gates := d.gates.map (fun g => (rMap d i g.1, rMap d i g.2)) ++ [((d.next.map (rMap d i)).getD ((d.gates.getD i (0, 0)).1 / 2 - d.ins - 1) 0 ^^^ (d.gates.getD i (0, 0)).1 % 2, (d.next.map (rMap d i)).getD ((d.gates.getD i (0, 0)).2 / 2 - d.ins - 1) 0 ^^^ (d.gates.getD i (0, 0)).2 % 2)]
    outs := d.outs.map (rMap d i) }
theorem rRow_succ (F k i bent : Nat) : rRow F (k + 1) i bent = rRow F k i bent ++ [rPlace F i bent k] := by
  unfold rRow
  rw [List.range_succ, List.map_append, List.map_singleton]
theorem rRow_length (F k i bent : Nat) : (rRow F k i bent).length = k := by unfold rRow; simp
theorem rRow_le {F n i bent : Nat} (hb : bent ≤ 1) (hn : n ≤ 40) (hF : F ≤ 40) : ∀ x ∈ rRow F n i bent, x ≤ 2 * 50 + 1 := fun x hx => by
  unfold rRow at hx
  obtain ⟨v, hv, rfl⟩ := List.mem_map.1 hx
  have := List.mem_range.1 hv
  unfold rPlace
  split
  · omega
  · split <;> omega
end Cir
section
variable {w w9 : World} {B gx i q : Nat} {E : Nat → Prop} {u : Value} {ob : Obj}
theorem Bx.blk (hE : ∀ g, E g → B ≤ g) (ho : Only E w w9) (hq : w.heap[q]? = some ob) (hqB : q < B) (hqx : q ≠ gx) : (w9.setCell ⟨gx, i, none⟩ u).heap[q]? = some ob := by
  have h9 := (ho.block q (heap_lt hq) (fun e => by have := hE q e; omega)).trans hq
  exact ((set1_only w9 gx i u).block q (heap_lt h9) hqx).trans h9
end
theorem append_gatesR {w : World} {ops : Array Oper} {rest : List Oper} {o : Oper} {a : Act} {Q : Exit → Act → World → Prop} (hgd : o.guard = none) (s x : Operand)
    (ho : o.op = .call { callee := .builtin .append, args := #[s, x], argTypes := #[24, 24] })
    (base : Nat) (v : Value) (n : Nat) (xs : List Value) (hs : a.eval s = v) (hown : w.ownsRow base 72 2 v n xs) (sv : Value) (m : Nat) (news : List Value) (hx : a.eval x = sv) (hr : Row w 2 sv m news) (h1 : ∀ u ∈ news, u.oneCell' = true)
    (h63 : n + m ≤ 1000000) (hbase : base ≤ w.heap.size)
    (h : ∀ v' w', w'.ownsRow base 72 2 v' (n + m) (xs ++ news) → w.grownBy w' v.ownBlock → (v'.ownBlock = v.ownBlock ∨ v'.ownBlock = some w.heap.size) → wpList Try.prog ops Q rest (a.put o.dst v') w') : wpList Try.prog ops Q (o :: rest) a w := by
  obtain ⟨i, hi, hz0, hz1, hz2⟩ := info_parts info_gate
  exact wpList_append_at hgd s x 24 ho base 72 i _ 2 16 Try.underlying24 hi hz0 hz1 hz2 rfl (by decide) v n xs hs hown sv m news hx hr h1 (by unfold maxLen; omega) (by omega) hbase h
structure RetG (d : Ci) (w : World) (B gC gR gG gx : Nat) (cn cg co : Value) (x1 x2 : Nat) (vm : Value) (m : List Nat) (u : Nat → Nat) (k : Nat) (wr : World) : Prop where
  out : ∃ vG : Value, Hid (Bx w B gC gR gx (d.ins : Int) cn cg co vm (.slice none 0 0) vG (.slice none 0 0) m [] [] ((d.gates.take k).map fun g => (u g.1, u g.2)) wr) ∧ Hid (wr.heap[gG]? = some (.cells #[.int .i64 (x1 : Int), .int .i64 (x2 : Int)] 72 (0, 0)))
structure RetN (d : Ci) (w : World) (B gC gR gG gx : Nat) (cn cg co : Value) (x1 x2 : Nat) (vm : Value) (m : List Nat) (u : Nat → Nat) (vG : Value) (G : List (Nat × Nat)) (k : Nat) (wr : World) : Prop where
  out : ∃ vN : Value, Hid (Bx w B gC gR gx (d.ins : Int) cn cg co vm vN vG (.slice none 0 0) m ((d.next.take k).map u) [] G wr) ∧ Hid (wr.heap[gG]? = some (.cells #[.int .i64 (x1 : Int), .int .i64 (x2 : Int)] 72 (0, 0)))
structure RetO (d : Ci) (w : World) (B gC gR gx : Nat) (cn cg co : Value) (vm vN vG : Value) (m N : List Nat) (u : Nat → Nat) (G : List (Nat × Nat)) (k : Nat) (wr : World) : Prop where
  out : ∃ vO : Value, Hid (Bx w B gC gR gx (d.ins : Int) cn cg co vm vN vG vO m N ((d.outs.take k).map u) G wr)
structure RetA (d : Ci) (w : World) (B gC gR gG : Nat) (cn cg co : Value) (x1 x2 F i bent k : Nat) (vm : Value) (wr : World) : Prop where
  m : wr.ownsRow B 3 1 vm k (nints (Cir.rRow F k i bent))
  c : PCells wr gC (d.ins : Int) cn cg co
  r : wr.heap[gR]? = some (.cells #[.int .i64 0, .slice none 0 0, .slice none 0 0, .slice none 0 0] 26 (0, 0))
  g : wr.heap[gG]? = some (.cells #[.int .i64 (x1 : Int), .int .i64 (x2 : Int)] 72 (0, 0))
  b : Below w.heap.size w wr
  z : B ≤ wr.heap.size
theorem RetA.below {d : Ci} {w : World} {B gC gR gG : Nat} {cn cg co : Value} {x1 x2 F i bent k : Nat} {vm : Value} {wr w' : World} (h : RetA d w B gC gR gG cn cg co x1 x2 F i bent k vm wr) (hb : Below wr.heap.size wr w') : RetA d w B gC gR gG cn cg co x1 x2 F i bent k vm w' :=
  ⟨own_below h.m hb, h.c.below hb, (hb.block gR (blk_ltB h.r)).trans h.r, (hb.block gG (blk_ltB h.g)).trans h.g, h.b.trans (hb.mono h.b.size), Nat.le_trans h.z hb.size⟩
theorem RetA.app {d : Ci} {w : World} {B gC gR gG : Nat} {cn cg co : Value} {x1 x2 F i bent k : Nat} {vm vm' : Value} {wr w' : World} {o1 : Obj} (h : RetA d w B gC gR gG cn cg co x1 x2 F i bent k vm wr) (h1 : gC < B) (h2 : gR < B) (h3 : gG < B) (h4 : w.heap.size ≤ B)
    (own : w'.ownsRow B 3 1 vm' (k + 1) (nints (Cir.rRow F k i bent) ++ [.int .i64 (Cir.rPlace F i bent k : Nat)])) (hg : (wr.alloc o1).grownBy w' vm.ownBlock) : RetA d w B gC gR gG cn cg co x1 x2 F i bent (k + 1) vm' w' := by
  have ha := h.below (bel_new wr o1)
  have ho : Only (fun g => vm.ownBlock = some g) (wr.alloc o1) w' := Only.grown hg fun k hk => hk
  have hB : ∀ g, vm.ownBlock = some g → B ≤ g := fun g hg => (ha.m.lt g hg).1
  refine ⟨?_, pcells_only ha.c ho (fun e => by have := hB _ e; omega), (ho.block gR (blk_ltB ha.r) (fun e => by have := hB _ e; omega)).trans ha.r, (ho.block gG (blk_ltB ha.g) (fun e => by have := hB _ e; omega)).trans ha.g, Only.below ha.b ho ha.b.size (fun q hq => by have := hB q hq; omega), Nat.le_trans ha.z ho.size⟩
  rw [Cir.rRow_succ, nints_snoc]
  exact own
theorem specRetime_ok (v : Value) (d : Ci) (i : Nat) (w : World) (h : CircAt w v (Cir.toCz d)) (hd : Cir.Ok d) (hv : Cir.valid (Cir.toCz d) = true) (hcan : Cir.canR d (i : Int) = true) (hi : i < d.gates.length) :
    Calls Try.prog 22 #[v, .int .i64 (i : Int)] w (fun e w' => (∃ v', e = .returned v' ∧ CircOwn 0 w' v' (Cir.toCz (Cir.retC d i))) ∧ Below w.heap.size w w') := by
  have s1 := hd.ins
  have s2 := hd.nexts
  have s3 := hd.gatess
  have s4 := hd.outss
  have HC := Lib.hid h
  obtain ⟨An, cn, Ag, cg, Ao, co, rfl⟩ := h.shape
  have hln : (Cir.toCz d).next.length = d.next.length := List.length_map _
  have hlg : (Cir.toCz d).gates.length = d.gates.length := List.length_map _
  have hlo : (Cir.toCz d).outs.length = d.outs.length := List.length_map _
  have hins : (Cir.toCz d).ins = (d.ins : Int) := rfl
  rw [hln, hlg, hlo, hins] at HC ⊢
  have HCk := HC
  obtain ⟨vn, vg, vo, e, r1, r2, r3⟩ := HC.out
  injection e with e
  simp only [Array.mk.injEq, List.cons.injEq, and_true] at e
  obtain ⟨-, e1, e2, e3⟩ := e
  subst e1 e2 e3
  have RN : Hid (Row w 1 (.slice An d.next.length cn) d.next.length (ints (Cir.toCz d).next)) := Lib.hid (by have := r1; unfold IntsAt at this; rwa [hln] at this)
  have RG : Hid (Row w 2 (.slice Ag d.gates.length cg) d.gates.length (cubes (Cir.toCz d).gates)) := Lib.hid (by have := r2; unfold CubesAt at this; rwa [hlg] at this)
  have RO : Hid (Row w 1 (.slice Ao d.outs.length co) d.outs.length (ints (Cir.toCz d).outs)) := Lib.hid (by have := r3; unfold IntsAt at this; rwa [hlo] at this)
  have hb0 := bel_new w (.cells #[.int .i64 (d.ins : Int), .slice An d.next.length cn, .slice Ag d.gates.length cg, .slice Ao d.outs.length co] 26)
  have hsz : (w.alloc (.cells #[.int .i64 (d.ins : Int), .slice An d.next.length cn, .slice Ag d.gates.length cg, .slice Ao d.outs.length co] 26)).heap.size = w.heap.size + 1 := by simp
  have PC := PCells.boxed w (d.ins : Int) (.slice An d.next.length cn) (.slice Ag d.gates.length cg) (.slice Ao d.outs.length co) 26
  obtain ⟨W1, hW1⟩ : ∃ W1, w.alloc (.cells #[.int .i64 (d.ins : Int), .slice An d.next.length cn, .slice Ag d.gates.length cg, .slice Ao d.outs.length co] 26) = W1 := ⟨_, rfl⟩
  rw [hW1] at hb0 hsz PC
  have hb1 := bel_new W1 (.cells #[.int .i64 0, .slice none 0 0, .slice none 0 0, .slice none 0 0] 26)
  have hR1 := heap_alloc_new W1 (.cells #[.int .i64 0, .slice none 0 0, .slice none 0 0, .slice none 0 0] 26)
  have hB1 := hb0.trans (hb1.mono hb0.size)
  have hz1 : (W1.alloc (.cells #[.int .i64 0, .slice none 0 0, .slice none 0 0, .slice none 0 0] 26)).heap.size = W1.heap.size + 1 := by simp
  obtain ⟨zz, p0, p1, p2, p3⟩ := PC.below hb1
  have HC1 := Lib.hid (HC.out.below hB1)
  have HB1 := Lib.hid hB1
  have HR1 := Lib.hid hR1
  have hgw : W1.heap.size = w.heap.size + 1 := hsz
  have HD := Lib.hid hd
  have Hv := Lib.hid hv
  have Hcan := Lib.hid hcan
  clear hb0 hb1 hB1 hR1 h PC hln hlg hlo hins r1 r2 r3 hd hcan
  go_enter Try.func22, Try.ntmps22
  go_wp2_with fail
  generalize W1.alloc (.cells #[.int .i64 0, .slice none 0 0, .slice none 0 0, .slice none 0 0] 26) = W2 at *
  have HV := Lib.hid (specCan_ok _ d (i : Int) _ HC1.out HD.out Hv.out ⟨by omega, by omega⟩)
  rw [Hcan.out] at HV
  obtain ⟨gC, hgC⟩ : ∃ gC, gC = w.heap.size := ⟨_, rfl⟩
  obtain ⟨gR, hgR⟩ : ∃ gR, gR = w.heap.size + 1 := ⟨_, rfl⟩
  have PC1 : Hid (PCells W2 gC (d.ins : Int) (.slice An d.next.length cn) (.slice Ag d.gates.length cg) (.slice Ao d.outs.length co)) := Lib.hid (by rw [hgC]; exact ⟨zz, p0, p1, p2, p3⟩)
  rw [← hgC] at p0 p1 p2 p3 zz
  rw [hgw, ← hgR] at HR1
  rw [← hgR, ← hgC]
  have hwR : w.heap.size ≤ gR := by omega
  have hwC : w.heap.size ≤ gC := by omega
  have hgRz := blk_ltB HR1.out
  have HgRC := Lib.hid (show gR = gC + 1 by omega)
  clear hW1 hsz hgw hgC hgR hz1
  refine HV.out.mono ?_
  rintro e w3 ⟨rfl, hb3⟩
  have HC3 := Lib.hid (HC1.out.below hb3)
  have PC3 := Lib.hid (PC1.out.below hb3)
  have HR3 := Lib.hid ((hb3.block gR hgRz).trans HR1.out)
  have HB3 := Lib.hid (HB1.out.trans (hb3.mono HB1.out.size))
  clear p0 p1 p2 p3 zz hb3 HB1 HR1 HC1 HV PC1 HC hv
  obtain ⟨zz, p0, p1, p2, p3⟩ := PC3.out
  obtain ⟨⟨x1, x2⟩, hgt⟩ := at_some hi
  obtain ⟨bq, o, x, rfl, hbl, hx, hs1, hs2⟩ := cubes_open RG.out HB3.out (show d.gates.length = (Cir.toCz d).gates.length from (List.length_map _).symm) (i := i) (by rw [show (Cir.toCz d).gates.length = d.gates.length from List.length_map _]; exact hi)
  have hxe : x = ((x1 : Int), (x2 : Int)) := by
    have h1 := hx.out
    unfold Cir.toCz at h1
    simp only [List.getElem?_map, hgt] at h1
    exact (Option.some.inj h1).symm
  subst hxe
  simp only at hs1 hs2
  have HLat : Hid (d.ins + 1 ≤ x1 / 2 ∧ x1 / 2 ≤ d.ins + d.next.length ∧ d.ins + 1 ≤ x2 / 2 ∧ x2 / 2 ≤ d.ins + d.next.length) := Lib.hid (by
    have h := Hcan.out
    unfold Cir.canR Cir.isLat at h
    rw [Int.toNat_natCast, List.getD_eq_getElem?_getD, hgt, Option.getD_some] at h
    simp only [Bool.and_eq_true, decide_eq_true_iff] at h
    omega)
  clear Hcan
  have hbent : Cir.bentC d i = x1 % 2 * (x2 % 2) := by unfold Cir.bentC; rw [List.getD_eq_getElem?_getD, hgt, Option.getD_some]
  have hr1 : (x1 : Int).tmod 2 = ((x1 % 2 : Nat) : Int) := by rw [Int.tmod_eq_emod_of_nonneg (by omega)]; rfl
  have hr2 : (x2 : Int).tmod 2 = ((x2 % 2 : Nat) : Int) := by rw [Int.tmod_eq_emod_of_nonneg (by omega)]; rfl
  obtain ⟨b1, hb1⟩ : ∃ b, x1 % 2 = b := ⟨_, rfl⟩
  obtain ⟨b2, hb2⟩ : ∃ b, x2 % 2 = b := ⟨_, rfl⟩
  have hb11 : b1 ≤ 1 := by omega
  have hb21 : b2 ≤ 1 := by omega
  rw [hb1, hb2] at hbent
  rw [hb1] at hr1
  rw [hb2] at hr2
  obtain ⟨bent, hbe⟩ : ∃ b, b1 * b2 = b := ⟨_, rfl⟩
  rw [hbe] at hbent
  have hbb : bent ≤ 1 := by
    rw [← hbe]
    have := Nat.mul_le_mul hb11 hb21
    omega
  have hbI : (b1 : Int) * (b2 : Int) = (bent : Int) := by rw [← hbe]; simp
  have hw1 : IntKind.i64.wrap (b1 : Int) = (b1 : Int) := IntWalk.i64_in _ (by omega)
  have hw2 : IntKind.i64.wrap (b2 : Int) = (b2 : Int) := IntWalk.i64_in _ (by omega)
  have hw3 : IntKind.i64.wrap (bent : Int) = (bent : Int) := IntWalk.i64_in _ (by omega)
  have Hbent := Lib.hid hbent
  have Hgt := Lib.hid hgt
  have Hb1 := Lib.hid hb1
  have Hb2 := Lib.hid hb2
  clear hbent hgt hx hb1 hb2 hbe
  go_wp2_with fail
  have hbG := bel_new w3 (.cells #[.int .i64 (x1 : Int), .int .i64 (x2 : Int)] 72)
  have hXG := heap_alloc_new w3 (.cells #[.int .i64 (x1 : Int), .int .i64 (x2 : Int)] 72)
  obtain ⟨F, hF⟩ : ∃ F, Cir.nfirst d = F := ⟨_, rfl⟩
  have HFi : Hid (∀ w', Below w.heap.size w w' → Calls Try.prog 44 #[.agg #[.int .i64 (d.ins : Int), .slice An d.next.length cn, .slice (some ⟨bq, o, none⟩) d.gates.length cg, .slice Ao d.outs.length co]] w' fun e w'' => e = .returned (.int .i64 (F : Nat)) ∧ Below w'.heap.size w' w'') := Lib.hid fun w' hb => by
    have := l1First_any _ (Cir.toCz d) w' (HCk.out.below hb) (by show (0 : Int) ≤ (d.ins : Int); omega) (by show (d.ins : Int) ≤ 100; omega) (by show (List.map _ _).length ≤ 100; rw [List.length_map]; omega)
    rwa [Cir.first_toCz, hF] at this
  have hFe : F = 1 + d.ins + d.next.length := by rw [← hF]; rfl
  have hFb : F ≤ 8 := by omega
  have HF := Lib.hid hF
  have HFe := Lib.hid hFe
  have hww : w.heap.size ≤ w3.heap.size := HB3.out.size
  have HB4 := Lib.hid (HB3.out.trans (hbG.mono hww))
  have PC4 := Lib.hid (PC3.out.below hbG)
  have HR4 := Lib.hid ((hbG.block gR (blk_ltB HR3.out)).trans HR3.out)
  obtain ⟨gG, hgG⟩ : ∃ g, w3.heap.size = g := ⟨_, rfl⟩
  rw [hgG] at hXG
  try rw [hgG]
  have HG4 := Lib.hid hXG
  have hgCG : gC < gG := by rw [← hgG]; exact PC3.out.1
  have hgRG : gR < gG := by rw [← hgG]; exact blk_ltB HR3.out
  have hs4z : (w3.alloc (.cells #[.int .i64 (x1 : Int), .int .i64 (x2 : Int)] 72)).heap.size = gG + 1 := by rw [World.size_alloc, hgG]
  generalize w3.alloc (.cells #[.int .i64 (x1 : Int), .int .i64 (x2 : Int)] 72) = w4 at *
  have hwG : w.heap.size ≤ gG := by omega
  clear hbG hXG hF hFe hgG PC3 HR3 HB3 zz p0 p1 p2 p3 hs1 hs2 HCk hww HC3
  refine (HFi.out _ HB4.out).mono ?_
  rintro e w5 ⟨rfl, hb5⟩
  have HB5 := Lib.hid (HB4.out.trans (hb5.mono HB4.out.size))
  have PC5 := Lib.hid (PC4.out.below hb5)
  have HR5 := Lib.hid ((hb5.block gR (blk_ltB HR4.out)).trans HR4.out)
  have HG5 := Lib.hid ((hb5.block gG (blk_ltB HG4.out)).trans HG4.out)
  have hz5 := hb5.size
  have hwf1 : IntKind.i64.wrap (2 * (F : Int)) = 2 * (F : Int) := IntWalk.i64_in _ (by omega)
  have hwf2 : IntKind.i64.wrap (2 * (F : Int) + (bent : Int)) = 2 * (F : Int) + (bent : Int) := IntWalk.i64_in _ (by omega)
  clear hb5 HB4 PC4 HR4 HG4
  go_wp2_with fail
  have hE := World.ownsRow_lit (base := w5.heap.size) (e := 3) (size := 1) w5 #[] 0 (Nat.le_refl _) (by unfold maxLen; omega) rfl
  have hbE := bel_new w5 (.cells #[] 3)
  obtain ⟨B, hB⟩ : ∃ B, w5.heap.size = B := ⟨_, rfl⟩
  rw [hB] at hE
  try rw [hB]
  have hgGB : gG < B := by omega
  have HB6 := Lib.hid (HB5.out.trans (hbE.mono HB5.out.size))
  have PC6 := Lib.hid (PC5.out.below hbE)
  have HR6 := Lib.hid ((hbE.block gR (blk_ltB HR5.out)).trans HR5.out)
  have HG6 := Lib.hid ((hbE.block gG (blk_ltB HG5.out)).trans HG5.out)
  have hzE := hbE.size
  generalize w5.alloc (.cells #[] 3) = w6 at *
  have HE : Hid (w6.ownsRow B 3 1 (.slice (some ⟨B, 0, none⟩) 0 0) 0 (nints (Cir.rRow F 0 i bent))) := Lib.hid hE
  have hzB : B ≤ w6.heap.size := by omega
  clear hE hbE hB HB5 PC5 HR5 HG5 hzE
  have HV0 : RetA d w B gC gR gG (.slice An d.next.length cn) (.slice (some ⟨bq, o, none⟩) d.gates.length cg) (.slice Ao d.outs.length co) x1 x2 F i bent 0 (.slice (some ⟨B, 0, none⟩) 0 0) w6 := ⟨HE.out, PC6.out, HR6.out, HG6.out, HB6.out, hzB⟩
  have HV0' := Lib.hid HV0
  have hgCB : gC < B := by omega
  have hgRB : gR < B := by omega
  have hwB : w.heap.size ≤ B := by omega
  clear HE PC6 HR6 HG6 HB6 HV0 hzB
  go_loopw [8, 9] (fun vm j wr => ∃ (k : Nat) (vm' : Value), vm' = vm ∧ k ≤ F + d.gates.length ∧ j = .int .i64 k ∧ RetA d w B gC gR gG (.slice An d.next.length cn) (.slice (some ⟨bq, o, none⟩) d.gates.length cg) (.slice Ao d.outs.length co) x1 x2 F i bent k vm wr) (fun _ j _ => F + d.gates.length - (intOf j).toNat)
  case atStart => exact ⟨0, _, rfl, Nat.zero_le _, rfl, HV0'.out⟩
  case round =>
    obtain ⟨k, vm', hvm, hk, rfl, hV⟩ := hrel
    subst hvm
    clear HV0'
    have HV0 := Lib.hid hV
    obtain ⟨z, p0, p1, p2, p3⟩ := hV.c
    have g0 := gw_cell p0 z
    have g1 := gw_cell p1 z
    have g2 := gw_cell p2 z
    have g3 := gw_cell p3 z
    have HFg : Hid (∀ n : GW wr, Calls Try.prog 44 #[.agg #[.int .i64 (d.ins : Int), .slice An d.next.length cn, .slice (some ⟨bq, o, none⟩) d.gates.length cg, .slice Ao d.outs.length co]] (gw n) fun e w' => e = .returned (.int .i64 (F : Nat)) ∧ Below (gw n).heap.size (gw n) w') := Lib.hid fun n => HFi.out _ (HV0.out.b.trans ((gw_below n).mono HV0.out.b.size))
    have hwn : IntKind.i64.wrap ((F : Int) + (d.gates.length : Int)) = (F : Int) + (d.gates.length : Int) := IntWalk.i64_in _ (by omega)
    have hwi : IntKind.i64.wrap ((F : Int) + (i : Int)) = (F : Int) + (i : Int) := IntWalk.i64_in _ (by omega)
    have hwk : IntKind.i64.wrap (2 * (k : Int)) = 2 * (k : Int) := IntWalk.i64_in _ (by omega)
    have hwk2 : IntKind.i64.wrap (2 * (k : Int) + 2) = 2 * (k : Int) + 2 := IntWalk.i64_in _ (by omega)
    clear z p0 p1 p2 p3 hV
    go_wp2_with fail
    refine wp_region_grow (by kernel_rfl) (by kernel_rfl) ?_
    repeat (go_big_quiet_step ((go_at_call 44; exact grow_call (HFg.out _))))
    refine wpQuiet_nil ?_
    intro _ hw'
    obtain ⟨nq, hw''⟩ := hw'
    subst hw''
    have hgq := gw_below nq
    generalize gw nq = wq at *
    clear nq
    have HV1 := Lib.hid (HV0.out.below hgq)
    clear HFg g0 g1 g2 g3 HV0 hgq
    obtain ⟨z, p0, p1, p2, p3⟩ := HV1.out.c
    by_cases hlt : k < F + d.gates.length
    · have dl : decide ((k : Int) < (F : Int) + (d.gates.length : Int)) = true := decide_eq_true (by omega)
      go_wp2_with fail
      refine (HFi.out _ HV1.out.b).mono ?_
      rintro e wu ⟨rfl, hbu⟩
      have HV2 := Lib.hid (HV1.out.below hbu)
      clear HV1 hbu z p0 p1 p2 p3
      by_cases hF1 : k < F
      · have dF : decide ((k : Int) < (F : Int)) = true := decide_eq_true (by omega)
        have dF2 : decide (k < F) = true := decide_eq_true hF1
        have HV := HV2
        obtain ⟨wv, hwv⟩ : ∃ wv, wv = wu := ⟨_, rfl⟩
        subst hwv
        have Hlit := Lib.hid (Row.of_own (World.ownsRow_lit (base := wv.heap.size) (e := 3) (size := 1) wv #[.int .i64 (2 * (k : Int))] 1 (Nat.le_refl _) (by unfold maxLen; omega) rfl))
        have HOa := Lib.hid (HV.out.m.alloc (.cells #[.int .i64 (2 * (k : Int))] 3))
        have hza : (wv.alloc (.cells #[.int .i64 (2 * (k : Int))] 3)).heap.size = wv.heap.size + 1 := by simp
        have hzv := HV.out.z
        have HPl : Hid ((2 * (k : Int)) = ((Cir.rPlace F i bent k : Nat) : Int)) := Lib.hid (by unfold Cir.rPlace; rw [if_pos hF1]; omega)
        go_wp2_with (at_builtin; refine append_ints rfl (.tmp 60) (.tmp 63) rfl B _ k _ rfl HOa.out _ 1 [.int .i64 (2 * (k : Int))] rfl Hlit.out (by simp [Value.oneCell']) (by omega) (by omega) ?_; intro v4 w5 hown4 hg4 hat4; have Hown4 := Lib.hid hown4; have Hg4 := Lib.hid hg4; clear hown4 hg4 hat4)
        go_roundw
        case rel => exact ⟨k + 1, _, rfl, by omega, by go_num, HV.out.app hgCB hgRB hgGB hwB (by rw [← HPl.out]; exact Hown4.out) Hg4.out⟩
        case measure => simp [intOf] <;> omega
      · have dF : decide ((k : Int) < (F : Int)) = false := decide_eq_false (by omega)
        have dF2 : decide (k < F) = false := decide_eq_false hF1
        obtain ⟨z, p0, p1, p2, p3⟩ := HV2.out.c
        go_wp2_with fail
        refine (HFi.out _ HV2.out.b).mono ?_
        rintro e wv ⟨rfl, hbu⟩
        have HV := Lib.hid (HV2.out.below hbu)
        clear HV2 hbu z p0 p1 p2 p3
        by_cases hF2 : k = F + i
        · have dE : ((k : Int) == (F : Int) + (i : Int)) = true := by rw [beq_iff_eq]; omega
          have Hlit := Lib.hid (Row.of_own (World.ownsRow_lit (base := wv.heap.size) (e := 3) (size := 1) wv #[.int .i64 (2 * (F : Int) + (bent : Int))] 1 (Nat.le_refl _) (by unfold maxLen; omega) rfl))
          have HOa := Lib.hid (HV.out.m.alloc (.cells #[.int .i64 (2 * (F : Int) + (bent : Int))] 3))
          have hza : (wv.alloc (.cells #[.int .i64 (2 * (F : Int) + (bent : Int))] 3)).heap.size = wv.heap.size + 1 := by simp
          have hzv := HV.out.z
          have HPl : Hid ((2 * (F : Int) + (bent : Int)) = ((Cir.rPlace F i bent k : Nat) : Int)) := Lib.hid (by unfold Cir.rPlace; rw [if_neg hF1, if_pos hF2]; omega)
          go_wp2_with (at_builtin; refine append_ints rfl (.tmp 72) (.tmp 74) rfl B _ k _ rfl HOa.out _ 1 [.int .i64 (2 * (F : Int) + (bent : Int))] rfl Hlit.out (by simp [Value.oneCell']) (by omega) (by omega) ?_; intro v4 w5 hown4 hg4 hat4; have Hown4 := Lib.hid hown4; have Hg4 := Lib.hid hg4; clear hown4 hg4 hat4)
          go_roundw
          case rel => exact ⟨k + 1, _, rfl, by omega, by go_num, HV.out.app hgCB hgRB hgGB hwB (by rw [← HPl.out]; exact Hown4.out) Hg4.out⟩
          case measure => simp [intOf] <;> omega
        · have dE : ((k : Int) == (F : Int) + (i : Int)) = false := by rw [beq_eq_false_iff_ne]; omega
          have Hlit := Lib.hid (Row.of_own (World.ownsRow_lit (base := wv.heap.size) (e := 3) (size := 1) wv #[.int .i64 (2 * (k : Int) + 2)] 1 (Nat.le_refl _) (by unfold maxLen; omega) rfl))
          have HOa := Lib.hid (HV.out.m.alloc (.cells #[.int .i64 (2 * (k : Int) + 2)] 3))
          have hza : (wv.alloc (.cells #[.int .i64 (2 * (k : Int) + 2)] 3)).heap.size = wv.heap.size + 1 := by simp
          have hzv := HV.out.z
          have HPl : Hid ((2 * (k : Int) + 2) = ((Cir.rPlace F i bent k : Nat) : Int)) := Lib.hid (by unfold Cir.rPlace; rw [if_neg hF1, if_neg hF2]; omega)
          go_wp2_with (at_builtin; refine append_ints rfl (.tmp 49) (.tmp 53) rfl B _ k _ rfl HOa.out _ 1 [.int .i64 (2 * (k : Int) + 2)] rfl Hlit.out (by simp [Value.oneCell']) (by omega) (by omega) ?_; intro v4 w5 hown4 hg4 hat4; have Hown4 := Lib.hid hown4; have Hg4 := Lib.hid hg4; clear hown4 hg4 hat4)
          go_roundw
          case rel => exact ⟨k + 1, _, rfl, by omega, by go_num, HV.out.app hgCB hgRB hgGB hwB (by rw [← HPl.out]; exact Hown4.out) Hg4.out⟩
          case measure => simp [intOf] <;> omega
    · obtain rfl : k = F + d.gates.length := by omega
      have dl : decide (((F + d.gates.length : Nat) : Int) < (F : Int) + (d.gates.length : Int)) = false := decide_eq_false (by omega)
      go_wp2_with fail
      have hX := heap_alloc_new wq (.cells #[.int .i64 (d.ins : Int), .slice none 0 0, .slice none 0 0, .slice none 0 0] 26)
      have hbX := bel_new wq (.cells #[.int .i64 (d.ins : Int), .slice none 0 0, .slice none 0 0, .slice none 0 0] 26)
      have HVX := HV1.out.below hbX
      have hzq := HV1.out.z
      have HBx : Hid (Bx w B gC gR wq.heap.size (d.ins : Int) (.slice An d.next.length cn) (.slice (some ⟨bq, o, none⟩) d.gates.length cg) (.slice Ao d.outs.length co) vm' (.slice none 0 0) (.slice none 0 0) (.slice none 0 0) (Cir.rRow F (F + d.gates.length) i bent) [] [] [] (wq.alloc (.cells #[.int .i64 (d.ins : Int), .slice none 0 0, .slice none 0 0, .slice none 0 0] 26))) := Lib.hid
        ⟨HVX.c, HVX.r, hX, by rw [Cir.rRow_length]; exact HVX.m, World.ownsRow_nil _ _ _ _, World.ownsRow_nil _ _ _ _, World.ownsRow_nil _ _ _ _, fun g _ h => by simp [Value.ownBlock] at h, fun g _ h => by simp [Value.ownBlock] at h, fun g h => by simp [Value.ownBlock] at h, hgCB, hgRB, by omega, by omega, by omega, hwB, HVX.z, HVX.b⟩
      have HGx := Lib.hid HVX.g
      obtain ⟨gx, hgx⟩ : ∃ gx, wq.heap.size = gx := ⟨_, rfl⟩
      have hxG : gG ≠ gx := by omega
      rw [hgx] at HBx
      try rw [hgx]
      generalize wq.alloc (.cells #[.int .i64 (d.ins : Int), .slice none 0 0, .slice none 0 0, .slice none 0 0] 26) = W6 at *
      have Hml : Hid ((Cir.rRow F (F + d.gates.length) i bent).length = F + d.gates.length) := Lib.hid (Cir.rRow_length _ _ _ _)
      have Hm : Hid (∀ x ∈ Cir.rRow F (F + d.gates.length) i bent, x ≤ 2 * 50 + 1) := Lib.hid (Cir.rRow_le hbb (by omega) (by omega))
      have Hu : Hid (Cir.rMap d i = Cir.useX (Cir.rRow F (F + d.gates.length) i bent)) := Lib.hid (by unfold Cir.rMap; rw [HF.out, Hbent.out])
      generalize Cir.rRow F (F + d.gates.length) i bent = m at *
      obtain ⟨u, hu⟩ : ∃ u, Cir.rMap d i = u := ⟨_, rfl⟩
      rw [hu] at Hu
      have Hud := Lib.hid hu
      have HMap : Hid (∀ (w' : World) (l : Nat), w'.ownsRow B 3 1 vm' m.length (nints m) → l / 2 < F + d.gates.length → l ≤ 1000000 → Calls Try.prog 65 #[vm', .int .i64 (l : Int)] w' fun e w'' => e = .returned (.int .i64 (u l : Nat)) ∧ Below w'.heap.size w' w'') := Lib.hid fun w' l ho h1 h2 => by
        rw [Hu.out]
        exact Bx.map ho (by have := Hml.out; omega) h2 (fun x hx => by have := Hm.out x hx; omega)
      have Hub : Hid (∀ l, u l ≤ 2 * 50 + 1) := Lib.hid fun l => by rw [Hu.out]; exact useX_le Hm.out
      have HNl : Hid (∀ l ∈ d.next, l / 2 < F + d.gates.length) := Lib.hid fun l hl => by have h := HD.out.next l hl; unfold Cir.nvars at h; rw [HF.out] at h; omega
      have HOl : Hid (∀ l ∈ d.outs, l / 2 < F + d.gates.length) := Lib.hid fun l hl => by have h := HD.out.out l hl; unfold Cir.nvars at h; rw [HF.out] at h; omega
      have HGl : Hid (∀ (k : Nat) (gt : Nat × Nat), d.gates[k]? = some gt → gt.1 / 2 < F + d.gates.length ∧ gt.2 / 2 < F + d.gates.length) := Lib.hid fun k gt hgt => by
        obtain ⟨g1, g2⟩ := HD.out.gate k gt hgt
        have hk := (List.getElem?_eq_some_iff.1 hgt).1
        rw [HF.out] at g1 g2
        omega
      clear hX hbX HVX hzq hgx HV1 hu dl z p0 p1 p2 p3 hwn hwi hwk hwk2 hlt hk
      go_loopw [11] (fun j wr => ∃ (k : Nat), k ≤ d.gates.length ∧ j = .int .i64 k ∧ RetG d w B gC gR gG gx (.slice An d.next.length cn) (.slice (some ⟨bq, o, none⟩) d.gates.length cg) (.slice Ao d.outs.length co) x1 x2 vm' m u k wr) (fun j _ => d.gates.length - (intOf j).toNat)
      case atStart => exact ⟨0, Nat.zero_le _, rfl, ⟨⟨.slice none 0 0, HBx, HGx⟩⟩⟩
      case round =>
        clear HBx HGx
        obtain ⟨k, hk, rfl, HH⟩ := hrel
        obtain ⟨vG, HBx, HGx⟩ := HH.out
        obtain ⟨z, p0, p1, p2, p3⟩ := HBx.out.hC
        have hzB5 := HBx.out.zB
        by_cases hlt : k < d.gates.length
        · obtain ⟨bq2, o2, x, he, hbl2, hx, hs1, hs2⟩ := cubes_open RG.out (Below.refl _ _) (show d.gates.length = (Cir.toCz d).gates.length from (List.length_map _).symm) (i := k) (by rw [show (Cir.toCz d).gates.length = d.gates.length from List.length_map _]; exact hlt)
          have he1 := Option.some.inj he
          injection he1 with he2 he3 _
          subst he2 he3
          obtain ⟨gt, hgt⟩ := at_some hlt
          have hxe : x = ((gt.1 : Int), (gt.2 : Int)) := by
            have h1 := hx.out
            unfold Cir.toCz at h1
            simp only [List.getElem?_map, hgt] at h1
            exact (Option.some.inj h1).symm
          subst hxe
          obtain ⟨g1, g2⟩ := HGl.out k gt hgt
          have HS : Hid ((d.gates.take (k + 1)).map (fun g => (u g.1, u g.2)) = (d.gates.take k).map (fun g => (u g.1, u g.2)) ++ [(u gt.1, u gt.2)]) := Lib.hid (by rw [take_snoc hgt, List.map_append]; rfl)
          have hgl : ((d.gates.take k).map fun g => (u g.1, u g.2)).length ≤ 14 := by rw [List.length_map, List.length_take]; omega
          generalize ((d.gates.take k).map fun g => (u g.1, u g.2)) = G at *
          obtain ⟨l1, hl1⟩ : ∃ l, l = gt.1 := ⟨_, rfl⟩
          obtain ⟨l2, hl2⟩ : ∃ l, l = gt.2 := ⟨_, rfl⟩
          rw [← hl1] at g1 hs1 HS
          rw [← hl2] at g2 hs2 HS
          obtain ⟨y1, hy1⟩ : ∃ y, y = u l1 := ⟨_, rfl⟩
          obtain ⟨y2, hy2⟩ : ∃ y, y = u l2 := ⟨_, rfl⟩
          have hyb1 : y1 ≤ 2 * 50 + 1 := by rw [hy1]; exact Hub.out _
          have hyb2 : y2 ≤ 2 * 50 + 1 := by rw [hy2]; exact Hub.out _
          rw [← hy1, ← hy2] at HS
          have Hy1 := Lib.hid hy1
          have Hy2 := Lib.hid hy2
          have hbqz : bq < wr.heap.size := by have := HBx.out.below.size; omega
          have hneb : vG.ownBlock ≠ some bq := fun e => by have := (HBx.out.g.lt bq e).1; omega
          have hs1 := (HBx.out.below.cell (p := ⟨bq, o + k * 2, none⟩) hbl2).trans hs1
          have hs2 := (HBx.out.below.cell (p := ⟨bq, o + k * 2 + 1, none⟩) hbl2).trans hs2
          have hl1b : l1 ≤ 1000000 := by omega
          have hl2b : l2 ≤ 1000000 := by omega
          clear hx hgt hl1 hl2 hy1 hy2 he hbl2 HH
          go_wp2_with fail
          obtain ⟨i0, hi0, hz0, hz1, hz2⟩ := info_parts info_gate
          have hO := fun ops a => appRS2_ok (Pg := Try.prog) (ops := ops) (a := a) (news := [.int .i64 (y1 : Int), .int .i64 (y2 : Int)]) (d := 20) (HBx.out.g)
          refine wp_region_rsl (appRS2 Try.prog _ wr _ (B) 72 2 (vG) (G.length) (cubes (gz G)) [.int .i64 (y1 : Int), .int .i64 (y2 : Int)] 20) (hO _ _) (by kernel_rfl) (by kernel_rfl) (by kernel_rfl) 22 _ rfl rfl (by kernel_rfl) (show (20 : Nat) < 22 by decide) trivial HBx.out.g ?_
          apply rs_eq (hO _ _) (.inl (Nat.ne_of_beq_eq_false rfl))
          · intro ρ w' ho hK
            have ho : Only _ wr w' := ho
            obtain ⟨h0, -⟩ := hK
            have h0' : ρ (.tmp 10) = _ := h0
            go_simp
            try exact rfl
          apply rs_eq (hO _ _) (.inl (Nat.ne_of_beq_eq_false rfl))
          · intro ρ w' ho hK
            have ho : Only _ wr w' := ho
            obtain ⟨h0, -⟩ := hK
            have h0' : ρ (.tmp 86) = _ := h0
            obtain ⟨hP, -, hXq, -⟩ := HBx.out.rowG ho
            obtain ⟨-, q0, q1, q2, q3⟩ := hP
            have k2 := blk_cell hXq 2
            simp at k2
            have c1 := (World.cell?_of_block (a := ⟨bq, o + k * 2, none⟩) (ho.block bq hbqz (fun e => hneb e))).trans hs1
            have c2 := (World.cell?_of_block (a := ⟨bq, o + k * 2 + 1, none⟩) (ho.block bq hbqz (fun e => hneb e))).trans hs2
            go_simp
            try exact rfl
          refine rs_old (hO _ _) (.inl (Nat.ne_of_beq_eq_false rfl)) _ (.inl rfl) _ rfl rfl ?_
          apply rs_eq (hO _ _) (.inl (Nat.ne_of_beq_eq_false rfl))
          · intro ρ w' ho hK
            have ho : Only _ wr w' := ho
            obtain ⟨h0, -⟩ := hK
            have h0' : ρ (.tmp 2) = _ := h0
            go_simp
            try exact rfl
          apply rs_eq (hO _ _) (.inl (Nat.ne_of_beq_eq_false rfl))
          · intro ρ w' ho hK
            have ho : Only _ wr w' := ho
            obtain ⟨h0, -⟩ := hK
            have h0' : ρ (.tmp 89) = _ := h0
            obtain ⟨hP, -, hXq, -⟩ := HBx.out.rowG ho
            obtain ⟨-, q0, q1, q2, q3⟩ := hP
            have k2 := blk_cell hXq 2
            simp at k2
            have c1 := (World.cell?_of_block (a := ⟨bq, o + k * 2, none⟩) (ho.block bq hbqz (fun e => hneb e))).trans hs1
            have c2 := (World.cell?_of_block (a := ⟨bq, o + k * 2 + 1, none⟩) (ho.block bq hbqz (fun e => hneb e))).trans hs2
            go_simp
            try exact rfl
          refine rs_old (hO _ _) (.inl (Nat.ne_of_beq_eq_false rfl)) _ (.inl rfl) _ rfl rfl ?_
          apply rs_eq (hO _ _) (.inl (Nat.ne_of_beq_eq_false rfl))
          · intro ρ w' ho hK
            have ho : Only _ wr w' := ho
            obtain ⟨h0, h1, -⟩ := hK
            have h0' : ρ (.tmp 90) = _ := h0
            have h1' : ρ (.tmp 91) = _ := h1
            go_simp
            try exact rfl
          apply rs_eq (hO _ _) (.inl (Nat.ne_of_beq_eq_false rfl))
          · intro ρ w' ho hK
            have ho : Only _ wr w' := ho
            obtain ⟨h0, -⟩ := hK
            have h0' : ρ (.tmp 92) = _ := h0
            go_simp
            try exact rfl
          apply rs_eq (hO _ _) (.inl (Nat.ne_of_beq_eq_false rfl))
          · intro ρ w' ho hK
            have ho : Only _ wr w' := ho
            obtain ⟨h0, -⟩ := hK
            have h0' : ρ (.tmp 93) = _ := h0
            obtain ⟨hP, -, hXq, -⟩ := HBx.out.rowG ho
            obtain ⟨-, q0, q1, q2, q3⟩ := hP
            have k2 := blk_cell hXq 2
            simp at k2
            have c1 := (World.cell?_of_block (a := ⟨bq, o + k * 2, none⟩) (ho.block bq hbqz (fun e => hneb e))).trans hs1
            have c2 := (World.cell?_of_block (a := ⟨bq, o + k * 2 + 1, none⟩) (ho.block bq hbqz (fun e => hneb e))).trans hs2
            go_simp
            try exact rfl
          refine rs_call (hO _ _) (.inl (Nat.ne_of_beq_eq_false rfl)) (TEq (.int .i64 ((y1 : Nat) : Int))) (stb_eq _ _) 65 _ _ rfl (fun ρ w' ho hK => by
            have ho : Only _ wr w' := ho
            obtain ⟨h0, h1, h2, -⟩ := hK
            have h0' : ρ (.func 65) = .func (.func 65) #[] #[] := h0
            have h1' : ρ (.tmp 88) = _ := h1
            have h2' : ρ (.tmp 94) = _ := h2
            refine ⟨#[ρ (.tmp 88), ρ (.tmp 94)], ?_, ?_⟩
            · go_simp
            · rw [h1', h2']
              refine (HMap.out w' l1 (own_only HBx.out.m ho (fun q hq e => own_ne_own HBx.out.m HBx.out.g (by decide) hq e)) g1 hl1b).mono ?_
              rintro e w2 ⟨rfl, hb⟩
              exact ⟨_, rfl, by rw [Hy1.out]; rfl, hb⟩) ?_
          refine rs_old (hO _ _) (.inl (Nat.ne_of_beq_eq_false rfl)) _ (.inl rfl) _ rfl rfl ?_
          apply rs_eq (hO _ _) (.inl (Nat.ne_of_beq_eq_false rfl))
          · intro ρ w' ho hK
            have ho : Only _ wr w' := ho
            obtain ⟨h0, -⟩ := hK
            have h0' : ρ (.tmp 2) = _ := h0
            go_simp
            try exact rfl
          apply rs_eq (hO _ _) (.inl (Nat.ne_of_beq_eq_false rfl))
          · intro ρ w' ho hK
            have ho : Only _ wr w' := ho
            obtain ⟨h0, -⟩ := hK
            have h0' : ρ (.tmp 97) = _ := h0
            obtain ⟨hP, -, hXq, -⟩ := HBx.out.rowG ho
            obtain ⟨-, q0, q1, q2, q3⟩ := hP
            have k2 := blk_cell hXq 2
            simp at k2
            have c1 := (World.cell?_of_block (a := ⟨bq, o + k * 2, none⟩) (ho.block bq hbqz (fun e => hneb e))).trans hs1
            have c2 := (World.cell?_of_block (a := ⟨bq, o + k * 2 + 1, none⟩) (ho.block bq hbqz (fun e => hneb e))).trans hs2
            go_simp
            try exact rfl
          refine rs_old (hO _ _) (.inl (Nat.ne_of_beq_eq_false rfl)) _ (.inl rfl) _ rfl rfl ?_
          apply rs_eq (hO _ _) (.inl (Nat.ne_of_beq_eq_false rfl))
          · intro ρ w' ho hK
            have ho : Only _ wr w' := ho
            obtain ⟨h0, h1, -⟩ := hK
            have h0' : ρ (.tmp 98) = _ := h0
            have h1' : ρ (.tmp 99) = _ := h1
            go_simp
            try exact rfl
          apply rs_eq (hO _ _) (.inl (Nat.ne_of_beq_eq_false rfl))
          · intro ρ w' ho hK
            have ho : Only _ wr w' := ho
            obtain ⟨h0, -⟩ := hK
            have h0' : ρ (.tmp 100) = _ := h0
            go_simp
            try exact rfl
          apply rs_eq (hO _ _) (.inl (Nat.ne_of_beq_eq_false rfl))
          · intro ρ w' ho hK
            have ho : Only _ wr w' := ho
            obtain ⟨h0, -⟩ := hK
            have h0' : ρ (.tmp 101) = _ := h0
            obtain ⟨hP, -, hXq, -⟩ := HBx.out.rowG ho
            obtain ⟨-, q0, q1, q2, q3⟩ := hP
            have k2 := blk_cell hXq 2
            simp at k2
            have c1 := (World.cell?_of_block (a := ⟨bq, o + k * 2, none⟩) (ho.block bq hbqz (fun e => hneb e))).trans hs1
            have c2 := (World.cell?_of_block (a := ⟨bq, o + k * 2 + 1, none⟩) (ho.block bq hbqz (fun e => hneb e))).trans hs2
            go_simp
            try exact rfl
          refine rs_call (hO _ _) (.inl (Nat.ne_of_beq_eq_false rfl)) (TEq (.int .i64 ((y2 : Nat) : Int))) (stb_eq _ _) 65 _ _ rfl (fun ρ w' ho hK => by
            have ho : Only _ wr w' := ho
            obtain ⟨h0, h1, h2, -⟩ := hK
            have h0' : ρ (.func 65) = .func (.func 65) #[] #[] := h0
            have h1' : ρ (.tmp 96) = _ := h1
            have h2' : ρ (.tmp 102) = _ := h2
            refine ⟨#[ρ (.tmp 96), ρ (.tmp 102)], ?_, ?_⟩
            · go_simp
            · rw [h1', h2']
              refine (HMap.out w' l2 (own_only HBx.out.m ho (fun q hq e => own_ne_own HBx.out.m HBx.out.g (by decide) hq e)) g2 hl2b).mono ?_
              rintro e w2 ⟨rfl, hb⟩
              exact ⟨_, rfl, by rw [Hy2.out]; rfl, hb⟩) ?_
          apply rs_eq (hO _ _) (.inl (Nat.ne_of_beq_eq_false rfl))
          · intro ρ w' ho hK
            have ho : Only _ wr w' := ho
            obtain ⟨h0, h1, -⟩ := hK
            have h0' : ρ (.tmp 95) = _ := h0
            have h1' : ρ (.tmp 103) = _ := h1
            go_simp
            try exact rfl
          refine rs_build1 (hO _ _) (.inl (Nat.ne_of_beq_eq_false rfl)) 2 [.int .i64 (y1 : Int), .int .i64 (y2 : Int)] 72 rfl (fun ρ w' ho hK => by
            have ho : Only _ wr w' := ho
            obtain ⟨h0, -⟩ := hK
            have h0' : ρ (.tmp 104) = _ := h0
            go_simp) ?_
          refine rs_append2 rfl (B) 72 24 2 (vG) (G.length) (cubes (gz G)) _ rfl rfl (fun g hg => hg) (show B ≤ wr.heap.size by omega) _ _ rfl _ _ rfl rfl rfl rfl i0 _ 16 Try.underlying24 hi0 hz0 hz1 hz2 rfl (by decide) (by omega) (by decide) (by simp [Value.oneCell']) ?_
          apply rs_eq (hO _ _) (.inl (Nat.ne_of_beq_eq_false rfl))
          · intro ρ w' ho hK
            have ho : Only _ wr w' := ho
            obtain ⟨h0, -⟩ := hK
            have h0' : ρ (.tmp 10) = _ := h0
            go_simp
            try exact rfl
          intro f w9 k9 hk9 hI9 ht9 hcp9
          have E0 : f 0 = _ := ht9 0 (Nat.le_of_ble_eq_true rfl)
          have E1 : f 1 = _ := ht9 1 (Nat.le_of_ble_eq_true rfl)
          have E2 : f 2 = _ := ht9 2 (Nat.le_of_ble_eq_true rfl)
          conv at E2 => rhs; whnf
          have E3 : f 3 = _ := ht9 3 (Nat.le_of_ble_eq_true rfl)
          have E4 : f 4 = _ := ht9 4 (Nat.le_of_ble_eq_true rfl)
          have E5 : f 5 = _ := ht9 5 (Nat.le_of_ble_eq_true rfl)
          conv at E5 => rhs; whnf
          have E6 : f 6 = _ := ht9 6 (Nat.le_of_ble_eq_true rfl)
          have E7 : f 7 = _ := ht9 7 (Nat.le_of_ble_eq_true rfl)
          have E8 : f 8 = _ := ht9 8 (Nat.le_of_ble_eq_true rfl)
          have E9 : f 9 = _ := ht9 9 (Nat.le_of_ble_eq_true rfl)
          have E10 : f 10 = _ := ht9 10 (Nat.le_of_ble_eq_true rfl)
          conv at E10 => rhs; whnf
          have E11 : f 11 = _ := ht9 11 (Nat.le_of_ble_eq_true rfl)
          have E12 : f 12 = _ := ht9 12 (Nat.le_of_ble_eq_true rfl)
          have E13 : f 13 = _ := ht9 13 (Nat.le_of_ble_eq_true rfl)
          conv at E13 => rhs; whnf
          have E14 : f 14 = _ := ht9 14 (Nat.le_of_ble_eq_true rfl)
          have E15 : f 15 = _ := ht9 15 (Nat.le_of_ble_eq_true rfl)
          have E16 : f 16 = _ := ht9 16 (Nat.le_of_ble_eq_true rfl)
          have E17 : f 17 = _ := ht9 17 (Nat.le_of_ble_eq_true rfl)
          have E18 : f 18 = _ := ht9 18 (Nat.le_of_ble_eq_true rfl)
          have E19 : (TNew _ 2 1 [.int .i64 (y1 : Int), .int .i64 (y2 : Int)]) w9 (f 19) := ht9 19 (Nat.le_of_ble_eq_true rfl)
          have E20 : (TAny) w9 (f 20) := ht9 20 (Nat.le_of_ble_eq_true rfl)
          have E21 : f 21 = _ := ht9 21 (Nat.le_of_ble_eq_true rfl)
          have Ho9 : Only _ wr w9 := hI9.2.1
          have hown9 : w9.ownsRow (B) 72 2 (f 20) (G.length + 1) (cubes (gz G) ++ [.int .i64 (y1 : Int), .int .i64 (y2 : Int)]) := hI9.2.2.1
          have hat9 : ∀ g, (f 20).ownBlock = some g → (vG).ownBlock = some g ∨ wr.heap.size ≤ g := hI9.2.2.2
          simp only [putAll, E0, E1, E2, E3, E4, E5, E6, E7, E8, E9, E10, E11, E12, E13, E14, E15, E16, E17, E18, E21, Nat.zero_add, Nat.reduceAdd, Act.put, List.setIfInBounds_toArray, List.set_cons_succ, List.set_cons_zero, List.take, List.getElem_toArray, List.getElem_cons_succ, List.getElem_cons_zero]
          clear E0 E1 E2 E3 E4 E5 E6 E7 E8 E9 E10 E11 E12 E13 E14 E15 E16 E17 E18 E21
          clear hI9 ht9 hcp9 hk9
          generalize f 19 = r19 at *
          generalize f 20 = r20 at *
          have O9 : Only (fun g => vG.ownBlock = some g) wr w9 := Ho9
          obtain ⟨A9, c9, hv9⟩ := slice_of_own hown9
          subst hv9
          have hX9 := (HBx.out.rowG O9).2.2.1
          have HB9 := Lib.hid (HBx.out.appG (x := y1) (y := y2) hown9 O9)
          have HG9 := Lib.hid (Bx.blk (i := 2) (u := .slice A9 (G.length + 1) c9) (fun g hg => (HBx.out.g.lt g hg).1) O9 HGx.out hgGB hxG)
          have q1 := blk_cell hX9 2
          have f1 := blk_free hX9 2
          simp at q1
          have hz9 := O9.size
          clear Ho9 O9 hX9 hown9 hat9 HBx HGx hs1 hs2 hneb z p0 p1 p2 p3
          go_wp2_with fail
          go_roundw
          case rel => exact ⟨k + 1, by omega, by go_num, ⟨⟨_, by rw [HS.out]; exact HB9, HG9⟩⟩⟩
          case measure => simp [intOf] <;> omega
        · obtain rfl : k = d.gates.length := by omega
          go_wp2_with fail
          have HGf : Hid ((d.gates.take d.gates.length).map (fun g => (u g.1, u g.2)) = d.gates.map fun g => (u g.1, u g.2)) := Lib.hid (by rw [List.take_length])
          rw [HGf.out] at HBx
          have HGc : Hid ((d.gates.map fun g => (u g.1, u g.2)).length ≤ 14) := Lib.hid (by rw [List.length_map]; omega)
          generalize hG : (d.gates.map fun g => (u g.1, u g.2)) = G at *
          have HG := Lib.hid hG
          clear z p0 p1 p2 p3 HH HGf hG
          obtain ⟨W7, hW7⟩ : ∃ W7, W7 = wr := ⟨_, rfl⟩
          subst hW7
          go_loopw [12] (fun j wr => ∃ (k : Nat), k ≤ d.next.length ∧ j = .int .i64 k ∧ RetN d w B gC gR gG gx (.slice An d.next.length cn) (.slice (some ⟨bq, o, none⟩) d.gates.length cg) (.slice Ao d.outs.length co) x1 x2 vm' m u vG G k wr) (fun j _ => d.next.length - (intOf j).toNat)
          case atStart => exact ⟨0, Nat.zero_le _, rfl, ⟨⟨.slice none 0 0, HBx, HGx⟩⟩⟩
          case round =>
            clear HBx HGx
            obtain ⟨k, hk, rfl, HH⟩ := hrel
            obtain ⟨vN, HBx, HGx⟩ := HH.out
            obtain ⟨z, p0, p1, p2, p3⟩ := HBx.out.hC
            have hzB6 := HBx.out.zB
            by_cases hlt : k < d.next.length
            · obtain ⟨b, oo, x, rfl, hbl, hx, hs⟩ := ints_open RN.out (Below.refl _ _) (show d.next.length = (Cir.toCz d).next.length from (List.length_map _).symm) (i := k) (by rw [show (Cir.toCz d).next.length = d.next.length from List.length_map _]; exact hlt)
              obtain ⟨l, hl⟩ := at_some hlt
              have hxe : x = (l : Int) := by
                have h1 := hx.out
                unfold Cir.toCz at h1
                rw [List.getElem?_map, hl] at h1
                exact (Option.some.inj h1).symm
              subst hxe
              have hlN := HNl.out l (List.mem_of_getElem? hl)
              have HS : Hid ((d.next.take (k + 1)).map u = (d.next.take k).map u ++ [u l]) := Lib.hid (by rw [take_snoc hl, List.map_append]; rfl)
              have hNl : ((d.next.take k).map u).length ≤ 3 := by rw [List.length_map, List.length_take]; omega
              generalize (d.next.take k).map u = N at *
              obtain ⟨y, hy⟩ : ∃ y, y = u l := ⟨_, rfl⟩
              rw [← hy] at HS
              have Hy := Lib.hid hy
              have hl6 : l ≤ 1000000 := by omega
              have hbz : b < wr.heap.size := by have := HBx.out.below.size; omega
              have hnb : vN.ownBlock ≠ some b := fun e => by have := (HBx.out.n.lt b e).1; omega
              have hs' := (HBx.out.below.cell (p := ⟨b, oo + k, none⟩) hbl).trans hs
              clear hx hl hy HH
              go_wp2_with fail
              obtain ⟨i0, hi0, hz0, hz1, hz2⟩ := info_parts info_int
              have hO := fun ops a => appRS2_ok (Pg := Try.prog) (ops := ops) (a := a) (news := [.int .i64 (y : Int)]) (d := 10) (HBx.out.n)
              refine wp_region_rsl (appRS2 Try.prog _ wr _ (B) 3 1 (vN) (N.length) (nints N) [.int .i64 (y : Int)] 10) (hO _ _) (by kernel_rfl) (by kernel_rfl) (by kernel_rfl) 12 _ rfl rfl (by kernel_rfl) (show (10 : Nat) < 12 by decide) trivial HBx.out.n ?_
              apply rs_eq (hO _ _) (.inl (Nat.ne_of_beq_eq_false rfl))
              · intro ρ w' ho hK
                have ho : Only _ wr w' := ho
                obtain ⟨h0, -⟩ := hK
                have h0' : ρ (.tmp 10) = _ := h0
                go_simp
                try exact rfl
              apply rs_eq (hO _ _) (.inl (Nat.ne_of_beq_eq_false rfl))
              · intro ρ w' ho hK
                have ho : Only _ wr w' := ho
                obtain ⟨h0, -⟩ := hK
                have h0' : ρ (.tmp 115) = _ := h0
                obtain ⟨hP, -, hXq, -⟩ := HBx.out.rowN ho
                obtain ⟨-, q0, q1, q2, q3⟩ := hP
                have k1 := blk_cell hXq 1
                simp at k1
                have c1 := (World.cell?_of_block (a := ⟨b, oo + k, none⟩) (ho.block b hbz (fun e => hnb e))).trans hs'
                go_simp
                try exact rfl
              refine rs_old (hO _ _) (.inl (Nat.ne_of_beq_eq_false rfl)) _ (.inl rfl) _ rfl rfl ?_
              apply rs_eq (hO _ _) (.inl (Nat.ne_of_beq_eq_false rfl))
              · intro ρ w' ho hK
                have ho : Only _ wr w' := ho
                obtain ⟨h0, -⟩ := hK
                have h0' : ρ (.tmp 2) = _ := h0
                go_simp
                try exact rfl
              apply rs_eq (hO _ _) (.inl (Nat.ne_of_beq_eq_false rfl))
              · intro ρ w' ho hK
                have ho : Only _ wr w' := ho
                obtain ⟨h0, -⟩ := hK
                have h0' : ρ (.tmp 118) = _ := h0
                obtain ⟨hP, -, hXq, -⟩ := HBx.out.rowN ho
                obtain ⟨-, q0, q1, q2, q3⟩ := hP
                have k1 := blk_cell hXq 1
                simp at k1
                have c1 := (World.cell?_of_block (a := ⟨b, oo + k, none⟩) (ho.block b hbz (fun e => hnb e))).trans hs'
                go_simp
                try exact rfl
              refine rs_old (hO _ _) (.inl (Nat.ne_of_beq_eq_false rfl)) _ (.inl rfl) _ rfl rfl ?_
              apply rs_eq (hO _ _) (.inl (Nat.ne_of_beq_eq_false rfl))
              · intro ρ w' ho hK
                have ho : Only _ wr w' := ho
                obtain ⟨h0, h1, -⟩ := hK
                have h0' : ρ (.tmp 119) = _ := h0
                have h1' : ρ (.tmp 120) = _ := h1
                go_simp
                try exact rfl
              apply rs_eq (hO _ _) (.inl (Nat.ne_of_beq_eq_false rfl))
              · intro ρ w' ho hK
                have ho : Only _ wr w' := ho
                obtain ⟨h0, -⟩ := hK
                have h0' : ρ (.tmp 121) = _ := h0
                obtain ⟨hP, -, hXq, -⟩ := HBx.out.rowN ho
                obtain ⟨-, q0, q1, q2, q3⟩ := hP
                have k1 := blk_cell hXq 1
                simp at k1
                have c1 := (World.cell?_of_block (a := ⟨b, oo + k, none⟩) (ho.block b hbz (fun e => hnb e))).trans hs'
                go_simp
                try exact rfl
              refine rs_call (hO _ _) (.inl (Nat.ne_of_beq_eq_false rfl)) (TEq (.int .i64 ((y : Nat) : Int))) (stb_eq _ _) 65 _ _ rfl (fun ρ w' ho hK => by
                have ho : Only _ wr w' := ho
                obtain ⟨h0, h1, h2, -⟩ := hK
                have h0' : ρ (.func 65) = .func (.func 65) #[] #[] := h0
                have h1' : ρ (.tmp 117) = _ := h1
                have h2' : ρ (.tmp 122) = _ := h2
                refine ⟨#[ρ (.tmp 117), ρ (.tmp 122)], ?_, ?_⟩
                · go_simp
                · rw [h1', h2']
                  refine (HMap.out w' l (own_only HBx.out.m ho (fun q hq e => HBx.out.mn q hq e)) hlN hl6).mono ?_
                  rintro e w2 ⟨rfl, hb⟩
                  exact ⟨_, rfl, by rw [Hy.out]; rfl, hb⟩) ?_
              refine rs_build1 (hO _ _) (.inl (Nat.ne_of_beq_eq_false rfl)) 1 [.int .i64 (y : Int)] 3 rfl (fun ρ w' ho hK => by
                have ho : Only _ wr w' := ho
                obtain ⟨h0, -⟩ := hK
                have h0' : ρ (.tmp 123) = _ := h0
                go_simp) ?_
              refine rs_append2 rfl (B) 3 23 1 (vN) (N.length) (nints N) _ rfl rfl (fun g hg => hg) (show B ≤ wr.heap.size by omega) _ _ rfl _ _ rfl rfl rfl rfl i0 _ 8 Try.underlying23 hi0 hz0 hz1 hz2 rfl (by decide) (by omega) (by decide) (by simp [Value.oneCell']) ?_
              apply rs_eq (hO _ _) (.inl (Nat.ne_of_beq_eq_false rfl))
              · intro ρ w' ho hK
                have ho : Only _ wr w' := ho
                obtain ⟨h0, -⟩ := hK
                have h0' : ρ (.tmp 10) = _ := h0
                go_simp
                try exact rfl
              intro f w9 k9 hk9 hI9 ht9 hcp9
              have E0 : f 0 = _ := ht9 0 (Nat.le_of_ble_eq_true rfl)
              have E1 : f 1 = _ := ht9 1 (Nat.le_of_ble_eq_true rfl)
              have E2 : f 2 = _ := ht9 2 (Nat.le_of_ble_eq_true rfl)
              conv at E2 => rhs; whnf
              have E3 : f 3 = _ := ht9 3 (Nat.le_of_ble_eq_true rfl)
              have E4 : f 4 = _ := ht9 4 (Nat.le_of_ble_eq_true rfl)
              have E5 : f 5 = _ := ht9 5 (Nat.le_of_ble_eq_true rfl)
              conv at E5 => rhs; whnf
              have E6 : f 6 = _ := ht9 6 (Nat.le_of_ble_eq_true rfl)
              have E7 : f 7 = _ := ht9 7 (Nat.le_of_ble_eq_true rfl)
              have E8 : f 8 = _ := ht9 8 (Nat.le_of_ble_eq_true rfl)
              have E9 : (TNew _ 1 1 [.int .i64 (y : Int)]) w9 (f 9) := ht9 9 (Nat.le_of_ble_eq_true rfl)
              have E10 : (TAny) w9 (f 10) := ht9 10 (Nat.le_of_ble_eq_true rfl)
              have E11 : f 11 = _ := ht9 11 (Nat.le_of_ble_eq_true rfl)
              have Ho9 : Only _ wr w9 := hI9.2.1
              have hown9 : w9.ownsRow (B) 3 1 (f 10) (N.length + 1) (nints N ++ [.int .i64 (y : Int)]) := hI9.2.2.1
              have hat9 : ∀ g, (f 10).ownBlock = some g → (vN).ownBlock = some g ∨ wr.heap.size ≤ g := hI9.2.2.2
              simp only [putAll, E0, E1, E2, E3, E4, E5, E6, E7, E8, E11, Nat.zero_add, Nat.reduceAdd, Act.put, List.setIfInBounds_toArray, List.set_cons_succ, List.set_cons_zero, List.take, List.getElem_toArray, List.getElem_cons_succ, List.getElem_cons_zero]
              clear E0 E1 E2 E3 E4 E5 E6 E7 E8 E11
              clear hI9 ht9 hcp9 hk9
              generalize f 9 = r9 at *
              generalize f 10 = r10 at *
              have O9 : Only (fun g => vN.ownBlock = some g) wr w9 := Ho9
              obtain ⟨A9, c9, hv9⟩ := slice_of_own hown9
              subst hv9
              have hX9 := (HBx.out.rowN O9).2.2.1
              have HB9 := Lib.hid (HBx.out.appN (x := y) hown9 O9 hat9)
              have HG9 := Lib.hid (Bx.blk (i := 1) (u := .slice A9 (N.length + 1) c9) (fun g hg => (HBx.out.n.lt g hg).1) O9 HGx.out hgGB hxG)
              have q1 := blk_cell hX9 1
              have f1 := blk_free hX9 1
              simp at q1
              have hz9 := O9.size
              clear Ho9 O9 hX9 hown9 hat9 HBx HGx hs hs' hnb z p0 p1 p2 p3
              go_wp2_with fail
              go_roundw
              case rel => exact ⟨k + 1, by omega, by go_num, ⟨⟨_, by rw [HS.out]; exact HB9, HG9⟩⟩⟩
              case measure => simp [intOf] <;> omega
            · obtain rfl : k = d.next.length := by omega
              have HNf : Hid ((d.next.take d.next.length).map u = d.next.map u) := Lib.hid (by rw [List.take_length])
              rw [HNf.out] at HBx
              have hNc : (d.next.map u).length = d.next.length := List.length_map _
              have HNu : Hid (∀ x ∈ d.next.map u, x ≤ 2 * 50 + 1) := Lib.hid fun x hx => by obtain ⟨l, _, rfl⟩ := List.mem_map.1 hx; exact Hub.out l
              generalize hN : d.next.map u = N at *
              have HN := Lib.hid hN
              obtain ⟨hl1, hl2, hl3, hl4⟩ := HLat.out
              have hq1 := tdiv_two x1
              have hq2 := tdiv_two x2
              obtain ⟨q1, hqe1⟩ : ∃ q, x1 / 2 = q := ⟨_, rfl⟩
              obtain ⟨q2, hqe2⟩ : ∃ q, x2 / 2 = q := ⟨_, rfl⟩
              rw [hqe1] at hq1 hl1 hl2
              rw [hqe2] at hq2 hl3 hl4
              obtain ⟨j1, hj1⟩ : ∃ j, q1 - d.ins - 1 = j := ⟨_, rfl⟩
              obtain ⟨j2, hj2⟩ : ∃ j, q2 - d.ins - 1 = j := ⟨_, rfl⟩
              have hj1n : j1 < N.length := by omega
              have hj2n : j2 < N.length := by omega
              have hwq1 : IntKind.i64.wrap (q1 : Int) = (q1 : Int) := IntWalk.i64_in _ (by omega)
              have hwq2 : IntKind.i64.wrap (q2 : Int) = (q2 : Int) := IntWalk.i64_in _ (by omega)
              have hws1 : IntKind.i64.wrap ((q1 : Int) - (d.ins : Int)) = ((j1 + 1 : Nat) : Int) := by rw [IntWalk.i64_in _ (by omega)]; omega
              have hws2 : IntKind.i64.wrap ((q2 : Int) - (d.ins : Int)) = ((j2 + 1 : Nat) : Int) := by rw [IntWalk.i64_in _ (by omega)]; omega
              have hwt1 : IntKind.i64.wrap (((j1 + 1 : Nat) : Int) - 1) = (j1 : Int) := by rw [IntWalk.i64_in _ (by omega)]; omega
              have hwt2 : IntKind.i64.wrap (((j2 + 1 : Nat) : Int) - 1) = (j2 : Int) := by rw [IntWalk.i64_in _ (by omega)]; omega
              obtain ⟨n1, hn1⟩ := at_some hj1n
              obtain ⟨n2, hn2⟩ := at_some hj2n
              have hn1b := HNu.out n1 (List.mem_of_getElem? hn1)
              have hn2b := HNu.out n2 (List.mem_of_getElem? hn2)
              have HGate : Hid (((N.getD ((d.gates.getD i (0, 0)).1 / 2 - d.ins - 1) 0 ^^^ (d.gates.getD i (0, 0)).1 % 2, N.getD ((d.gates.getD i (0, 0)).2 / 2 - d.ins - 1) 0 ^^^ (d.gates.getD i (0, 0)).2 % 2) : Nat × Nat) = (n1 ^^^ b1, n2 ^^^ b2)) := Lib.hid (by
                have e : d.gates.getD i (0, 0) = (x1, x2) := by rw [List.getD_eq_getElem?_getD, Hgt.out, Option.getD_some]
                rw [e]
                simp only
                rw [hqe1, hqe2, hj1, hj2, Hb1.out, Hb2.out, List.getD_eq_getElem?_getD, hn1, List.getD_eq_getElem?_getD, hn2, Option.getD_some, Option.getD_some])
              have hx1r := i64_xor_nat n1 b1 (by omega) (by omega)
              have hx2r := i64_xor_nat n2 b2 (by omega) (by omega)
              obtain ⟨e1, he1⟩ : ∃ e, n1 ^^^ b1 = e := ⟨_, rfl⟩
              obtain ⟨e2, he2⟩ : ∃ e, n2 ^^^ b2 = e := ⟨_, rfl⟩
              rw [he1] at hx1r HGate
              rw [he2] at hx2r HGate
              obtain ⟨gn, cN, hvN, hgn1, hgn2, -, -⟩ := own_open HBx.out.n (by omega)
              subst hvN
              obtain ⟨u1, hu1, hd1, hf1⟩ := own_slot HBx.out.n (j := j1) (by omega)
              obtain ⟨u2, hu2, hd2, hf2⟩ := own_slot HBx.out.n (j := j2) (by omega)
              have hnn1 : (nints N)[j1]? = some (.int .i64 (n1 : Nat)) := by unfold nints ints nats; rw [List.map_map, List.getElem?_map, hn1]; rfl
              have hnn2 : (nints N)[j2]? = some (.int .i64 (n2 : Nat)) := by unfold nints ints nats; rw [List.map_map, List.getElem?_map, hn2]; rfl
              obtain rfl := Option.some.inj (hu1.symm.trans hnn1)
              obtain rfl := Option.some.inj (hu2.symm.trans hnn2)
              have t0 := blk_cell HGx.out 0
              have t1 := blk_cell HGx.out 1
              have t2 := blk_cell HBx.out.hx 1
              simp at t0 t1 t2
              have gGz := blk_ltB HGx.out
              have gxz := blk_ltB HBx.out.hx
              have c0 := gw_cell p0 z
              have c1 := gw_cell t0 gGz
              have c2 := gw_cell t1 gGz
              have c3 := gw_cell t2 gxz
              have c4 := gw_cell hd1 hgn2
              have c5 := gw_cell hd2 hgn2
              clear hqe1 hqe2 hj1 hj2 hn1 hn2 he1 he2 hu1 hu2 hnn1 hnn2 hf1 hf2 HH HNf hN hl1 hl2 hl3 hl4
              go_wp2_with fail
              refine wp_region_grow (by kernel_rfl) (by kernel_rfl) ?_
              repeat (go_big_quiet_step ((fail)))
              refine wpQuiet_nil ?_
              intro _ hw'
              obtain ⟨nq, hw''⟩ := hw'
              subst hw''
              have hgq := gw_below nq
              generalize gw nq = wq at *
              clear nq
              replace HBx := Lib.hid (HBx.out.step hgq)
              replace HGx := Lib.hid ((hgq.block gG gGz).trans HGx.out)
              have hd2' := (hgq.cell (p := ⟨gn, j2, none⟩) hgn2).trans hd2
              clear c0 c1 c2 c3 c4 c5 t0 t1 t2 hd1 hd2 gGz gxz z p0 p1 p2 p3
              obtain ⟨z, p0, p1, p2, p3⟩ := HBx.out.hC
              have t0 := blk_cell HGx.out 0
              have t1 := blk_cell HGx.out 1
              have t2 := blk_cell HBx.out.hx 1
              simp at t0 t1 t2
              have gGz := blk_ltB HGx.out
              have gxz := blk_ltB HBx.out.hx
              have hgn3 : gn < wq.heap.size := Nat.lt_of_lt_of_le hgn2 hgq.size
              clear hgq
              obtain ⟨wr2, hwr2⟩ : ∃ W, W = wq := ⟨_, rfl⟩
              subst hwr2
              have c0 := gw_cell p0 z
              have c1 := gw_cell t0 gGz
              have c2 := gw_cell t1 gGz
              have c3 := gw_cell t2 gxz
              have c5 := gw_cell hd2' hgn3
              go_wp2_with fail
              refine wp_region_grow (by kernel_rfl) (by kernel_rfl) ?_
              repeat (go_big_quiet_step ((fail)))
              refine wpQuiet_nil ?_
              intro _ hw'
              obtain ⟨nq, hw''⟩ := hw'
              subst hw''
              have hgq := gw_below nq
              generalize gw nq = wq at *
              clear nq
              replace HBx := Lib.hid (HBx.out.step hgq)
              clear c0 c1 c2 c3 c5 t0 t1 t2 hd2' gGz gxz z p0 p1 p2 p3 HGx hgn3 hgn2 hgn1 hgq
              obtain ⟨wr3, hwr3⟩ : ∃ W, W = wq := ⟨_, rfl⟩
              subst hwr3
              obtain ⟨z, p0, p1, p2, p3⟩ := HBx.out.hC
              have x2 := blk_cell HBx.out.hx 2
              simp at x2
              have hzB7 := HBx.out.zB
              have hgl := HGc.out
              have Hlit := Lib.hid (Row.of_own (World.ownsRow_lit (base := wr3.heap.size) (e := 72) (size := 2) wr3 #[.int .i64 (e1 : Nat), .int .i64 (e2 : Nat)] 1 (Nat.le_refl _) (by unfold maxLen; omega) rfl))
              have HBl := Lib.hid (HBx.out.step (bel_new wr3 (.cells #[.int .i64 (e1 : Nat), .int .i64 (e2 : Nat)] 72)))
              have hza : (wr3.alloc (.cells #[.int .i64 (e1 : Nat), .int .i64 (e2 : Nat)] 72)).heap.size = wr3.heap.size + 1 := by simp
              go_wp2_with (at_builtin; refine append_gatesR rfl (.tmp 158) (.tmp 162) rfl B vG G.length _ rfl HBl.out.g _ 1 [.int .i64 (e1 : Nat), .int .i64 (e2 : Nat)] rfl Hlit.out (by simp [Value.oneCell']) (by omega) (by omega) ?_; intro v5 w5 hown5 hg5 hat5; obtain ⟨A5, c5, hv5⟩ := slice_of_own hown5; subst hv5; have ho5 := Only.grown (E := fun g => vG.ownBlock = some g) hg5 (fun k hk => hk); have HB5 := Lib.hid (HBl.out.appG (x := e1) (y := e2) hown5 ho5); have hX5 := (HBl.out.rowG ho5).2.2.1; have r2 := blk_cell hX5 2; have f2 := blk_free hX5 2; simp at r2; clear hown5 hg5 hat5 ho5 hX5)
              clear Hlit HBl hza HBx z p0 p1 p2 p3 x2
              generalize w5.setCell ⟨gx, 2, none⟩ (.slice A5 (G.length + 1) c5) = w6 at *
              clear r2 f2
              obtain ⟨vG2, hvG2⟩ : ∃ v, v = Value.slice A5 (G.length + 1) c5 := ⟨_, rfl⟩
              rw [← hvG2] at HB5
              have HvG2 := Lib.hid hvG2
              clear hvG2
              have hzB8 := HB5.out.zB
              have hwA : IntKind.i64.wrap ((F : Int) + (d.gates.length : Int)) = (F : Int) + (d.gates.length : Int) := IntWalk.i64_in _ (by omega)
              have hwB2 : IntKind.i64.wrap ((F : Int) + (d.gates.length : Int) + 1) = (F : Int) + (d.gates.length : Int) + 1 := IntWalk.i64_in _ (by omega)
              have hwC : IntKind.i64.wrap (2 * ((F : Int) + (d.gates.length : Int) + 1)) = 2 * ((F : Int) + (d.gates.length : Int) + 1) := IntWalk.i64_in _ (by omega)
              have hwD : IntKind.i64.wrap (2 * ((F : Int) + (d.gates.length : Int) + 1) + (bent : Int)) = 2 * ((F : Int) + (d.gates.length : Int) + 1) + (bent : Int) := IntWalk.i64_in _ (by omega)
              have hNl3 : N.length ≤ 3 := by omega
              obtain ⟨NL, hNL⟩ : ∃ NL, N.length = NL := ⟨_, rfl⟩
              have HNown : Hid (w6.ownsRow B 3 1 (.slice (some ⟨gn, 0, none⟩) NL cN) NL (nints N)) := Lib.hid (by have h := HB5.out.n; rw [hNL] at h; exact h)
              have hvne : Hid ((Value.slice (some ⟨gn, 0, none⟩) N.length cN) = Value.slice (some ⟨gn, 0, none⟩) NL cN) := Lib.hid (by rw [hNL])
              rw [hvne.out] at HB5
              rw [hNL] at hNl3
              have HNL := Lib.hid hNL
              clear hNL hNc
              obtain ⟨i0, hi0, hz0, hz1, hz2⟩ := info_parts info_int
              have hO := fun ops a => appRS2_ok (Pg := Try.prog) (ops := ops) (a := a) (news := [.int .i64 (2 * ((F : Int) + (d.gates.length : Int) + 1) + (bent : Int))]) (d := 13) (HNown.out)
              refine wp_region_rsl (appRS2 Try.prog _ w6 _ (B) 3 1 (Value.slice (some ⟨gn, 0, none⟩) NL cN) (NL) (nints N) [.int .i64 (2 * ((F : Int) + (d.gates.length : Int) + 1) + (bent : Int))] 13) (hO _ _) (by kernel_rfl) (by kernel_rfl) (by kernel_rfl) 15 _ rfl rfl (by kernel_rfl) (show (13 : Nat) < 15 by decide) trivial HNown.out ?_
              apply rs_eq (hO _ _) (.inl (Nat.ne_of_beq_eq_false rfl))
              · intro ρ w' ho hK
                have ho : Only _ w6 w' := ho
                obtain ⟨h0, -⟩ := hK
                have h0' : ρ (.tmp 10) = _ := h0
                go_simp
                try exact rfl
              apply rs_eq (hO _ _) (.inl (Nat.ne_of_beq_eq_false rfl))
              · intro ρ w' ho hK
                have ho : Only _ w6 w' := ho
                obtain ⟨h0, -⟩ := hK
                have h0' : ρ (.tmp 165) = _ := h0
                obtain ⟨hP, -, hXq, -⟩ := HB5.out.rowN ho
                obtain ⟨-, q0, q1, q2, q3⟩ := hP
                have k1 := blk_cell hXq 1
                simp at k1
                go_simp
                try exact rfl
              apply rs_eq (hO _ _) (.inl (Nat.ne_of_beq_eq_false rfl))
              · intro ρ w' ho hK
                have ho : Only _ w6 w' := ho
                obtain ⟨h0, -⟩ := hK
                have h0' : ρ (.tmp 2) = _ := h0
                obtain ⟨hP, -, hXq, -⟩ := HB5.out.rowN ho
                obtain ⟨-, q0, q1, q2, q3⟩ := hP
                have k1 := blk_cell hXq 1
                simp at k1
                go_simp
                try exact rfl
              refine rs_call (hO _ _) (.inl (Nat.ne_of_beq_eq_false rfl)) (TEq (.int .i64 (F : Nat))) (stb_eq _ _) 44 _ _ rfl (fun ρ w' ho hK => by
                have ho : Only _ w6 w' := ho
                obtain ⟨h0, h1, -⟩ := hK
                have h0' : ρ (.func 44) = .func (.func 44) #[] #[] := h0
                have h1' : ρ (.tmp 167) = _ := h1
                refine ⟨#[ρ (.tmp 167)], ?_, ?_⟩
                · go_simp
                · rw [h1']
                  refine (HFi.out w' (HB5.out.rowN ho).2.2.2).mono ?_
                  rintro e w2 ⟨rfl, hb⟩
                  exact ⟨_, rfl, rfl, hb⟩) ?_
              apply rs_eq (hO _ _) (.inl (Nat.ne_of_beq_eq_false rfl))
              · intro ρ w' ho hK
                have ho : Only _ w6 w' := ho
                obtain ⟨h0, -⟩ := hK
                have h0' : ρ (.tmp 2) = _ := h0
                go_simp
                try exact rfl
              apply rs_eq (hO _ _) (.inl (Nat.ne_of_beq_eq_false rfl))
              · intro ρ w' ho hK
                have ho : Only _ w6 w' := ho
                obtain ⟨h0, -⟩ := hK
                have h0' : ρ (.tmp 169) = _ := h0
                obtain ⟨hP, -, hXq, -⟩ := HB5.out.rowN ho
                obtain ⟨-, q0, q1, q2, q3⟩ := hP
                have k1 := blk_cell hXq 1
                simp at k1
                go_simp
                try exact rfl
              apply rs_eq (hO _ _) (.inl (Nat.ne_of_beq_eq_false rfl))
              · intro ρ w' ho hK
                have ho : Only _ w6 w' := ho
                obtain ⟨h0, -⟩ := hK
                have h0' : ρ (.tmp 170) = _ := h0
                go_simp
                try exact rfl
              apply rs_eq (hO _ _) (.inl (Nat.ne_of_beq_eq_false rfl))
              · intro ρ w' ho hK
                have ho : Only _ w6 w' := ho
                obtain ⟨h0, h1, -⟩ := hK
                have h0' : ρ (.tmp 168) = _ := h0
                have h1' : ρ (.tmp 171) = _ := h1
                go_simp
                try exact rfl
              apply rs_eq (hO _ _) (.inl (Nat.ne_of_beq_eq_false rfl))
              · intro ρ w' ho hK
                have ho : Only _ w6 w' := ho
                obtain ⟨h0, h1, -⟩ := hK
                have h0' : ρ (.tmp 172) = _ := h0
                have h1' : ρ (.const (Value.int IntKind.i64 1)) = (Value.int IntKind.i64 1) := h1
                go_simp
                try exact rfl
              apply rs_eq (hO _ _) (.inl (Nat.ne_of_beq_eq_false rfl))
              · intro ρ w' ho hK
                have ho : Only _ w6 w' := ho
                obtain ⟨h0, h1, -⟩ := hK
                have h0' : ρ (.const (Value.int IntKind.i64 2)) = (Value.int IntKind.i64 2) := h0
                have h1' : ρ (.tmp 173) = _ := h1
                go_simp
                try exact rfl
              refine rs_old (hO _ _) (.inl (Nat.ne_of_beq_eq_false rfl)) _ (.inl rfl) _ rfl rfl ?_
              apply rs_eq (hO _ _) (.inl (Nat.ne_of_beq_eq_false rfl))
              · intro ρ w' ho hK
                have ho : Only _ w6 w' := ho
                obtain ⟨h0, h1, -⟩ := hK
                have h0' : ρ (.tmp 174) = _ := h0
                have h1' : ρ (.tmp 175) = _ := h1
                go_simp
                try exact rfl
              refine rs_build1 (hO _ _) (.inl (Nat.ne_of_beq_eq_false rfl)) 1 [.int .i64 (2 * ((F : Int) + (d.gates.length : Int) + 1) + (bent : Int))] 3 rfl (fun ρ w' ho hK => by
                have ho : Only _ w6 w' := ho
                obtain ⟨h0, -⟩ := hK
                have h0' : ρ (.tmp 176) = _ := h0
                go_simp) ?_
              refine rs_append2 rfl (B) 3 23 1 (Value.slice (some ⟨gn, 0, none⟩) NL cN) (NL) (nints N) _ rfl rfl (fun g hg => hg) (show B ≤ w6.heap.size by omega) _ _ rfl _ _ rfl rfl rfl rfl i0 _ 8 Try.underlying23 hi0 hz0 hz1 hz2 rfl (by decide) (by omega) (by decide) (by simp [Value.oneCell']) ?_
              apply rs_eq (hO _ _) (.inl (Nat.ne_of_beq_eq_false rfl))
              · intro ρ w' ho hK
                have ho : Only _ w6 w' := ho
                obtain ⟨h0, -⟩ := hK
                have h0' : ρ (.tmp 10) = _ := h0
                go_simp
                try exact rfl
              intro f w9 k9 hk9 hI9 ht9 hcp9
              have E0 : f 0 = _ := ht9 0 (Nat.le_of_ble_eq_true rfl)
              have E1 : f 1 = _ := ht9 1 (Nat.le_of_ble_eq_true rfl)
              have E2 : f 2 = _ := ht9 2 (Nat.le_of_ble_eq_true rfl)
              have E3 : f 3 = _ := ht9 3 (Nat.le_of_ble_eq_true rfl)
              have E4 : f 4 = _ := ht9 4 (Nat.le_of_ble_eq_true rfl)
              have E5 : f 5 = _ := ht9 5 (Nat.le_of_ble_eq_true rfl)
              have E6 : f 6 = _ := ht9 6 (Nat.le_of_ble_eq_true rfl)
              have E7 : f 7 = _ := ht9 7 (Nat.le_of_ble_eq_true rfl)
              have E8 : f 8 = _ := ht9 8 (Nat.le_of_ble_eq_true rfl)
              have E9 : f 9 = _ := ht9 9 (Nat.le_of_ble_eq_true rfl)
              have E10 : f 10 = _ := ht9 10 (Nat.le_of_ble_eq_true rfl)
              conv at E10 => rhs; whnf
              have E11 : f 11 = _ := ht9 11 (Nat.le_of_ble_eq_true rfl)
              have E12 : (TNew _ 1 1 [.int .i64 (2 * ((F : Int) + (d.gates.length : Int) + 1) + (bent : Int))]) w9 (f 12) := ht9 12 (Nat.le_of_ble_eq_true rfl)
              have E13 : (TAny) w9 (f 13) := ht9 13 (Nat.le_of_ble_eq_true rfl)
              have E14 : f 14 = _ := ht9 14 (Nat.le_of_ble_eq_true rfl)
              have Ho9 : Only _ w6 w9 := hI9.2.1
              have hown9 : w9.ownsRow (B) 3 1 (f 13) (NL + 1) (nints N ++ [.int .i64 (2 * ((F : Int) + (d.gates.length : Int) + 1) + (bent : Int))]) := hI9.2.2.1
              have hat9 : ∀ g, (f 13).ownBlock = some g → (Value.slice (some ⟨gn, 0, none⟩) NL cN).ownBlock = some g ∨ w6.heap.size ≤ g := hI9.2.2.2
              simp only [putAll, E0, E1, E2, E3, E4, E5, E6, E7, E8, E9, E10, E11, E14, Nat.zero_add, Nat.reduceAdd, Act.put, List.setIfInBounds_toArray, List.set_cons_succ, List.set_cons_zero, List.take, List.getElem_toArray, List.getElem_cons_succ, List.getElem_cons_zero]
              clear E0 E1 E2 E3 E4 E5 E6 E7 E8 E9 E10 E11 E14
              clear hI9 ht9 hcp9 hk9
              generalize f 12 = r12 at *
              generalize f 13 = r13 at *
              have O9 : Only (fun g => (Value.slice (some ⟨gn, 0, none⟩) NL cN).ownBlock = some g) w6 w9 := Ho9
              obtain ⟨A9, c9, hv9⟩ := slice_of_own hown9
              subst hv9
              have hX9 := (HB5.out.rowN O9).2.2.1
              have hVe : 2 * ((F : Int) + (d.gates.length : Int) + 1) + (bent : Int) = ((2 * (F + d.gates.length + 1) + bent : Nat) : Int) := by omega
              rw [hVe] at hown9
              have HB9 := Lib.hid (HB5.out.appN (x := 2 * (F + d.gates.length + 1) + bent) (by rw [HNL.out]; exact hown9) O9 hat9)
              have q1 := blk_cell hX9 1
              have f1 := blk_free hX9 1
              simp at q1
              have hz9 := O9.size
              have HNf : Hid (N ++ [2 * (F + d.gates.length + 1) + bent] = (Cir.retC d i).next) := Lib.hid (by unfold Cir.retC; rw [Hud.out, HN.out, HF.out, Hbent.out])
              have HGf : Hid (G ++ [(e1, e2)] = (Cir.retC d i).gates) := Lib.hid (by unfold Cir.retC; rw [Hud.out, HN.out, HG.out, HGate.out])
              rw [HNf.out, HGf.out] at HB9
              generalize hNF : (Cir.retC d i).next = NF at *
              generalize hGF : (Cir.retC d i).gates = GF at *
              have HNF := Lib.hid hNF
              have HGF := Lib.hid hGF
              clear hNF hGF
              clear Ho9 O9 hX9 hown9 hat9 HB5 HNown hvne hwA hwB2 hwC hwD hVe hx1r hx2r
              go_wp2_with fail
              generalize w9.setCell ⟨gx, 1, none⟩ (.slice A9 (NL + 1) c9) = w10 at *
              clear q1 f1 hz9
              obtain ⟨vN2, hvN2⟩ : ∃ v, v = Value.slice A9 (NL + 1) c9 := ⟨_, rfl⟩
              rw [← hvN2] at HB9
              clear hvN2
              go_loopw [15] (fun j wr => ∃ (k : Nat), k ≤ d.outs.length ∧ j = .int .i64 k ∧ RetO d w B gC gR gx (.slice An d.next.length cn) (.slice (some ⟨bq, o, none⟩) d.gates.length cg) (.slice Ao d.outs.length co) vm' vN2 vG2 m NF u GF k wr) (fun j _ => d.outs.length - (intOf j).toNat)
              case atStart => exact ⟨0, Nat.zero_le _, rfl, ⟨⟨.slice none 0 0, HB9⟩⟩⟩
              case round =>
                clear HB9
                obtain ⟨k, hk, rfl, HH⟩ := hrel
                obtain ⟨vO, HBx⟩ := HH.out
                obtain ⟨z, p0, p1, p2, p3⟩ := HBx.out.hC
                have hzB9 := HBx.out.zB
                by_cases hlt : k < d.outs.length
                · obtain ⟨b, oo, x, rfl, hbl, hx, hs⟩ := ints_open RO.out (Below.refl _ _) (show d.outs.length = (Cir.toCz d).outs.length from (List.length_map _).symm) (i := k) (by rw [show (Cir.toCz d).outs.length = d.outs.length from List.length_map _]; exact hlt)
                  obtain ⟨l, hl⟩ := at_some hlt
                  have hxe : x = (l : Int) := by
                    have h1 := hx.out
                    unfold Cir.toCz at h1
                    rw [List.getElem?_map, hl] at h1
                    exact (Option.some.inj h1).symm
                  subst hxe
                  have hlN := HOl.out l (List.mem_of_getElem? hl)
                  have HS : Hid ((d.outs.take (k + 1)).map u = (d.outs.take k).map u ++ [u l]) := Lib.hid (by rw [take_snoc hl, List.map_append]; rfl)
                  have hOl : ((d.outs.take k).map u).length ≤ 3 := by rw [List.length_map, List.length_take]; omega
                  generalize (d.outs.take k).map u = O at *
                  obtain ⟨y, hy⟩ : ∃ y, y = u l := ⟨_, rfl⟩
                  rw [← hy] at HS
                  have Hy := Lib.hid hy
                  have hl6 : l ≤ 1000000 := by omega
                  have hbz : b < wr.heap.size := by have := HBx.out.below.size; omega
                  have hnb : vO.ownBlock ≠ some b := fun e => by have := (HBx.out.o.lt b e).1; omega
                  have hs' := (HBx.out.below.cell (p := ⟨b, oo + k, none⟩) hbl).trans hs
                  clear hx hl hy HH
                  go_wp2_with fail
                  obtain ⟨i0, hi0, hz0, hz1, hz2⟩ := info_parts info_int
                  have hO := fun ops a => appRS2_ok (Pg := Try.prog) (ops := ops) (a := a) (news := [.int .i64 (y : Int)]) (d := 10) (HBx.out.o)
                  refine wp_region_rsl (appRS2 Try.prog _ wr _ (B) 3 1 (vO) (O.length) (nints O) [.int .i64 (y : Int)] 10) (hO _ _) (by kernel_rfl) (by kernel_rfl) (by kernel_rfl) 12 _ rfl rfl (by kernel_rfl) (show (10 : Nat) < 12 by decide) trivial HBx.out.o ?_
                  apply rs_eq (hO _ _) (.inl (Nat.ne_of_beq_eq_false rfl))
                  · intro ρ w' ho hK
                    have ho : Only _ wr w' := ho
                    obtain ⟨h0, -⟩ := hK
                    have h0' : ρ (.tmp 10) = _ := h0
                    go_simp
                    try exact rfl
                  apply rs_eq (hO _ _) (.inl (Nat.ne_of_beq_eq_false rfl))
                  · intro ρ w' ho hK
                    have ho : Only _ wr w' := ho
                    obtain ⟨h0, -⟩ := hK
                    have h0' : ρ (.tmp 187) = _ := h0
                    obtain ⟨hP, -, hXq, -⟩ := HBx.out.rowO ho
                    obtain ⟨-, q0, q1, q2, q3⟩ := hP
                    have k1 := blk_cell hXq 3
                    simp at k1
                    have c1 := (World.cell?_of_block (a := ⟨b, oo + k, none⟩) (ho.block b hbz (fun e => hnb e))).trans hs'
                    go_simp
                    try exact rfl
                  refine rs_old (hO _ _) (.inl (Nat.ne_of_beq_eq_false rfl)) _ (.inl rfl) _ rfl rfl ?_
                  apply rs_eq (hO _ _) (.inl (Nat.ne_of_beq_eq_false rfl))
                  · intro ρ w' ho hK
                    have ho : Only _ wr w' := ho
                    obtain ⟨h0, -⟩ := hK
                    have h0' : ρ (.tmp 2) = _ := h0
                    go_simp
                    try exact rfl
                  apply rs_eq (hO _ _) (.inl (Nat.ne_of_beq_eq_false rfl))
                  · intro ρ w' ho hK
                    have ho : Only _ wr w' := ho
                    obtain ⟨h0, -⟩ := hK
                    have h0' : ρ (.tmp 190) = _ := h0
                    obtain ⟨hP, -, hXq, -⟩ := HBx.out.rowO ho
                    obtain ⟨-, q0, q1, q2, q3⟩ := hP
                    have k1 := blk_cell hXq 3
                    simp at k1
                    have c1 := (World.cell?_of_block (a := ⟨b, oo + k, none⟩) (ho.block b hbz (fun e => hnb e))).trans hs'
                    go_simp
                    try exact rfl
                  refine rs_old (hO _ _) (.inl (Nat.ne_of_beq_eq_false rfl)) _ (.inl rfl) _ rfl rfl ?_
                  apply rs_eq (hO _ _) (.inl (Nat.ne_of_beq_eq_false rfl))
                  · intro ρ w' ho hK
                    have ho : Only _ wr w' := ho
                    obtain ⟨h0, h1, -⟩ := hK
                    have h0' : ρ (.tmp 191) = _ := h0
                    have h1' : ρ (.tmp 192) = _ := h1
                    go_simp
                    try exact rfl
                  apply rs_eq (hO _ _) (.inl (Nat.ne_of_beq_eq_false rfl))
                  · intro ρ w' ho hK
                    have ho : Only _ wr w' := ho
                    obtain ⟨h0, -⟩ := hK
                    have h0' : ρ (.tmp 193) = _ := h0
                    obtain ⟨hP, -, hXq, -⟩ := HBx.out.rowO ho
                    obtain ⟨-, q0, q1, q2, q3⟩ := hP
                    have k1 := blk_cell hXq 3
                    simp at k1
                    have c1 := (World.cell?_of_block (a := ⟨b, oo + k, none⟩) (ho.block b hbz (fun e => hnb e))).trans hs'
                    go_simp
                    try exact rfl
                  refine rs_call (hO _ _) (.inl (Nat.ne_of_beq_eq_false rfl)) (TEq (.int .i64 ((y : Nat) : Int))) (stb_eq _ _) 65 _ _ rfl (fun ρ w' ho hK => by
                    have ho : Only _ wr w' := ho
                    obtain ⟨h0, h1, h2, -⟩ := hK
                    have h0' : ρ (.func 65) = .func (.func 65) #[] #[] := h0
                    have h1' : ρ (.tmp 189) = _ := h1
                    have h2' : ρ (.tmp 194) = _ := h2
                    refine ⟨#[ρ (.tmp 189), ρ (.tmp 194)], ?_, ?_⟩
                    · go_simp
                    · rw [h1', h2']
                      refine (HMap.out w' l (own_only HBx.out.m ho (fun q hq e => HBx.out.mo q hq e)) hlN hl6).mono ?_
                      rintro e w2 ⟨rfl, hb⟩
                      exact ⟨_, rfl, by rw [Hy.out]; rfl, hb⟩) ?_
                  refine rs_build1 (hO _ _) (.inl (Nat.ne_of_beq_eq_false rfl)) 1 [.int .i64 (y : Int)] 3 rfl (fun ρ w' ho hK => by
                    have ho : Only _ wr w' := ho
                    obtain ⟨h0, -⟩ := hK
                    have h0' : ρ (.tmp 195) = _ := h0
                    go_simp) ?_
                  refine rs_append2 rfl (B) 3 23 1 (vO) (O.length) (nints O) _ rfl rfl (fun g hg => hg) (show B ≤ wr.heap.size by omega) _ _ rfl _ _ rfl rfl rfl rfl i0 _ 8 Try.underlying23 hi0 hz0 hz1 hz2 rfl (by decide) (by omega) (by decide) (by simp [Value.oneCell']) ?_
                  apply rs_eq (hO _ _) (.inl (Nat.ne_of_beq_eq_false rfl))
                  · intro ρ w' ho hK
                    have ho : Only _ wr w' := ho
                    obtain ⟨h0, -⟩ := hK
                    have h0' : ρ (.tmp 10) = _ := h0
                    go_simp
                    try exact rfl
                  intro f w9 k9 hk9 hI9 ht9 hcp9
                  have E0 : f 0 = _ := ht9 0 (Nat.le_of_ble_eq_true rfl)
                  have E1 : f 1 = _ := ht9 1 (Nat.le_of_ble_eq_true rfl)
                  have E2 : f 2 = _ := ht9 2 (Nat.le_of_ble_eq_true rfl)
                  conv at E2 => rhs; whnf
                  have E3 : f 3 = _ := ht9 3 (Nat.le_of_ble_eq_true rfl)
                  have E4 : f 4 = _ := ht9 4 (Nat.le_of_ble_eq_true rfl)
                  have E5 : f 5 = _ := ht9 5 (Nat.le_of_ble_eq_true rfl)
                  conv at E5 => rhs; whnf
                  have E6 : f 6 = _ := ht9 6 (Nat.le_of_ble_eq_true rfl)
                  have E7 : f 7 = _ := ht9 7 (Nat.le_of_ble_eq_true rfl)
                  have E8 : f 8 = _ := ht9 8 (Nat.le_of_ble_eq_true rfl)
                  have E9 : (TNew _ 1 1 [.int .i64 (y : Int)]) w9 (f 9) := ht9 9 (Nat.le_of_ble_eq_true rfl)
                  have E10 : (TAny) w9 (f 10) := ht9 10 (Nat.le_of_ble_eq_true rfl)
                  have E11 : f 11 = _ := ht9 11 (Nat.le_of_ble_eq_true rfl)
                  have Ho9 : Only _ wr w9 := hI9.2.1
                  have hown9 : w9.ownsRow (B) 3 1 (f 10) (O.length + 1) (nints O ++ [.int .i64 (y : Int)]) := hI9.2.2.1
                  have hat9 : ∀ g, (f 10).ownBlock = some g → (vO).ownBlock = some g ∨ wr.heap.size ≤ g := hI9.2.2.2
                  simp only [putAll, E0, E1, E2, E3, E4, E5, E6, E7, E8, E11, Nat.zero_add, Nat.reduceAdd, Act.put, List.setIfInBounds_toArray, List.set_cons_succ, List.set_cons_zero, List.take, List.getElem_toArray, List.getElem_cons_succ, List.getElem_cons_zero]
                  clear E0 E1 E2 E3 E4 E5 E6 E7 E8 E11
                  clear hI9 ht9 hcp9 hk9
                  generalize f 9 = r9 at *
                  generalize f 10 = r10 at *
                  have O9 : Only (fun g => vO.ownBlock = some g) wr w9 := Ho9
                  obtain ⟨A9, c9, hv9⟩ := slice_of_own hown9
                  subst hv9
                  have hX9 := (HBx.out.rowO O9).2.2.1
                  have HB9 := Lib.hid (HBx.out.appO (x := y) hown9 O9 hat9)
                  have q1 := blk_cell hX9 3
                  have f1 := blk_free hX9 3
                  simp at q1
                  have hz9 := O9.size
                  clear Ho9 O9 hX9 hown9 hat9 HBx hs hs' hnb z p0 p1 p2 p3
                  go_wp2_with fail
                  go_roundw
                  case rel => exact ⟨k + 1, by omega, by go_num, ⟨⟨_, by rw [HS.out]; exact HB9⟩⟩⟩
                  case measure => simp [intOf] <;> omega
                · obtain rfl : k = d.outs.length := by omega
                  have HOF : Hid ((d.outs.take d.outs.length).map u = (Cir.retC d i).outs) := Lib.hid (by rw [List.take_length]; unfold Cir.retC; rw [Hud.out])
                  rw [HOF.out] at HBx
                  obtain ⟨AN, cN2, hvN⟩ := slice_of_own HBx.out.n
                  obtain ⟨AG, cG2, hvG⟩ := slice_of_own HBx.out.g
                  obtain ⟨AO, cO2, hvO⟩ := slice_of_own HBx.out.o
                  subst hvN hvG hvO
                  have hCf : CircOwn 0 wr (.agg #[.int .i64 (d.ins : Int), .slice AN NF.length cN2, .slice AG GF.length cG2, .slice AO (Cir.retC d i).outs.length cO2]) (Cir.toCz (Cir.retC d i)) := by
                    have e1 : (Cir.toCz (Cir.retC d i)).next = nats NF := by rw [← HNF.out]; rfl
                    have e2 : (Cir.toCz (Cir.retC d i)).gates = gz GF := by rw [← HGF.out]; rfl
                    have e3 : (Cir.toCz (Cir.retC d i)).outs = nats (Cir.retC d i).outs := rfl
                    refine ⟨_, _, _, rfl, ?_, ?_, ?_⟩
                    · rw [e1, nats_length]; exact own_mono HBx.out.n (Nat.zero_le _)
                    · rw [e2, gz_length]; exact own_mono HBx.out.g (Nat.zero_le _)
                    · rw [e3, nats_length]; exact own_mono HBx.out.o (Nat.zero_le _)
                  have HCf := Lib.hid hCf
                  have HRf := Lib.hid HBx.out.hR
                  have HBf := Lib.hid HBx.out.below
                  have y0 := blk_cell HBx.out.hx 0
                  have y1 := blk_cell HBx.out.hx 1
                  have y2 := blk_cell HBx.out.hx 2
                  have y3 := blk_cell HBx.out.hx 3
                  simp at y0 y1 y2 y3
                  have r0 := blk_cell HRf.out 0
                  have r1 := blk_cell HRf.out 1
                  have r2 := blk_cell HRf.out 2
                  have r3 := blk_cell HRf.out 3
                  have f0 := blk_free HRf.out 0
                  have f1 := blk_free HRf.out 1
                  have f2 := blk_free HRf.out 2
                  have f3 := blk_free HRf.out 3
                  clear hCf HBx HH
                  generalize NF.length = M1 at *
                  generalize GF.length = M2 at *
                  generalize (Cir.retC d i).outs.length = M3 at *
                  go_wp2_with fail
                  refine bodyPost_ret (v := .agg #[.int .i64 (d.ins : Int), .slice AN M1 cN2, .slice AG M2 cG2, .slice AO M3 cO2]) (by simp [results, Try.results22, go_sem, r0, r1, r2, r3]) rfl ⟨⟨_, rfl, circOwn_four HCf.out HRf.out⟩, ?_⟩
                  exact (((HBf.out.setCell hwR _).setCell hwR _).setCell hwR _).setCell hwR _
end Go.Proofs.Ytdgminjbgjbamaa
namespace Go.Proofs.Ytdgminjbgjbamaa
namespace Cir
section
variable {d : Ci} {i : Nat}
theorem rMap_eq {d : Ci} {i l : Nat} (h : l < 2 * nvars d) : rMap d i l = rPlace (nfirst d) i (bentC d i) (l / 2) ^^^ (l % 2) := by
  unfold rMap useX
  congr 1
  unfold rRow
  unfold nvars at h
  rw [List.getD_eq_getElem?_getD, List.getElem?_map, List.getElem?_range (by omega)]
  rfl
theorem bent_le (d : Ci) (i : Nat) : bentC d i ≤ 1 := by
  unfold bentC
  rcases Nat.mod_two_eq_zero_or_one (d.gates.getD i (0, 0)).1 with h | h <;> rcases Nat.mod_two_eq_zero_or_one (d.gates.getD i (0, 0)).2 with h' | h' <;> rw [h, h'] <;> omega
theorem rPlace_lt {F i bent v k : Nat} (hb : bent ≤ 1) (h : v < F + k) : rPlace F i bent v < 2 * (F + 1 + k) := by
  unfold rPlace
  split
  · omega
  · split <;> omega
theorem rMap_lt {d : Ci} {i l k : Nat} (hk : k ≤ d.gates.length) (h : l < 2 * (nfirst d + k)) : rMap d i l < 2 * (nfirst d + 1 + k) := by
  rw [rMap_eq (by unfold nvars; omega)]
  exact xor_lt (Nat.mod_lt _ (by omega)) (rPlace_lt (bent_le d i) (by omega))
theorem retC_first (d : Ci) (i : Nat) : nfirst (retC d i) = nfirst d + 1 := by simp [nfirst, retC]; omega
theorem retC_vars (d : Ci) (i : Nat) : nvars (retC d i) = nfirst d + d.gates.length + 2 := by unfold nvars; rw [retC_first]; simp [retC]; omega
theorem isLat_get {d : Ci} {l : Nat} (h : isLat d l = true) : d.ins + 1 ≤ l / 2 ∧ l / 2 < nfirst d ∧ l / 2 - d.ins - 1 < d.next.length := by
  unfold isLat at h
  rw [decide_eq_true_eq] at h
  unfold nfirst
  omega
theorem next_lt {d : Ci} (hd : Ok d) (i : Nat) {j : Nat} (hj : j < d.next.length) : (d.next.map (rMap d i)).getD j 0 = rMap d i (d.next.getD j 0) ∧ d.next.getD j 0 < 2 * nvars d := by
  have h := at_getD 0 hj
  refine ⟨?_, hd.next _ (List.mem_of_getElem? h)⟩
  rw [List.getD_eq_getElem?_getD, List.getElem?_map, h]
  rfl
structure CanR (d : Ci) (i : Nat) : Prop where
  lt : i < d.gates.length
  a : isLat d (d.gates.getD i (0, 0)).1 = true
  b : isLat d (d.gates.getD i (0, 0)).2 = true
  nexts : d.next.length < 3
  gatess : d.gates.length < 14
theorem CanR.of {d : Ci} {i : Nat} (h : canR d (i : Int) = true) : CanR d i := by
  unfold canR at h
  simp only [Bool.and_eq_true, decide_eq_true_eq, Int.toNat_natCast] at h
  obtain ⟨⟨⟨⟨h1, h2⟩, h3⟩, h4⟩, h5⟩ := h
  exact ⟨by omega, h2, h3, h4, h5⟩
theorem retC_ok (hd : Ok d) (h : CanR d i) : Ok (retC d i) := by
  have hv := retC_vars d i
  have hf := retC_first d i
  have hb := bent_le d i
  refine ⟨hd.ins, by have := h.nexts; simp [retC]; omega, by have := h.gatess; simp [retC]; omega, by simpa [retC] using hd.outss, fun k g hk => ?_, fun l hl => ?_, fun l hl => ?_⟩
  · rw [hf]
    simp only [retC] at hk
    by_cases e : k < d.gates.length
    · rw [List.getElem?_append_left (by simpa using e), List.getElem?_map, Option.map_eq_some_iff] at hk
      obtain ⟨g', hk, rfl⟩ := hk
      have := hd.gate k g' hk
      exact ⟨rMap_lt (by omega) this.1, rMap_lt (by omega) this.2⟩
    · have hk' := (List.getElem?_eq_some_iff.1 hk).1
      simp at hk'
      obtain rfl : k = d.gates.length := by omega
      rw [List.getElem?_append_right (by simp), List.length_map, Nat.sub_self] at hk
      simp only [List.getElem?_cons_zero, Option.some.injEq] at hk
      subst hk
      obtain ⟨a1, a2, a3⟩ := isLat_get h.a
      obtain ⟨b1, b2, b3⟩ := isLat_get h.b
      obtain ⟨e1, q1⟩ := next_lt hd i a3
      obtain ⟨e2, q2⟩ := next_lt hd i b3
      refine ⟨xor_lt (Nat.mod_lt _ (by omega)) ?_, xor_lt (Nat.mod_lt _ (by omega)) ?_⟩
      · rw [e1]; exact rMap_lt (Nat.le_refl _) q1
      · rw [e2]; exact rMap_lt (Nat.le_refl _) q2
  · rw [hv]
    simp only [retC] at hl
    rcases List.mem_append.1 hl with hl | hl
    · obtain ⟨a, ha, rfl⟩ := List.mem_map.1 hl
      have := rMap_lt (d := d) (i := i) (Nat.le_refl _) (hd.next a ha)
      omega
    · rw [List.mem_singleton.1 hl]
      omega
  · rw [hv]
    simp only [retC] at hl
    obtain ⟨a, ha, rfl⟩ := List.mem_map.1 hl
    have := rMap_lt (d := d) (i := i) (Nat.le_refl _) (hd.out a ha)
    omega
def litS (d : Ci) (st : List Bool) (l : Nat) : Bool := st.getD (l / 2 - d.ins - 1) false != (l % 2 == 1)
def newS (d : Ci) (i : Nat) (st : List Bool) : Bool := (litS d st (d.gates.getD i (0, 0)).1 && litS d st (d.gates.getD i (0, 0)).2) != (bentC d i == 1)
def retF (d : Ci) (i : Nat) (st : List Bool) : List Bool := st ++ [newS d i st]
theorem lit_lat {st inp : List Bool} (l1 : inp.length = d.ins) (l2 : st.length = d.next.length) {l : Nat} (h : isLat d l = true) : lit (vals d st inp) l = litS d st l := by
  obtain ⟨h1, h2, h3⟩ := isLat_get h
  unfold lit litS
  rw [vals_first d l1 l2 h2, cons_get2 (by omega), l1, show l / 2 - (1 + d.ins) = l / 2 - d.ins - 1 from by omega]
theorem bnn (a b : Bool) : ((a != b) != b) = a := by cases a <;> cases b <;> rfl
theorem ret_val (hd : Ok d) (h : CanR d i) {st inp : List Bool} (l1 : inp.length = d.ins) (l2 : st.length = d.next.length) :
    ∀ k, k ≤ d.gates.length → ∀ v, v < nfirst d + k → lit (vals (retC d i) (retF d i st) inp) (rPlace (nfirst d) i (bentC d i) v) = (vals d st inp).getD v false
  | 0, _, v, hv => by
    have hf : nfirst d = 1 + d.ins + d.next.length := rfl
    have l2' : (retF d i st).length = (retC d i).next.length := by simp [retF, retC, l2]
    unfold rPlace
    rw [if_pos (by omega)]
    unfold lit
    rw [show 2 * v / 2 = v from by omega, show 2 * v % 2 = 0 from by omega, vals_first (retC d i) l1 l2' (by rw [retC_first]; omega), vals_first d l1 l2 (by omega)]
    by_cases e : v < 1 + d.ins
    · rw [cons_get (st := retF d i st) (by omega) st]
      simp
    · rw [cons_get2 (by omega), cons_get2 (by omega)]
      unfold retF
      rw [getD_append_lt false (by omega)]
      simp
  | k + 1, hkl, v, hv => by
    by_cases e : v < nfirst d + k
    · exact ret_val hd h l1 l2 k (by omega) v e
    · obtain rfl : v = nfirst d + k := by omega
      have hf : nfirst d = 1 + d.ins + d.next.length := rfl
      have l2' : (retF d i st).length = (retC d i).next.length := by simp [retF, retC, l2]
      have hg := ok_getD hd (show k < d.gates.length by omega)
      have hgk := at_getD (0, 0) (show k < d.gates.length by omega)
      have hb := bent_le d i
      by_cases ei : k = i
      · subst ei
        rw [vals_gate d l1 l2 hd hgk]
        unfold gval
        rw [lit_lat l1 l2 h.a, lit_lat l1 l2 h.b]
        unfold rPlace
        rw [if_neg (by omega), if_pos rfl, lit_double _ _ _ (by omega), vals_first (retC d k) l1 l2' (by rw [retC_first]; omega), cons_get2 (by omega)]
        unfold retF
        rw [getD_append_at false (by omega)]
        unfold newS
        exact bnn _ _
      · have hgk' : (retC d i).gates[k]? = some (rMap d i (d.gates.getD k (0, 0)).1, rMap d i (d.gates.getD k (0, 0)).2) := by
          simp only [retC]
          rw [List.getElem?_append_left (by simp; omega), List.getElem?_map, hgk]
          rfl
        generalize d.gates.getD k (0, 0) = g at *
        have IH := ret_val hd h l1 l2 k (by omega)
        unfold rPlace
        rw [if_neg (by omega), if_neg (by omega)]
        have e2 := lit_double (vals (retC d i) (retF d i st) inp) (nfirst d + k + 1) 0 (by omega)
        rw [show 2 * (nfirst d + k) + 2 = 2 * (nfirst d + k + 1) + 0 from by omega, e2, vals_gate d l1 l2 hd hgk]
        have e3 := vals_gate (retC d i) l1 l2' (retC_ok hd h) hgk'
        rw [retC_first, show nfirst d + 1 + k = nfirst d + k + 1 from by omega] at e3
        rw [e3]
        have key : ∀ l, l < 2 * (nfirst d + k) → lit (vals (retC d i) (retF d i st) inp) (rMap d i l) = lit (vals d st inp) l := fun l hl => by
          rw [rMap_eq (by unfold nvars; omega), lit_xor _ _ _ (by omega), IH (l / 2) (by omega), Nat.mod_mod]
          rfl
        unfold gval
        simp only
        rw [key _ hg.1, key _ hg.2]
        simp
theorem ret_lit (hd : Ok d) (h : CanR d i) {st inp : List Bool} (l1 : inp.length = d.ins) (l2 : st.length = d.next.length) {l : Nat} (hl : l < 2 * nvars d) : lit (vals (retC d i) (retF d i st) inp) (rMap d i l) = lit (vals d st inp) l := by
  rw [rMap_eq hl, lit_xor _ _ _ (by omega), ret_val hd h l1 l2 _ (Nat.le_refl _) (l / 2) (by unfold nvars at hl; omega), Nat.mod_mod]
  rfl
theorem ret_sim (hd : Ok d) (h : CanR d i) : Sim d (retC d i) (retF d i) := by
  have hb := bent_le d i
  refine ⟨rfl, by simp [retC], ?_, fun st inp l1 l2 => ⟨?_, ?_⟩⟩
  · have hz : ∀ j, (List.replicate d.next.length false).getD j false = false := fun j => by
      rw [List.getD_eq_getElem?_getD, List.getElem?_replicate]
      split <;> rfl
    have : newS d i (List.replicate d.next.length false) = false := by
      unfold newS litS bentC
      rw [hz, hz]
      rcases Nat.mod_two_eq_zero_or_one (d.gates.getD i (0, 0)).1 with h1 | h1 <;> rcases Nat.mod_two_eq_zero_or_one (d.gates.getD i (0, 0)).2 with h2 | h2 <;> rw [h1, h2] <;> rfl
    unfold retF
    rw [this, show (retC d i).next.length = d.next.length + 1 from by simp [retC], List.replicate_succ']
  · have l2' : (retF d i st).length = (retC d i).next.length := by simp [retF, retC, l2]
    obtain ⟨a1, a2, a3⟩ := isLat_get h.a
    obtain ⟨b1, b2, b3⟩ := isLat_get h.b
    obtain ⟨e1, q1⟩ := next_lt hd i a3
    obtain ⟨e2, q2⟩ := next_lt hd i b3
    have hS : ∀ l, isLat d l = true → litS d (lits (vals d st inp) d.next) l = (lit (vals d st inp) (d.next.getD (l / 2 - d.ins - 1) 0) != (l % 2 == 1)) := fun l hl => by
      obtain ⟨_, _, c3⟩ := isLat_get hl
      unfold litS lits
      rw [List.getD_eq_getElem?_getD, List.getElem?_map, at_getD 0 c3]
      rfl
    unfold lits
    rw [show (retC d i).next = d.next.map (rMap d i) ++ [2 * (nfirst d + d.gates.length + 1) + bentC d i] from rfl, List.map_append, List.map_map, List.map_singleton]
    unfold retF
    congr 1
    · exact List.map_congr_left fun l hl => ret_lit hd h l1 l2 (hd.next l hl)
    · congr 1
      have hg : (retC d i).gates[d.gates.length]? = some ((d.next.map (rMap d i)).getD ((d.gates.getD i (0, 0)).1 / 2 - d.ins - 1) 0 ^^^ (d.gates.getD i (0, 0)).1 % 2, (d.next.map (rMap d i)).getD ((d.gates.getD i (0, 0)).2 / 2 - d.ins - 1) 0 ^^^ (d.gates.getD i (0, 0)).2 % 2) := by
        simp only [retC]
        rw [List.getElem?_append_right (by simp), List.length_map, Nat.sub_self]
        rfl
      have e3 := vals_gate (retC d i) l1 l2' (retC_ok hd h) hg
      rw [retC_first, show nfirst d + 1 + d.gates.length = nfirst d + d.gates.length + 1 from by omega] at e3
      have e3' : (vals (retC d i) (st ++ [newS d i st]) inp).getD (nfirst d + d.gates.length + 1) false = _ := e3
      rw [lit_double _ _ _ (by omega), e3']
      unfold gval newS
      simp only
      rw [lit_xor _ _ _ (by omega), lit_xor _ _ _ (by omega), e1, e2, ret_lit hd h l1 l2 q1, ret_lit hd h l1 l2 q2, Nat.mod_mod, Nat.mod_mod]
      have s1 := hS _ h.a
      have s2 := hS _ h.b
      unfold lits at s1 s2
      rw [s1, s2]
  · unfold lits
    rw [show (retC d i).outs = d.outs.map (rMap d i) from rfl, List.map_map]
    exact List.map_congr_left fun l hl => ret_lit hd h l1 l2 (hd.out l hl)
end
end Cir
end Go.Proofs.Ytdgminjbgjbamaa
namespace Go.Proofs.Ytdgminjbgjbamaa
open Go.RowKit Go.Maps
namespace Cir
theorem xor_bit (F b r : Nat) (hb : b < 2) (hr : r < 2) : (2 * F + b) ^^^ r = 2 * F + (b ^^^ r) := by
  have h1 := xor_half (2 * F + b) r hr
  have h2 : ((2 * F + b) ^^^ r) % 2 = ((2 * F + b) % 2) ^^^ (r % 2) := by
    have := Nat.xor_mod_two_pow (a := 2 * F + b) (b := r) (n := 1)
    simpa using this
  rw [show (2 * F + b) % 2 = b from by omega, show r % 2 = r from by omega] at h2
  have h3 : b ^^^ r = (b + r) % 2 := by
    rcases (show b = 0 ∨ b = 1 by omega) with rfl | rfl <;> rcases (show r = 0 ∨ r = 1 by omega) with rfl | rfl <;> rfl
  omega
def latV (d : Ci) (v : Nat) : Bool := decide (d.ins < v) && decide (v < nfirst d)
theorem latV_lat (d : Ci) (l : Nat) : latV d (l / 2) = isLat d l := by
  unfold latV isLat nfirst
  rw [Bool.eq_iff_iff]
  simp only [Bool.and_eq_true, decide_eq_true_iff]
  omega
end Cir
theorem isLatch_any (g : Nat) (d : Ci) (v : Nat) (w : World) (h : PCirc w g (Cir.toCz d)) (hd : Cir.Ok d) (hv : v ≤ 1000000) :
    Calls Try.prog 68 #[.pointer (some ⟨g, 0, none⟩), .int .i64 (v : Int)] w fun e w' => e = .returned (.bool (Cir.latV d v)) ∧ Below w.heap.size w w' := by
  have s1 := hd.ins
  have s2 := hd.nexts
  have HFg : Hid (∀ w', Below w.heap.size w w' → Calls Try.prog 61 #[.pointer (some ⟨g, 0, none⟩)] w' fun e w'' => e = .returned (.int .i64 (Cir.nfirst d : Nat)) ∧ Below w'.heap.size w' w'') := Lib.hid fun w' hb => by
    have := firstGate_any g _ w' (h.below hb) (by show (0 : Int) ≤ (d.ins : Int); omega) (by show (d.ins : Int) ≤ 100; omega) (by show (List.map _ _).length ≤ 100; rw [List.length_map]; omega)
    rwa [Cir.first_toCz] at this
  obtain ⟨vn, vg, vo, hg, c0', -⟩ := h
  have c0 : w.cell? ⟨g, 0, none⟩ = some (.int .i64 (d.ins : Int)) := c0'
  clear c0'
  have HR : Hid (Cir.latV d v = (decide (d.ins < v) && decide (v < Cir.nfirst d))) := Lib.hid rfl
  have hnf : Cir.nfirst d ≤ 8 := by unfold Cir.nfirst; omega
  generalize Cir.nfirst d = F at *
  clear hd
  by_cases h1 : d.ins < v
  · have d1 : decide ((d.ins : Int) < (v : Int)) = true := decide_eq_true (by omega)
    have d2 : decide (d.ins < v) = true := decide_eq_true h1
    by_cases h2 : v < F
    · have d3 : decide ((v : Int) < (F : Int)) = true := decide_eq_true (by omega)
      have d4 : decide (v < F) = true := decide_eq_true h2
      go_enter Try.func68, Try.ntmps68
      go_wp2_with fail
      refine (HFg.out _ (Below.refl _ _)).mono ?_
      rintro e w2 ⟨rfl, hb9⟩
      go_wp2_with fail
      go_ret
      exact ⟨by rw [HR.out, d2, d4]; rfl, hb9⟩
    · have d3 : decide ((v : Int) < (F : Int)) = false := decide_eq_false (by omega)
      have d4 : decide (v < F) = false := decide_eq_false h2
      go_enter Try.func68, Try.ntmps68
      go_wp2_with fail
      refine (HFg.out _ (Below.refl _ _)).mono ?_
      rintro e w2 ⟨rfl, hb9⟩
      go_wp2_with fail
      go_ret
      exact ⟨by rw [HR.out, d2, d4]; rfl, hb9⟩
  · have d1 : decide ((d.ins : Int) < (v : Int)) = false := decide_eq_false (by omega)
    have d2 : decide (d.ins < v) = false := decide_eq_false h1
    go_enter Try.func68, Try.ntmps68
    go_wp2_with fail
    go_ret
    exact ⟨by rw [HR.out, d2]; rfl, Below.refl _ _⟩
theorem implCan_no (v : Value) (c : Cz) (i : Int) (w : World) (h : CircAt w v c) (hv : Cir.valid c = false) :
    Calls Try.prog 60 #[v, .int .i64 i] w fun e w' => e = .returned (.bool false) ∧ Below w.heap.size w w' := by
  obtain ⟨An, cn, Ag, cg, Ao, co, rfl⟩ := h.shape
  have hb := bel_new w (.cells #[.int .i64 c.ins, .slice An c.next.length cn, .slice Ag c.gates.length cg, .slice Ao c.outs.length co] 26)
  have P := PCells.boxed w c.ins (.slice An c.next.length cn) (.slice Ag c.gates.length cg) (.slice Ao c.outs.length co) 26
  have HC := Lib.hid (h.below hb)
  obtain ⟨W, hW⟩ : ∃ W, w.alloc (.cells #[.int .i64 c.ins, .slice An c.next.length cn, .slice Ag c.gates.length cg, .slice Ao c.outs.length co] 26) = W := ⟨_, rfl⟩
  rw [hW] at P hb HC
  obtain ⟨z, q0, q1, q2, q3⟩ := P
  have HV : Hid (∀ w', Below W.heap.size W w' → Calls Try.prog 34 #[.agg #[.int .i64 c.ins, .slice An c.next.length cn, .slice Ag c.gates.length cg, .slice Ao c.outs.length co]] w' fun e w'' => e = .returned (.bool false) ∧ Below w'.heap.size w' w'') := Lib.hid fun w' hb => by
    have := implValid_any _ _ w' (HC.out.below hb)
    rwa [hv] at this
  have HW := Lib.hid hW
  clear h hW hv HC
  go_enter Try.func60, Try.ntmps60
  go_wp2_with fail
  rw [HW.out]
  refine (HV.out _ (Below.refl _ _)).mono ?_
  rintro e w9 ⟨rfl, hb9⟩
  go_wp2_with fail
  go_ret
  exact ⟨rfl, hb.trans (hb9.mono hb.size)⟩
theorem implCan_ok (v : Value) (d : Ci) (i : Int) (w : World) (h : CircAt w v (Cir.toCz d)) (hd : Cir.Ok d) (hv : Cir.valid (Cir.toCz d) = true) (hi : -1000000 ≤ i ∧ i ≤ 1000000) :
    Calls Try.prog 60 #[v, .int .i64 i] w fun e w' => e = .returned (.bool (Cir.canR d i)) ∧ Below w.heap.size w w' := by
  have s1 := hd.ins
  have s2 := hd.nexts
  have s3 := hd.gatess
  have s4 := hd.outss
  obtain ⟨An, cn, Ag, cg, Ao, co, rfl⟩ := h.shape
  have hln : (Cir.toCz d).next.length = d.next.length := List.length_map _
  have hlg : (Cir.toCz d).gates.length = d.gates.length := List.length_map _
  have hlo : (Cir.toCz d).outs.length = d.outs.length := List.length_map _
  have hins : (Cir.toCz d).ins = (d.ins : Int) := rfl
  have hP0 : PCirc (w.alloc (.cells #[.int .i64 (Cir.toCz d).ins, .slice An (Cir.toCz d).next.length cn, .slice Ag (Cir.toCz d).gates.length cg, .slice Ao (Cir.toCz d).outs.length co] 26)) w.heap.size (Cir.toCz d) := by
    obtain ⟨vn, vg, vo, e, i1, i2, i3⟩ := h
    injection e with e
    simp only [Array.mk.injEq, List.cons.injEq, and_true] at e
    obtain ⟨-, e1, e2, e3⟩ := e
    subst e1 e2 e3
    exact PCirc.boxed _ i1 i2 i3
  rw [hln, hlg, hlo, hins] at h hP0 ⊢
  have hb := bel_new w (.cells #[.int .i64 (d.ins : Int), .slice An d.next.length cn, .slice Ag d.gates.length cg, .slice Ao d.outs.length co] 26)
  have P := PCells.boxed w (d.ins : Int) (.slice An d.next.length cn) (.slice Ag d.gates.length cg) (.slice Ao d.outs.length co) 26
  have HC := Lib.hid (h.below hb)
  obtain ⟨vn, vg, vo, e, r1, r2, r3⟩ := h
  injection e with e
  simp only [Array.mk.injEq, List.cons.injEq, and_true] at e
  obtain ⟨-, e1, e2, e3⟩ := e
  subst e1 e2 e3
  have RG : Hid (Row w 2 (.slice Ag d.gates.length cg) d.gates.length (cubes (Cir.toCz d).gates)) := Lib.hid (by have := r2; unfold CubesAt at this; rwa [hlg] at this)
  obtain ⟨W, hW⟩ : ∃ W, w.alloc (.cells #[.int .i64 (d.ins : Int), .slice An d.next.length cn, .slice Ag d.gates.length cg, .slice Ao d.outs.length co] 26) = W := ⟨_, rfl⟩
  rw [hW] at P hb HC hP0
  have PC := Lib.hid P
  have HP0 := Lib.hid hP0
  obtain ⟨gC, hgC⟩ : ∃ gC, w.heap.size = gC := ⟨_, rfl⟩
  rw [hgC] at PC HP0
  have HgC := Lib.hid hgC
  have HV : Hid (∀ w', Below W.heap.size W w' → Calls Try.prog 34 #[.agg #[.int .i64 (d.ins : Int), .slice An d.next.length cn, .slice Ag d.gates.length cg, .slice Ao d.outs.length co]] w' fun e w'' => e = .returned (.bool true) ∧ Below w'.heap.size w' w'') := Lib.hid fun w' hb => by
    have := implValid_any _ _ w' (HC.out.below hb)
    rwa [hv] at this
  have HW := Lib.hid hW
  have HD := Lib.hid hd
  have Hb := Lib.hid hb
  have Hcan : Hid (Cir.canR d i = (decide (0 ≤ i ∧ i ≤ (d.gates.length : Int) - 1) && Cir.isLat d (d.gates.getD i.toNat (0, 0)).1 && Cir.isLat d (d.gates.getD i.toNat (0, 0)).2 && decide (d.next.length < 3) && decide (d.gates.length < 14))) := Lib.hid rfl
  clear hW hv hd r1 r2 r3 hln hlg hlo hins hb P hP0 hgC
  by_cases hn : i < 0
  · have e1 : decide (i < 0) = true := decide_eq_true hn
    clear HP0 RG HD
    obtain ⟨z, q0, q1, q2, q3⟩ := PC.out
    go_enter Try.func60, Try.ntmps60
    go_wp2_with fail
    rw [HW.out]
    try rw [HgC.out]
    refine (HV.out _ (Below.refl _ _)).mono ?_
    rintro e w9 ⟨rfl, hb9⟩
    have HB9 := Lib.hid (Hb.out.trans (hb9.mono Hb.out.size))
    clear z q0 q1 q2 q3
    obtain ⟨z, q0, q1, q2, q3⟩ := PC.out.below hb9
    clear hb9
    go_wp2_with fail
    go_ret
    exact ⟨by rw [Hcan.out, decide_eq_false (show ¬ (0 ≤ i ∧ i ≤ (d.gates.length : Int) - 1) by omega)]; rfl, HB9.out⟩
  have n1 := hn
  have e1 : decide (i < 0) = false := decide_eq_false hn
  clear hn
  by_cases hn : i ≥ (d.gates.length : Int)
  · have e2 : decide ((d.gates.length : Int) ≤ i) = true := decide_eq_true hn
    clear HP0 RG HD
    obtain ⟨z, q0, q1, q2, q3⟩ := PC.out
    go_enter Try.func60, Try.ntmps60
    go_wp2_with fail
    rw [HW.out]
    try rw [HgC.out]
    refine (HV.out _ (Below.refl _ _)).mono ?_
    rintro e w9 ⟨rfl, hb9⟩
    have HB9 := Lib.hid (Hb.out.trans (hb9.mono Hb.out.size))
    clear z q0 q1 q2 q3
    obtain ⟨z, q0, q1, q2, q3⟩ := PC.out.below hb9
    clear hb9
    go_wp2_with fail
    go_ret
    exact ⟨by rw [Hcan.out, decide_eq_false (show ¬ (0 ≤ i ∧ i ≤ (d.gates.length : Int) - 1) by omega)]; rfl, HB9.out⟩
  have n2 := hn
  have e2 : decide ((d.gates.length : Int) ≤ i) = false := decide_eq_false hn
  clear hn
  by_cases hn : 3 ≤ d.next.length
  · have e3 : decide (3 ≤ (d.next.length : Int)) = true := decide_eq_true (by omega)
    have e3n : decide (3 ≤ d.next.length) = true := decide_eq_true hn
    clear HP0 RG HD
    obtain ⟨z, q0, q1, q2, q3⟩ := PC.out
    go_enter Try.func60, Try.ntmps60
    go_wp2_with fail
    rw [HW.out]
    try rw [HgC.out]
    refine (HV.out _ (Below.refl _ _)).mono ?_
    rintro e w9 ⟨rfl, hb9⟩
    have HB9 := Lib.hid (Hb.out.trans (hb9.mono Hb.out.size))
    clear z q0 q1 q2 q3
    obtain ⟨z, q0, q1, q2, q3⟩ := PC.out.below hb9
    clear hb9
    go_wp2_with fail
    go_ret
    exact ⟨by rw [Hcan.out, decide_eq_false (show ¬ (d.next.length < 3) by omega)]; simp, HB9.out⟩
  have n3 := hn
  have e3 : decide (3 ≤ (d.next.length : Int)) = false := decide_eq_false (by omega)
  have e3n : decide (3 ≤ d.next.length) = false := decide_eq_false hn
  clear hn
  by_cases hn : 14 ≤ d.gates.length
  · have e4 : decide (14 ≤ (d.gates.length : Int)) = true := decide_eq_true (by omega)
    have e4n : decide (14 ≤ d.gates.length) = true := decide_eq_true hn
    clear HP0 RG HD
    obtain ⟨z, q0, q1, q2, q3⟩ := PC.out
    go_enter Try.func60, Try.ntmps60
    go_wp2_with fail
    rw [HW.out]
    try rw [HgC.out]
    refine (HV.out _ (Below.refl _ _)).mono ?_
    rintro e w9 ⟨rfl, hb9⟩
    have HB9 := Lib.hid (Hb.out.trans (hb9.mono Hb.out.size))
    clear z q0 q1 q2 q3
    obtain ⟨z, q0, q1, q2, q3⟩ := PC.out.below hb9
    clear hb9
    go_wp2_with fail
    go_ret
    exact ⟨by rw [Hcan.out, decide_eq_false (show ¬ (d.gates.length < 14) by omega)]; simp, HB9.out⟩
  have n4 := hn
  have e4 : decide (14 ≤ (d.gates.length : Int)) = false := decide_eq_false (by omega)
  have e4n : decide (14 ≤ d.gates.length) = false := decide_eq_false hn
  clear hn
  obtain ⟨k, rfl⟩ : ∃ k : Nat, i = (k : Int) := ⟨i.toNat, by omega⟩
  have hk : k < d.gates.length := by omega
  rw [decide_eq_true (show d.next.length < 3 by omega), decide_eq_true (show d.gates.length < 14 by omega), decide_eq_true (show 0 ≤ (k : Int) ∧ (k : Int) ≤ (d.gates.length : Int) - 1 by omega), Bool.and_true, Bool.and_true, Bool.true_and] at Hcan
  obtain ⟨bq, o, x, rfl, hbl, hx, hs1, hs2⟩ := cubes_open RG.out Hb.out (show d.gates.length = (Cir.toCz d).gates.length from (List.length_map _).symm) (i := k) (by rw [show (Cir.toCz d).gates.length = d.gates.length from List.length_map _]; exact hk)
  obtain ⟨gt, hgt⟩ := at_some hk
  have hxe : x = ((gt.1 : Int), (gt.2 : Int)) := by
    have h1 := hx.out
    unfold Cir.toCz at h1
    simp only [List.getElem?_map, hgt] at h1
    exact (Option.some.inj h1).symm
  subst hxe
  obtain ⟨x1, x2⟩ := gt
  simp only at hs1 hs2
  have hgD : d.gates.getD k (0, 0) = (x1, x2) := by rw [List.getD_eq_getElem?_getD, hgt, Option.getD_some]
  rw [Int.toNat_natCast, hgD] at Hcan
  obtain ⟨g1', g2'⟩ := HD.out.gate k _ hgt
  unfold Cir.nfirst at g1' g2'
  simp only at g1' g2'
  have hbW : bq < W.heap.size := Nat.lt_of_lt_of_le hbl Hb.out.size
  have t1 := tdiv_two x1
  have t2 := tdiv_two x2
  have HLA : Hid (∀ w', Below W.heap.size W w' → Calls Try.prog 68 #[.pointer (some ⟨gC, 0, none⟩), .int .i64 ((x1 / 2 : Nat) : Int)] w' fun e w'' => e = .returned (.bool (Cir.isLat d x1)) ∧ Below w'.heap.size w' w'') := Lib.hid fun w' hb => by
    rw [← Cir.latV_lat]
    exact isLatch_any gC d _ _ (HP0.out.below hb) HD.out (by omega)
  have HLB : Hid (∀ w', Below W.heap.size W w' → Calls Try.prog 68 #[.pointer (some ⟨gC, 0, none⟩), .int .i64 ((x2 / 2 : Nat) : Int)] w' fun e w'' => e = .returned (.bool (Cir.isLat d x2)) ∧ Below w'.heap.size w' w'') := Lib.hid fun w' hb => by
    rw [← Cir.latV_lat]
    exact isLatch_any gC d _ _ (HP0.out.below hb) HD.out (by omega)
  have hwq1 : IntKind.i64.wrap ((x1 / 2 : Nat) : Int) = ((x1 / 2 : Nat) : Int) := IntWalk.i64_in _ (by omega)
  have hwq2 : IntKind.i64.wrap ((x2 / 2 : Nat) : Int) = ((x2 / 2 : Nat) : Int) := IntWalk.i64_in _ (by omega)
  clear hx hgt hgD hi HD
  generalize Cir.isLat d x1 = c2 at *
  generalize Cir.isLat d x2 = c3 at *
  generalize x1 / 2 = q1 at *
  generalize x2 / 2 = q2 at *
  obtain ⟨z, q0, q1, q2, q3⟩ := PC.out
  go_enter Try.func60, Try.ntmps60
  go_wp2_with fail
  rw [HW.out]
  try rw [HgC.out]
  refine (HV.out _ (Below.refl _ _)).mono ?_
  rintro e w9 ⟨rfl, hb9⟩
  have HB9 := Lib.hid (Hb.out.trans (hb9.mono Hb.out.size))
  clear z q0 q1 q2 q3
  obtain ⟨z, q0, q1, q2, q3⟩ := PC.out.below hb9
  have e1 := (hb9.cell (p := ⟨bq, o + k * 2, none⟩) hbW).trans hs1
  go_wp2_with fail
  refine (HLA.out _ hb9).mono ?_
  rintro e wa ⟨rfl, hba⟩
  have hb0 := hb9.trans (hba.mono hb9.size)
  clear z q0 q1 q2 q3 e1
  obtain ⟨z, q0, q1, q2, q3⟩ := PC.out.below hb0
  have e2 := (hb0.cell (p := ⟨bq, o + k * 2 + 1, none⟩) hbW).trans hs2
  have HBa := Lib.hid (HB9.out.trans (hba.mono HB9.out.size))
  cases c2
  · go_wp2_with fail
    go_ret
    exact ⟨by rw [Hcan.out]; rfl, HBa.out⟩
  · go_wp2_with fail
    refine (HLB.out _ hb0).mono ?_
    rintro e wb ⟨rfl, hbb⟩
    go_wp2_with fail
    go_ret
    exact ⟨by rw [Hcan.out]; rfl, HBa.out.trans (hbb.mono HBa.out.size)⟩
theorem implCan_any (v : Value) (c : Cz) (i : Int) (w : World) (h : CircAt w v c) (hi : -1000000 ≤ i ∧ i ≤ 1000000) :
    Calls Try.prog 60 #[v, .int .i64 i] w fun e w' => e = .returned (.bool (Cir.canI c i)) ∧ Below w.heap.size w w' := by
  cases hv : Cir.valid c
  · have : Cir.canI c i = false := by unfold Cir.canI; rw [hv]; rfl
    rw [this]
    exact implCan_no v c i w h hv
  · obtain ⟨d1, d2⟩ := Cir.nat_ok hv
    have : Cir.canI c i = Cir.canR (Cir.nat c) i := by unfold Cir.canI; rw [hv]; rfl
    rw [this]
    exact implCan_ok v (Cir.nat c) i w (by rw [← d1]; exact h) d2 (by rw [← d1]; exact hv) hi
theorem retUse_any (g5 g3 g7 F i bent l : Nat) (w : World) (c5 : w.cell? ⟨g5, 0, none⟩ = some (.int .i64 (F : Int))) (c3 : w.cell? ⟨g3, 0, none⟩ = some (.int .i64 (i : Int))) (c7 : w.cell? ⟨g7, 0, none⟩ = some (.int .i64 (bent : Int))) (hF : F ≤ 1000) (hi : i ≤ 1000) (hb : bent ≤ 1) (hl : l ≤ 1000000) :
    Calls Try.prog 62 #[.int .i64 (l : Int), .pointer (some ⟨g5, 0, none⟩), .pointer (some ⟨g3, 0, none⟩), .pointer (some ⟨g7, 0, none⟩)] w fun e w' => e = .returned (.int .i64 ((Cir.rPlace F i bent (l / 2) ^^^ (l % 2) : Nat) : Int)) ∧ Below w.heap.size w w' := by
  have hq := tdiv_two l
  have ha := and_one_nat l hl
  have hx := i64_xor_nat (l % 2) bent (by omega) (by omega)
  have hR : Hid (Cir.rPlace F i bent (l / 2) ^^^ (l % 2) = if l / 2 < F then l else if l / 2 = F + i then 2 * F + (l % 2 ^^^ bent) else l + 2) := Lib.hid (by
    unfold Cir.rPlace
    split
    · have := Cir.xor_bit (l / 2) 0 (l % 2) (by omega) (by omega)
      rw [Nat.add_zero, Nat.zero_xor] at this
      omega
    · split
      · rw [Cir.xor_bit _ _ _ (by omega) (by omega), Nat.xor_comm]
      · have := Cir.xor_bit (l / 2 + 1) 0 (l % 2) (by omega) (by omega)
        rw [Nat.add_zero, Nat.zero_xor] at this
        rw [show 2 * (l / 2) + 2 = 2 * (l / 2 + 1) from by omega]
        omega)
  have hlb : l / 2 ≤ 1000000 := by omega
  have hrb : l % 2 < 2 := by omega
  have hyb : l % 2 ^^^ bent < 2 := Nat.xor_lt_two_pow (n := 1) (by omega) (by omega)
  generalize l / 2 = q at *
  generalize l % 2 = r at *
  generalize r ^^^ bent = y at *
  have hwq : IntKind.i64.wrap (q : Int) = q := IntWalk.i64_in _ (by omega)
  have hw1 : IntKind.i64.wrap ((F : Int) + (i : Int)) = (F : Int) + (i : Int) := IntWalk.i64_in _ (by omega)
  have hw2 : IntKind.i64.wrap (2 * (F : Int)) = 2 * (F : Int) := IntWalk.i64_in _ (by omega)
  have hw3 : IntKind.i64.wrap (2 * (F : Int) + (y : Int)) = 2 * (F : Int) + (y : Int) := IntWalk.i64_in _ (by omega)
  have hw4 : IntKind.i64.wrap ((l : Int) + 2) = (l : Int) + 2 := IntWalk.i64_in _ (by omega)
  by_cases h1 : q = F + i
  · have d1 : ((q : Int) == (F : Int) + (i : Int)) = true := by rw [beq_iff_eq]; omega
    go_enter Try.func62, Try.ntmps62
    go_wp2_with fail
    go_ret
    exact ⟨by rw [hR.out, if_neg (by omega), if_pos h1]; exact ret_int (by omega), Below.refl _ _⟩
  · have d1 : ((q : Int) == (F : Int) + (i : Int)) = false := by rw [beq_eq_false_iff_ne]; omega
    by_cases h2 : q < F
    · have d2 : decide ((F : Int) ≤ (q : Int)) = false := decide_eq_false (by omega)
      have d3 : decide (F ≤ q) = false := decide_eq_false (by omega)
      go_enter Try.func62, Try.ntmps62
      go_wp2_with fail
      go_ret
      exact ⟨by rw [hR.out, if_pos h2]; rfl, Below.refl _ _⟩
    · have d2 : decide ((F : Int) ≤ (q : Int)) = true := decide_eq_true (by omega)
      have d3 : decide (F ≤ q) = true := decide_eq_true (by omega)
      go_enter Try.func62, Try.ntmps62
      go_wp2_with fail
      go_ret
      exact ⟨by rw [hR.out, if_neg h2, if_neg h1]; exact ret_int (by omega), Below.refl _ _⟩
theorem retNext_any (gC l : Nat) (d : Ci) (w : World) (h : PCirc w gC (Cir.toCz d)) (hd : Cir.Ok d) (hl : Cir.isLat d l = true) :
    Calls Try.prog 63 #[.int .i64 (l : Int), .pointer (some ⟨gC, 0, none⟩)] w fun e w' => e = .returned (.int .i64 ((d.next.getD (l / 2 - d.ins - 1) 0 ^^^ (l % 2) : Nat) : Int)) ∧ Below w.heap.size w w' := by
  have s1 := hd.ins
  have s2 := hd.nexts
  have s3 := hd.gatess
  obtain ⟨vn, vg, vo, hg, c0', c1, -, -, r1, -, -⟩ := h
  have c0 : w.cell? ⟨gC, 0, none⟩ = some (.int .i64 (d.ins : Int)) := c0'
  clear c0'
  have hln : (Cir.toCz d).next.length = d.next.length := List.length_map _
  obtain ⟨A, c, rfl, hcn, hcm⟩ := Row.shape r1
  rw [hln] at c1 hcn
  have hlat := hl
  unfold Cir.isLat at hlat
  rw [decide_eq_true_eq] at hlat
  have hnl := hd.next
  have hj : l / 2 - d.ins - 1 < d.next.length := by omega
  obtain ⟨b, o, rfl, hbl, hs⟩ := nat_cell (by have := r1; unfold IntsAt at this; rwa [hln] at this) (Below.refl _ _) rfl hj
  have hxb : d.next.getD (l / 2 - d.ins - 1) 0 ≤ 1000000 := by
    refine getD_le (fun x hx => ?_) _
    have := hnl x hx
    unfold Cir.nvars Cir.nfirst at this
    omega
  have hq := tdiv_two l
  have ha := and_one_nat l (by omega)
  have hx := i64_xor_nat (d.next.getD (l / 2 - d.ins - 1) 0) (l % 2) (by omega) (by omega)
  obtain ⟨j, hje⟩ : ∃ j, l / 2 - d.ins - 1 = j := ⟨_, rfl⟩
  have hjI : (((l / 2 : Nat) : Int) - 1 - (d.ins : Int)) = (j : Int) := by omega
  have hlb : l / 2 ≤ 1000000 := by omega
  rw [hje] at hj hs hxb hx ⊢
  generalize d.next.getD j 0 = x at *
  generalize l / 2 = q at *
  generalize l % 2 = r at *
  generalize x ^^^ r = y at *
  have hwq : IntKind.i64.wrap (q : Int) = q := IntWalk.i64_in _ (by omega)
  have hw1 : IntKind.i64.wrap ((q : Int) - 1) = (q : Int) - 1 := IntWalk.i64_in _ (by omega)
  have hw2 : IntKind.i64.wrap ((q : Int) - 1 - (d.ins : Int)) = (j : Int) := by rw [hjI]; exact IntWalk.i64_in _ (by omega)
  clear r1 hnl hl hd hln hlat hjI
  go_enter Try.func63, Try.ntmps63
  go_wp2_with fail
  go_ret
  exact ⟨rfl, Below.refl _ _⟩
theorem remUse_any (gc l : Nat) (m : List Nat) (vl : Value) (w : World) (hc : w.cell? ⟨gc, 0, none⟩ = some vl) (hm : IntsAt w vl (m.map Int.ofNat)) (hl : l / 2 < m.length) (hb : l ≤ 1000000) (hv : ∀ x ∈ m, x ≤ 1000000) :
    Calls Try.prog 69 #[.int .i64 (l : Int), .pointer (some ⟨gc, 0, none⟩)] w fun e w' => e = .returned (.int .i64 (2 * m.getD (l / 2) 0 + l % 2 : Nat)) ∧ Below w.heap.size w w' := by
  obtain ⟨A, c, rfl, hc1, hcm⟩ := Row.shape hm
  rw [List.length_map] at hc hc1
  obtain ⟨b, o, rfl, hbl, hs⟩ := nat_cell (by have := hm; unfold IntsAt at this; rwa [List.length_map] at this) (Below.refl _ _) rfl hl
  have hq := tdiv_two l
  have ha := and_one_nat l hb
  have hx := getD_le hv (l / 2)
  have hlb : l / 2 ≤ 1000000 := by omega
  have hrb : l % 2 ≤ 1 := by omega
  generalize l / 2 = q at *
  generalize m.getD q 0 = x at *
  generalize l % 2 = r at *
  have hwq : IntKind.i64.wrap (q : Int) = q := IntWalk.i64_in _ (by omega)
  have hw2 : IntKind.i64.wrap (2 * (x : Int)) = 2 * (x : Int) := IntWalk.i64_in _ (by omega)
  have hw3 : IntKind.i64.wrap (2 * (x : Int) + (r : Int)) = 2 * (x : Int) + (r : Int) := IntWalk.i64_in _ (by omega)
  generalize hML : m.length = ML at *
  clear hm hv
  go_enter Try.func69, Try.ntmps69
  go_wp2_with fail
  go_ret
  exact ⟨ret_int (by omega), Below.refl _ _⟩
end Go.Proofs.Ytdgminjbgjbamaa