import Derived.Test.YtlbfejdbfhgifaaS04
import Derived.DeepKeys4
import Derived.Test.YtlbfejdbfhgifaaS05
import Derived.Tactics
import Derived.Test.YtlbfejdbfhgifaaS02
import Derived.Test.YtlbfejdbfhgifaaS01
set_option linter.unusedVariables false
set_option linter.unusedSimpArgs false
namespace Go.Proofs.Ytlbfejdbfhgifaa
open Go.RowKit Go.Maps
set_option maxRecDepth 100000
/-! Maps of gates to numbers, made by the call: the table of known gates. -/
theorem gmap_laidOut : laidOutB Try.prog = true := by kernel_rfl
theorem gmap_row : (55 : TypeId) < Try.prog.types.size := of_decide_eq_true (by kernel_rfl)
theorem gmap_deep : Try.prog.keyTypeAt 2 55 = true := by kernel_rfl
theorem gmap_deepT : Try.prog.keyType 55 = true := by kernel_rfl
theorem gmap_wide : (match Try.prog.underlying 55 with | some (.array _ _) | some (.struct _) => true | _ => false) = true := by kernel_rfl
theorem gmap_keyed : Keyed Try.prog 55 := Keyed.of_law (deep_law_laid gmap_laidOut (m := 2) (by omega) gmap_row gmap_deep gmap_wide)
theorem gmap_cells : Try.prog.cellsOf 55 = 2 := by kernel_rfl
theorem gmap_cellsI : Try.prog.cellsOf 3 = 1 := by kernel_rfl
/-- The key of a gate. -/
def gkey (x y : Nat) : Value := .agg #[.int .i64 (x : Int), .int .i64 (y : Int)]
theorem gkey_some {x y : Nat} (hx : (x : Int) ≤ 9223372036854775807) (hy : (y : Int) ≤ 9223372036854775807) : ∃ l, keyOf Try.prog 55 (gkey x y) = some l := by
  obtain ⟨m, hm⟩ : ∃ m, Try.prog.types.size = m + 1 := ⟨_, (Nat.succ_pred_eq_of_pos (Nat.lt_of_le_of_lt (Nat.zero_le _) gmap_row)).symm⟩
  have h2 : (gkey x y).formed Try.prog 55 = true := by
    simp [gkey, Value.formed, Try.underlying55, gmap_cells]
  unfold keyOf
  rw [Try.underlying55]
  simp only [gmap_deepT, h2, Bool.and_self, if_true, hm]
  simp [Program.keyLits, gkey, Try.underlying55, Try.underlying3, Value.cells, gmap_cells, gmap_cellsI, i64_wf hx, i64_wf hy]
theorem gkey_inj {x y x' y' : Nat} (h : gkey x y = gkey x' y') : x = x' ∧ y = y' := by
  unfold gkey at h
  simp at h
  omega
theorem gkey_ne {x y x' y' : Nat} {l l' : Lit} (h : keyOf Try.prog 55 (gkey x y) = some l) (h' : keyOf Try.prog 55 (gkey x' y') = some l') (hne : ¬ (x = x' ∧ y = y')) : l ≠ l' := by
  intro e
  subst e
  exact hne (gkey_inj (gmap_keyed.inj h h'))
/-- Block b is a map of at most n gates; f tells what is known of a gate. -/
def GAt (w : World) (b n : Nat) (f : Nat → Nat → Option Nat) : Prop := ∃ D : DataW Unit, w.ownsMap Try.prog 55 (plainElem Try.prog 3) b n D ∧ IsMap D ∧ ∀ x y l, keyOf Try.prog 55 (gkey x y) = some l → Maps.has D l = (f x y).isSome ∧ D.atKey l (.lit (.int .i64 0)) = .lit (.int .i64 (((f x y).getD 0 : Nat) : Int))
theorem GAt.lt {w : World} {b n : Nat} {f : Nat → Nat → Option Nat} (h : GAt w b n f) : b < w.heap.size := by
  obtain ⟨D, h1, _⟩ := h
  exact h1.lt
theorem GAt.only {E : Nat → Prop} {w w' : World} {b n : Nat} {f : Nat → Nat → Option Nat} (h : GAt w b n f) (ho : Only E w w') (hE : ¬ E b) : GAt w' b n f := by
  have hl := h.lt
  obtain ⟨D, ⟨es, clock, h1, h2, h3, h4⟩, h5⟩ := h
  exact ⟨D, ⟨es, clock, (ho.block b hl hE).trans h1, h2, h3, h4⟩, h5⟩
theorem GAt.mono {w : World} {b n n' : Nat} {f : Nat → Nat → Option Nat} (h : GAt w b n f) (hn : n ≤ n') : GAt w b n' f := by
  obtain ⟨D, h1, h2⟩ := h
  exact ⟨D, h1.mono hn, h2⟩
theorem gAt_made (w : World) : GAt (w.alloc (.map #[] 0)) w.heap.size 0 (fun _ _ => none) :=
  ⟨.map [], World.ownsMap_made w _ _ _, isMap_empty, fun x y l h => ⟨rfl, rfl⟩⟩
section
variable (w : World) {ops : Array Oper} {rest : List Oper} {o : Oper} {a : Act} {Q : Exit → Act → World → Prop}
theorem zero_int (w : World) : (zeroValue 3).run Try.prog w = .ok (.int .i64 0) w := by kernel_rfl
/-- l, ok := known[g] -/
theorem GAt.look {w : World} {b n : Nat} {f : Nat → Nat → Option Nat} (h : GAt w b n f) {x y : Nat} (hx : (x : Int) ≤ 9223372036854775807) (hy : (y : Int) ≤ 9223372036854775807) :
    (Instr.lookup 90 (.map (some b)) (gkey x y) true).run Try.prog w = .ok (.tuple #[.int .i64 (((f x y).getD 0 : Nat) : Int), .bool (f x y).isSome]) w := by
  obtain ⟨D, ⟨es, clock, hb, F, hs, hD⟩, h2, h3⟩ := h
  obtain ⟨l, hl⟩ := gkey_some hx hy
  obtain ⟨h4, h5⟩ := h3 x y l hl
  rcases Maps.fit_look true gmap_keyed Try.underlying90 (zero_int w) hb F hl with ⟨hrun, _, hat⟩ | ⟨e0, y0, hm0, _, hrun, hRv, hat, _⟩
  · rw [hrun]
    have e1 : Maps.has D l = false := by subst hD; exact has_false_of_atKey hat
    rw [e1] at h4
    cases hf : f x y with
    | none => simp
    | some v => rw [hf] at h4; simp at h4
  · rw [hrun]
    obtain ⟨c, e2, e3, e4⟩ := plainElem_int_inv Try.underlying3 hRv
    have e1 : Maps.has D l = true := by subst hD; exact has_true_of_atKey hat
    rw [e1] at h4
    have e5 := hat (.lit (.int .i64 0))
    rw [← hD, h5, e3] at e5
    injection e5 with e6
    injection e6 with e7 e8
    rw [e2, ← e8, ← h4]
    simp
/-- known[g] = v -/
theorem GAt.add {w : World} {b n : Nat} {f : Nat → Nat → Option Nat} (h : GAt w b n f) (hn : n ≤ 1000000) {x y v : Nat} (hx : (x : Int) ≤ 9223372036854775807) (hy : (y : Int) ≤ 9223372036854775807) (hv : (v : Int) ≤ 9223372036854775807) :
    ∃ w', (Instr.mapUpdate 90 (.map (some b)) (gkey x y) (.int .i64 (v : Int))).run Try.prog w = .ok () w' ∧ GAt w' b (n + 1) (fun x' y' => if x' = x ∧ y' = y then some v else f x' y') ∧ w.grownBy w' (some b) := by
  obtain ⟨D, h1, h2, h3⟩ := h
  obtain ⟨l, hl⟩ := gkey_some hx hy
  obtain ⟨w', hrun, r1, r2⟩ := h1.update gmap_keyed Try.underlying90 (by unfold maxLen; omega) hl (plainElem_int Try.underlying3 (i64_wf hv))
  have hlit : WideAt.IsKeyLit l := gmap_keyed.key hl
  refine ⟨w', hrun, ⟨_, r1, h2.put _ _, fun x' y' l' hl' => ?_⟩, r2⟩
  by_cases e : x' = x ∧ y' = y
  · obtain ⟨rfl, rfl⟩ := e
    rw [hl] at hl'
    injection hl' with hl'
    subst hl'
    rw [has_put_same h2 hlit, atKey_put_same h2 hlit]
    simp
  · have hne := gkey_ne hl' hl e
    dsimp only
    rw [has_put_other hne, atKey_put_other hne, if_neg e]
    exact h3 x' y' l' hl'
end
end Go.Proofs.Ytlbfejdbfhgifaa

namespace Go.Proofs.Ytlbfejdbfhgifaa
open Go.RowKit Go.Maps
set_option maxRecDepth 100000
/-! The builder of gates: what it knows and what a conjunction does to it, as plain functions; its memory. -/
namespace Cir
/-- The literal of a known gate. -/
def knownG (F : Nat) : List (Nat × Nat) → Nat → Nat → Option Nat
  | [], _, _ => none
  | g :: G, x, y => match knownG F G x y with
    | some l => some l
    | none => if x = g.1 ∧ y = g.2 then some (2 * (F + G.length)) else none
/-- The gates of a builder, the last one first. A conjunction of literals x ≤ y. -/
def andS (F : Nat) (G : List (Nat × Nat)) (x y : Nat) : Nat × List (Nat × Nat) :=
  if x = 0 ∨ x = y ^^^ 1 then (0, G) else if x = 1 ∨ x = y then (y, G) else match knownG F G x y with
    | some l => (l, G)
    | none => (2 * (F + G.length), (x, y) :: G)
def andB (F : Nat) (G : List (Nat × Nat)) (x y : Nat) : Nat × List (Nat × Nat) := if y < x then andS F G y x else andS F G x y
def xorB (F : Nat) (G : List (Nat × Nat)) (x y : Nat) : Nat × List (Nat × Nat) :=
  andB F (andB F (andB F G x y).2 (x ^^^ 1) (y ^^^ 1)).2 ((andB F G x y).1 ^^^ 1) ((andB F (andB F G x y).2 (x ^^^ 1) (y ^^^ 1)).1 ^^^ 1)
def gatesOf (G : List (Nat × Nat)) : List (Int × Int) := G.reverse.map fun g => ((g.1 : Int), (g.2 : Int))
theorem gatesOf_length (G : List (Nat × Nat)) : (gatesOf G).length = G.length := by simp [gatesOf]
theorem gatesOf_cons (g : Nat × Nat) (G : List (Nat × Nat)) : gatesOf (g :: G) = gatesOf G ++ [((g.1 : Int), (g.2 : Int))] := by simp [gatesOf]
theorem knownG_lt {F : Nat} : ∀ {G : List (Nat × Nat)} {x y l : Nat}, knownG F G x y = some l → l < 2 * (F + G.length)
  | [], _, _, _, h => by cases h
  | g :: G, x, y, l, h => by
    unfold knownG at h
    cases hk : knownG F G x y with
    | some l' =>
      rw [hk] at h
      injection h with h
      have := knownG_lt hk
      simp only [List.length_cons]
      omega
    | none =>
      rw [hk] at h
      simp only at h
      split at h
      · injection h with h
        simp only [List.length_cons]
        omega
      · cases h
theorem xor1_lt {x N : Nat} (h : x < 2 * N) : x ^^^ 1 < 2 * N := by
  have h2 : (x ^^^ 1) / 2 = x / 2 := by rw [Nat.xor_div_two]; simp
  omega
theorem andS_len (F : Nat) (G : List (Nat × Nat)) (x y : Nat) : (andS F G x y).2.length ≤ G.length + 1 ∧ G.length ≤ (andS F G x y).2.length := by
  unfold andS
  split
  · simp
  · split
    · simp
    · split <;> simp
theorem andS_lt {F : Nat} {G : List (Nat × Nat)} {x y : Nat} (hF : 0 < F) (hy : y < 2 * (F + G.length)) : (andS F G x y).1 < 2 * (F + (andS F G x y).2.length) := by
  unfold andS
  split
  · simp only; omega
  · split
    · simp only; omega
    · split
      · rename_i l hl
        exact knownG_lt hl
      · simp only [List.length_cons]; omega
theorem andB_len (F : Nat) (G : List (Nat × Nat)) (x y : Nat) : (andB F G x y).2.length ≤ G.length + 1 ∧ G.length ≤ (andB F G x y).2.length := by
  unfold andB
  split <;> exact andS_len ..
theorem andB_lt {F : Nat} {G : List (Nat × Nat)} {x y : Nat} (hF : 0 < F) (hx : x < 2 * (F + G.length)) (hy : y < 2 * (F + G.length)) : (andB F G x y).1 < 2 * (F + (andB F G x y).2.length) := by
  unfold andB
  split
  · exact andS_lt hF hx
  · exact andS_lt hF hy
end Cir
/-- Block b is a builder; E are its blocks. -/
structure Bld (B b F : Nat) (G : List (Nat × Nat)) (E : Nat → Prop) (m : Nat) (vg vl : Value) (L : List Int) (w : World) : Prop where
  box : w.heap[b]? = some (.cells #[.int .i64 (F : Int), vg, vl, .map (some m)] 92 (0, 0))
  gs : w.ownsRow B 55 2 vg G.length (cubes (Cir.gatesOf G))
  ll : L.length = F + G.length
  lb : ∀ x ∈ L, 0 ≤ x ∧ x ≤ G.length
  ls : w.ownsRow B 3 1 vl (F + G.length) (ints L)
  map : GAt w m G.length (Cir.knownG F G)
  eb : E b
  em : E m
  eg : ∀ g, vg.ownBlock = some g → E g
  el : ∀ g, vl.ownBlock = some g → E g
  lo : ∀ g, E g → B ≤ g ∧ g < w.heap.size
  bm : b ≠ m
  gb : vg.ownBlock ≠ some b
  gm : vg.ownBlock ≠ some m
  lb' : vl.ownBlock ≠ some b
  lm : vl.ownBlock ≠ some m
  ap : Apart vg vl
theorem GAt.below {w w' : World} {b n : Nat} {f : Nat → Nat → Option Nat} (h : GAt w b n f) (hb : Below w.heap.size w w') : GAt w' b n f :=
  h.only (E := fun _ => False) ⟨hb.os, hb.tape, hb.output, hb.size, fun k hk _ => hb.block k hk⟩ id
theorem Bld.below {B b F : Nat} {G : List (Nat × Nat)} {E : Nat → Prop} {m : Nat} {vg vl : Value} {L : List Int} {w w' : World} (h : Bld B b F G E m vg vl L w) (hb : Below w.heap.size w w') : Bld B b F G E m vg vl L w' :=
  { h with box := (hb.block b (h.lo b h.eb).2).trans h.box, gs := own_below h.gs hb, ls := own_below h.ls hb, map := h.map.below hb, lo := fun g hg => ⟨(h.lo g hg).1, Nat.lt_of_lt_of_le (h.lo g hg).2 hb.size⟩ }
theorem Bld.only {B b F : Nat} {G : List (Nat × Nat)} {E X : Nat → Prop} {m : Nat} {vg vl : Value} {L : List Int} {w w' : World} (h : Bld B b F G E m vg vl L w) (ho : Only X w w') (hX : ∀ g, E g → ¬ X g) : Bld B b F G E m vg vl L w' :=
  { h with box := (ho.block b (h.lo b h.eb).2 (hX b h.eb)).trans h.box, gs := own_only h.gs ho fun g hg => hX g (h.eg g hg), ls := own_only h.ls ho fun g hg => hX g (h.el g hg), map := h.map.only ho (hX m h.em), lo := fun g hg => ⟨(h.lo g hg).1, Nat.lt_of_lt_of_le (h.lo g hg).2 ho.size⟩ }
/-- A builder with the gates G, whose blocks are those of E. -/
def BldAt (B b F : Nat) (G : List (Nat × Nat)) (E : Nat → Prop) (w : World) : Prop := ∃ m vg vl L, Bld B b F G E m vg vl L w
theorem BldAt.below {B b F : Nat} {G : List (Nat × Nat)} {E : Nat → Prop} {w w' : World} (h : BldAt B b F G E w) (hb : Below w.heap.size w w') : BldAt B b F G E w' := by
  obtain ⟨m, vg, vl, L, h⟩ := h
  exact ⟨m, vg, vl, L, h.below hb⟩
theorem BldAt.only {B b F : Nat} {G : List (Nat × Nat)} {E X : Nat → Prop} {w w' : World} (h : BldAt B b F G E w) (ho : Only X w w') (hX : ∀ g, E g → ¬ X g) : BldAt B b F G E w' := by
  obtain ⟨m, vg, vl, L, h⟩ := h
  exact ⟨m, vg, vl, L, h.only ho hX⟩
/-- After a call of the builder. -/
def BldNext (B b F : Nat) (G' : List (Nat × Nat)) (E : Nat → Prop) (w w' : World) : Prop := ∃ E', BldAt B b F G' E' w' ∧ (∀ g, E' g → E g ∨ w.heap.size ≤ g) ∧ (∀ g, E g → E' g) ∧ Only E w w'
end Go.Proofs.Ytlbfejdbfhgifaa

namespace Go.Proofs.Ytlbfejdbfhgifaa
open Go.RowKit
/-! Drawn regions whose last operation comes behind all the others. -/
section
variable {P : Program} {ops : Array Oper}
/-- The values of the first operations. -/
theorem putSome_is (hB : rgB ops = true) {a0 : Act} {f : Nat → Value} : ∀ (l : List Oper) (k : Nat) (a : Act), (ops.toList.drop k).take l.length = l → Is ops a0 (fun j => decide (j < k)) f a → Is ops a0 (fun j => decide (j < k + l.length)) f (putAll l f k a)
  | [], k, a, _, h => h
  | o :: l, k, a, hl, h => by
    have hk : k < ops.toList.length := by
      rcases Nat.lt_or_ge k ops.toList.length with h' | h'
      · exact h'
      · rw [List.drop_eq_nil_of_le h'] at hl; simp at hl
    rw [List.drop_eq_getElem_cons hk, List.length_cons, List.take_succ_cons] at hl
    injection hl with h1 h2
    have ho : ops[k]? = some o := by
      rw [← h1, ← Array.getElem?_toList, List.getElem?_eq_getElem hk]
    have hs := h.step hB ho (by simp) (f k)
    have e1 : (fun j => if j = k then true else decide (j < k)) = fun j => decide (j < k + 1) := by
      funext j
      by_cases e : j = k
      · subst e; simp
      · simp [e]; omega
    have e2 : (fun j => if j = k then f k else f j) = f := by
      funext j
      by_cases e : j = k <;> simp [e]
    rw [e1, e2] at hs
    have := putSome_is hB l (k + 1) _ h2 hs
    rw [List.length_cons, show k + (l.length + 1) = k + 1 + l.length from by omega]
    exact this
theorem ready_nil {listed : Array Bool} (hsz : listed.size = ops.size) (hall : ∀ i, i < ops.size → listed.getD i false = true) : Region.ready .any ops listed = [] := by
  refine List.eq_nil_iff_forall_not_mem.2 fun i hi => ?_
  obtain ⟨h1, o, ho, _⟩ := mem_ready.1 hi
  have hlt := (Array.getElem?_eq_some_iff.1 ho).1
  have h2 := hall i hlt
  have hil : i < listed.size := by omega
  have h3 : listed.getD i false = false := by simpa [Array.getD, hil] using h1
  rw [h2] at h3
  cases h3
theorem wpAny_done {Q : Exit → Act → World → Prop} {listed : Array Bool} {a : Act} {w : World} (h : Region.ready .any ops listed = []) (hq : Q .normal a w) : ∀ fuel, wpAny P .any ops Q fuel listed a w
  | 0 => ⟨h, hq⟩
  | fuel + 1 => ⟨fun _ => hq, fun i hi => by rw [h] at hi; cases hi⟩
theorem rg_last {Q : Exit → Act → World → Prop} {τ : Nat → World → Value → Prop} {d m : Nat} {I : Nat → Option Value → World → Prop} {G : World → World → Prop} {a0 : Act} {om : Oper} (hB : rgB ops = true) (hS : (ops.all fun o => match o.dst with | some t => decide (t < a0.tmps.size) | none => true) = true)
    (hm : ops.size = m + 1) (hom : ops[m]? = some om) (hlast : ∀ j, j < m → ancB ops 16 j m = true)
    (hG : ∀ i v w w', τ i w v → G w w' → τ i w' v)
    (hstep : ∀ i o, i < m → ops[i]? = some o → ∀ k ov ρ w, k < ops.size → I k ov w → (ancB ops 8 i d = true → ov = none) → Known ops τ a0 ρ w i o.op.operands.toList → Good P o ρ w fun v w' => τ i w' v ∧ I (k + 1) (if i = d then some v else ov) w' ∧ G w w')
    (hd : d < m) (hend : ∀ f w' k, k ≤ ops.size → I k (some (f d)) w' → (∀ i, i < m → τ i w' (f i)) → Copies ops (fun j => decide (j < m)) f → om.wp P (putAll (ops.toList.take m) f 0 a0) w' (fun a w => Q .normal a w) Q ∨ (om.asks P (putAll (ops.toList.take m) f 0 a0) w' ∧ LetsOut Q)) :
    ∀ (fuel : Nat) (listed : Array Bool) (a : Act) (w : World) (k : Nat), k + fuel = ops.size → listed.size = ops.size → open_ ops listed ≤ fuel → listed.getD m false = false → Inv ops τ d (I k) a0 (fun i => listed.getD i false) a w → wpAny P .any ops Q fuel listed a w := by
  have ready_m : ∀ (listed : Array Bool) (L : Shut ops (fun i => listed.getD i false)), listed.size = ops.size → (∀ i, i < m → listed.getD i false = true) → listed.getD m false = false → m ∈ Region.ready .any ops listed := by
    intro listed L hsz hall hmf
    have hil : m < listed.size := by omega
    refine mem_ready.2 ⟨by simpa [Array.getD, hil] using hmf, om, hom, fun e he hbn => hall e.on ((rgB_ok hB hom).back e he hbn)⟩
  intro fuel
  induction fuel with
  | zero =>
    intro listed a w k hk hsz hc hmf h
    exfalso
    have hpos : 0 < open_ ops listed := List.countP_pos_iff.2 ⟨m, List.mem_range.2 (by omega), by simp [hmf]⟩
    omega
  | succ fuel ih =>
    intro listed a w k hk0 hsz hc hmf h
    have hnil : Region.ready .any ops listed = [] → False := by
      intro hr
      have hall : ∀ i, i < m → listed.getD i false = true := by
        intro i
        induction i using Nat.strongRecOn with
        | _ i ihi =>
          intro hi
          rcases hb : listed.getD i false with _ | _
          · exfalso
            have hi' : i < ops.size := by omega
            have hmm : i ∈ Region.ready .any ops listed := mem_ready.2 ⟨by
              have : i < listed.size := by omega
              simpa [Array.getD, this] using hb, ops[i], Array.getElem?_eq_getElem hi', fun e he hbn => ihi e.on ((rgB_ok hB (Array.getElem?_eq_getElem hi')).back e he hbn) (by
                have := (rgB_ok hB (Array.getElem?_eq_getElem hi')).back e he hbn
                omega)⟩
            rw [hr] at hmm
            cases hmm
          · rfl
      have := ready_m listed h.shut hsz hall hmf
      rw [hr] at this
      cases this
    refine ⟨fun hr => (hnil hr).elim, fun i hi => ?_⟩
    obtain ⟨h1, o, ho, hr⟩ := mem_ready.1 hi
    have hlt := (Array.getElem?_eq_some_iff.1 ho).1
    have hil : i < listed.size := by omega
    have h1' : listed.getD i false = false := by simpa [Array.getD, hil] using h1
    have eL : (fun j => (listed.setIfInBounds i true).getD j false) = fun j => if j = i then true else listed.getD j false := by
      funext j
      by_cases e : j = i
      · subst e; simp [hil]
      · simp only [e, if_false]
        exact getD_set_ne false (fun h => e h.symm)
    unfold wpOp
    simp only [ho]
    rw [if_pos (by simp [Region.wanted, (rgB_ok hB ho).guard])]
    by_cases him : i = m
    · subst him
      obtain rfl := Option.some.inj (ho.symm.trans hom)
      obtain ⟨hC, f, hf, hI, hτ, hcp⟩ := h
      have hall : ∀ j, j < i → listed.getD j false = true := by
        intro j hj
        have hj2 := hlast j hj
        rw [show (16 : Nat) = 15 + 1 from rfl, ancB, Bool.or_eq_true] at hj2
        rcases hj2 with hj2 | hj2
        · exact absurd (by simpa using hj2) (Nat.ne_of_lt hj)
        · simp only [ho, Option.map_some, Option.getD_some, Array.any_eq_true] at hj2
          obtain ⟨q, hq, hj2⟩ := hj2
          rw [Bool.and_eq_true] at hj2
          exact ancB_shut hC 15 j _ hj2.2 (hr _ (Array.getElem_mem hq) hj2.1)
      have hI : I k (some (f d)) w := by simpa [hall d hd] using hI
      have eLt : ∀ j, j < ops.size → (listed.getD j false = true ↔ j < i) := by
        intro j hj
        constructor
        · intro hl
          rcases Nat.lt_or_ge j i with h5 | h5
          · exact h5
          · have : j = i := by omega
            subst this
            rw [h1'] at hl; cases hl
        · exact hall j
      have e1 : Is ops a0 (fun j => decide (j < i)) f a := ⟨hf.defers, hf.size, fun j p t hj hp hd2 hl => hf.mine j p t (hall j (by simpa using hj)) hp hd2 hl,
        fun t ht => hf.old t fun j p hj hp => ht j p (by
          have hjs := (Array.getElem?_eq_some_iff.1 hp).1
          simpa using (eLt j hjs).1 hj) hp⟩
      have e0 : Is ops a0 (fun j => decide (j < 0)) f a0 := ⟨rfl, rfl, fun _ _ _ h => by simp at h, fun _ _ => rfl⟩
      have hlen : (ops.toList.take i).length = i := by simp; omega
      have e2 := putSome_is hB (ops.toList.take i) 0 a0 (by rw [hlen]; rfl) e0
      rw [hlen, Nat.zero_add] at e2
      rw [e1.same e2]
      refine (hend f w k (by omega) hI (fun j hj => (hτ j (hall j hj)).2) fun j p t q hj hp ha hw => ?_).imp (Oper.wp_mono fun a' w' hq => ?_) id
      rotate_left
      · refine wpAny_done (ready_nil (by simpa using hsz) fun j hj => ?_) hq fuel
        have : (listed.setIfInBounds i true).getD j false = if j = i then true else listed.getD j false := congrFun eL j
        rw [this]
        by_cases e : j = i
        · simp [e]
        · simp only [e, if_false]
          exact hall j (by omega)
      · have hj' : j < i := by simpa using hj
        obtain ⟨h5, h6⟩ := hcp j p t q (hall j hj') hp ha hw
        exact ⟨by simpa using (eLt q (hτ q h5).1).1 h5, h6⟩
    have hltm : i < m := by omega
    have hk := h.known hB hS ho h1' hr
    have hcopy : ∀ (f : Nat → Value), Is ops a0 (fun i => listed.getD i false) f a → ∀ t j, o.op = .assign (.tmp t) → writer ops i t = some j → listed.getD j false = true ∧ a.eval (.tmp t) = f j := fun f hf t j ha hw => h.copy hB hS ho h1' hr hf ha hw
    obtain ⟨hC, f, hf, hI, hτ, hcp⟩ := h
    have hg := hstep i o hltm ho k _ a.eval w (by omega) hI (fun e => if_neg (fun hdl => by have := ancB_shut hC 8 i d e hdl; rw [h1'] at this; cases this)) hk
    refine .inl (Good.wp hg.assign fun v w' ⟨⟨hv, hI', hgw⟩, hva⟩ => ?_)
    refine ih _ _ _ (k + 1) (by omega) (by simpa using hsz) ?_ ?_ ?_
    · have : open_ ops (listed.setIfInBounds i true) < open_ ops listed := by
        refine countP_lt (fun x _ hx => ?_) ⟨i, List.mem_range.2 hlt, by simpa using h1', ?_⟩
        · have : (listed.setIfInBounds i true).getD x false = if x = i then true else listed.getD x false := congrFun eL x
          rw [this] at hx
          by_cases e : x = i
          · simp [e] at hx
          · simpa [e] using hx
        · have : (listed.setIfInBounds i true).getD i false = if i = i then true else listed.getD i false := congrFun eL i
          rw [this]
          simp
      omega
    · have : (listed.setIfInBounds i true).getD m false = if m = i then true else listed.getD m false := congrFun eL m
      rw [this, if_neg (fun e => him e.symm)]
      exact hmf
    · rw [eL]
      refine ⟨fun j p hj hp e he hb => ?_, _, hf.step hB ho h1' v, ?_, fun j hj => ?_, fun j p t q hj hp ha hw => ?_⟩
      · by_cases ej : j = i
        · subst ej
          obtain rfl := Option.some.inj (ho.symm.trans hp)
          have := hr e he hb
          by_cases ee : e.on = j <;> simp [ee, this]
        · simp only [ej, if_false] at hj
          have := hC j p hj hp e he hb
          by_cases ee : e.on = i <;> simp [ee, this]
      · by_cases ed : i = d
        · subst ed
          simpa using hI'
        · simpa [ed, show ¬ d = i from fun h => ed h.symm] using hI'
      · by_cases ej : j = i
        · subst ej
          exact ⟨hlt, by simpa using hv⟩
        · simp only [ej, if_false] at hj ⊢
          exact ⟨(hτ j hj).1, hG j _ _ _ (hτ j hj).2 hgw⟩
      · have hqj : q < j := List.mem_range.1 (List.mem_of_find?_eq_some hw)
        by_cases ej : j = i
        · subst ej
          obtain rfl := Option.some.inj (ho.symm.trans hp)
          obtain ⟨h5, h6⟩ := hcopy f hf t q ha hw
          have hne : q ≠ j := by omega
          exact ⟨by simp only [hne, if_false]; exact h5, by simp only [hne, if_false, if_true]; rw [hva _ ha, h6]⟩
        · simp only [ej, if_false] at hj ⊢
          obtain ⟨h5, h6⟩ := hcp j p t q hj hp ha hw
          have h5' : listed.getD q false = true := h5
          have hne : q ≠ i := fun e => by rw [e, h1'] at h5'; cases h5'
          simp only [hne, if_false]
          exact ⟨h5, h6⟩
end
theorem rseq_types_l {S : RS} {Fin : List Ty → Prop} : ∀ (l : List Oper) (τs : List Ty), (S.ops.toList.drop τs.length).take l.length = l → (∀ T ∈ τs, Stb S.E T) → RSeq S Fin l τs.length τs →
    ∃ τ : List Ty, (∀ j, j < τs.length → tys τ j = tys τs j) ∧ (∀ T ∈ τ, Stb S.E T) ∧ Fin τ ∧ ∀ i o, τs.length ≤ i → i < τs.length + l.length → S.ops[i]? = some o → ∀ k ov ρ w, k < S.ops.size → S.I k ov w → (ancB S.ops 8 i S.d = true → ov = none) → Known S.ops (tys τ) S.a0 ρ w i o.op.operands.toList → Good S.P o ρ w fun v w' => tys τ i w' v ∧ S.I (k + 1) (if i = S.d then some v else ov) w' ∧ Only S.E w w'
  | [], τs, _, hst, h => ⟨τs, fun _ _ => rfl, hst, h, fun i o hi hi2 ho => by simp at hi2; omega⟩
  | o :: l, τs, hl, hst, h => by
    obtain ⟨T, hT, hg, hr⟩ := h hst
    have hst' : ∀ T' ∈ T :: τs, Stb S.E T' := by
      intro T' hT'
      rcases List.mem_cons.1 hT' with h1 | h1
      · rw [h1]; exact hT
      · exact hst T' h1
    have hk : τs.length < S.ops.toList.length := by
      rcases Nat.lt_or_ge τs.length S.ops.toList.length with h' | h'
      · exact h'
      · rw [List.drop_eq_nil_of_le h'] at hl; simp at hl
    rw [List.drop_eq_getElem_cons hk, List.length_cons, List.take_succ_cons] at hl
    injection hl with hl1 hl2
    obtain ⟨τ, h2, h3, h4, h5⟩ := rseq_types_l l (T :: τs) (by rw [List.length_cons]; exact hl2) hst' (by rw [List.length_cons]; exact hr)
    rw [List.length_cons] at h2 h5
    have hget : ∀ j, j < τs.length → tys τ j = tys τs j := fun j hj => (h2 j (by omega)).trans (tys_old T τs hj)
    have hgetT : tys τ τs.length = T := (h2 _ (by omega)).trans (tys_new T τs)
    refine ⟨τ, hget, h3, h4, fun i o' hi hi2 ho => ?_⟩
    rw [List.length_cons] at hi2
    rcases Nat.lt_or_ge τs.length i with hlt | hge
    · exact h5 i o' hlt (by omega) ho
    · obtain rfl : i = τs.length := by omega
      have : o' = o := by
        have e : S.ops[τs.length]? = some o := by
          rw [← hl1, ← Array.getElem?_toList, List.getElem?_eq_getElem hk]
        exact Option.some.inj (ho.symm.trans e)
      subst this
      intro k ov ρ w hk hI hd hK
      rw [hgetT]
      exact hg k ov ρ w hk hI hd (known_mono (fun j w v hj h => by rw [← hget j hj]; exact h) _ hK)
/-- THE RULE: the last operation is taken by itself, behind all the others. -/
theorem wp_region_rsl {id : Nat} {Q : Exit → Act → World → Prop} (S : RS) (hO : S.Ok) (hm : S.P.follows .mixedOrders = true) (hB : rgB S.ops = true) (hS : (S.ops.all fun o => match o.dst with | some t => decide (t < S.a0.tmps.size) | none => true) = true)
    (m : Nat) (om : Oper) (hsz : S.ops.size = m + 1) (hom : S.ops[m]? = some om) (hlast : (List.range m).all (fun j => ancB S.ops 16 j m) = true) (hd : S.d < m)
    (hr : RdO S.rd 0 S.w0) (hJ : S.J none S.w0)
    (h : RSeq S (fun τ => ∀ f w' k, k ≤ S.ops.size → S.I k (some (f S.d)) w' → (∀ i, i < m → tys τ i w' (f i)) → Copies S.ops (fun j => decide (j < m)) f → wpList S.P S.ops Q [om] (putAll (S.ops.toList.take m) f 0 S.a0) w') (S.ops.toList.take m) 0 []) : (Code.region id S.ops true).wp S.P Q S.a0 S.w0 := by
  have hlen : (S.ops.toList.take m).length = m := by simp; omega
  obtain ⟨τ, _, h3, h4, h5⟩ := rseq_types_l (S.ops.toList.take m) [] (by rw [hlen]; rfl) (by simp) h
  have hg : om.guard = none := (rgB_ok hB hom).guard
  refine wp_region_any hm (rg_last (τ := tys τ) (d := S.d) (m := m) (I := S.I) (G := Only S.E) (a0 := S.a0) (om := om) hB hS hsz hom (fun j hj => List.all_eq_true.1 hlast j (List.mem_range.2 hj)) (fun i v w w' ht hg => tys_stb h3 i v w w' ht hg) (fun i o hi ho => h5 i o (Nat.zero_le _) (by rw [hlen]; simpa using hi) ho) hd (fun f w' k hk hI ht hc => ?_) S.ops.size (Array.replicate S.ops.size false) S.a0 _ 0 (by omega) (by simp) ?_ ?_ ?_)
  · have := h4 f w' k hk hI ht hc
    unfold wpList at this
    rw [if_pos (by simp [Region.wanted, hg])] at this
    exact this
  · unfold open_
    exact Nat.le_trans List.countP_le_length (by simp)
  · by_cases h : m < S.ops.size <;> simp [Array.getD, h]
  · have e : (fun i => (Array.replicate S.ops.size false).getD i false) = fun _ => false := by
      funext i
      by_cases h : i < S.ops.size <;> simp [Array.getD, h]
    rw [e]
    refine ⟨(fun j o hj => (by cases hj)), ⟨fun _ => undef, Is.start S.a0 _, ⟨?_, Only.drew _ _, hO.keep _ _ _ hJ (Only.drew _ _)⟩, (fun i hi => (by cases hi)), (fun i o t j hi => (by cases hi))⟩⟩
    cases hrd : S.rd with
    | none => trivial
    | some x =>
      rw [hrd] at hr
      exact Rd.drew1 hr
end Go.Proofs.Ytlbfejdbfhgifaa

namespace Go.Proofs.Ytlbfejdbfhgifaa
open Go.RowKit Go.Maps
set_option maxRecDepth 100000
/-! newBuilder. -/
theorem newBld_any (i n : Nat) (w : World) (hi : i ≤ 100) (hn : n ≤ 100) :
    Calls Try.prog 72 #[.int .i64 (i : Int), .int .i64 (n : Int)] w
      fun e w' => ∃ b E, e = .returned (.pointer (some ⟨b, 0, none⟩)) ∧ BldAt w.heap.size b (1 + i + n) [] E w' ∧ Below w.heap.size w w' := by
  have hmk := run_make_any (P := Try.prog) 22 3 _ 1 8 Try.underlying22 info_int .i64 .i64 (1 + i + n) (by omega) (by omega)
  have hmm := @run_makeMap Try.prog
  have h1 := IntWalk.i64_in (1 + (i : Int)) (by omega)
  have h2 := IntWalk.i64_in (1 + (i : Int) + (n : Int)) (by omega)
  have e1 : (1 + (i : Int) + (n : Int)) = ((1 + i + n : Nat) : Int) := by omega
  generalize 1 + i + n = F at *
  go_enter Try.func72, Try.ntmps72
  go_wp2
  go_ret
  have b1 := bel_new w (.cells (madeCells #[Value.int .i64 0] F) 3)
  generalize hW1 : w.alloc (.cells (madeCells #[Value.int .i64 0] F) 3) = w1 at *
  have z1 : w1.heap.size = w.heap.size + 1 := by rw [← hW1]; simp
  have b2 := bel_new w1 (.map #[] 0)
  have hM := gAt_made w1
  generalize hW2 : w1.alloc (.map #[] 0) = w2 at *
  have z2 : w2.heap.size = w1.heap.size + 1 := by rw [← hW2]; simp
  have b3 := bel_new w2 (.cells #[.int .i64 (F : Int), .slice none 0 0, .slice (some ⟨w.heap.size, 0, none⟩) F F, .map (some (w.heap.size + 1))] 92)
  have hB := heap_alloc_new w2 (.cells #[.int .i64 (F : Int), .slice none 0 0, .slice (some ⟨w.heap.size, 0, none⟩) F F, .map (some (w.heap.size + 1))] 92)
  have hO : w1.ownsRow w.heap.size 3 1 (.slice (some ⟨w.heap.size, 0, none⟩) F F) F (ints (List.replicate F 0)) := by
    have h := World.ownsRow_lit (base := w.heap.size) (e := 3) (size := 1) w (madeCells #[Value.int .i64 0] F) F (Nat.le_refl _) (by unfold maxLen; omega) (by simp [madeCells])
    rw [hW1] at h
    have e : (madeCells #[Value.int .i64 0] F).toList = ints (List.replicate F 0) := by simp [madeCells, ints, Nat.mod_one, List.map_const']
    rwa [e] at h
  generalize hW3 : w2.alloc (.cells #[.int .i64 (F : Int), .slice none 0 0, .slice (some ⟨w.heap.size, 0, none⟩) F F, .map (some (w.heap.size + 1))] 92) = w3 at *
  have z3 : w3.heap.size = w2.heap.size + 1 := by rw [← hW3]; simp
  have z0 : w2.heap.size = w.heap.size + 1 + 1 := by omega
  rw [z0] at hB
  refine ⟨_, fun g => w.heap.size ≤ g ∧ g < w.heap.size + 3, rfl, ⟨w.heap.size + 1, .slice none 0 0, .slice (some ⟨w.heap.size, 0, none⟩) F F, List.replicate F 0, ?_⟩, b1.trans ((b2.trans (b3.mono (by omega))).mono (by omega))⟩
  exact {
    box := hB
    gs := World.ownsRow_nil _ _ _ _
    ll := by simp
    lb := fun x hx => by have := List.eq_of_mem_replicate hx; simp [this]
    ls := own_below (own_below hO (b2.mono (by omega))) (b3.mono (by omega))
    map := by rw [← z1]; exact hM.below b3
    eb := by omega
    em := by omega
    eg := fun g hg => by cases hg
    el := fun g hg => by have := Option.some.inj hg; simp only at this; omega
    lo := fun g hg => by omega
    bm := by omega
    gb := by simp [Value.ownBlock]
    gm := by simp [Value.ownBlock]
    lb' := by simp [Value.ownBlock]; omega
    lm := by simp [Value.ownBlock]
    ap := fun g hg => by cases hg }
end Go.Proofs.Ytlbfejdbfhgifaa

namespace Go.Proofs.Ytlbfejdbfhgifaa
open Go.RowKit Go.Maps
set_option maxRecDepth 100000
/-! and: the cases that make no gate. (gen/bldb.py prints this text.) -/
theorem beq_ff {a b : Nat} (h : a ≠ b) : ((a : Int) == (b : Int)) = false := by rw [beq_eq_false_iff_ne]; omega
theorem beq_tt {a b : Nat} (h : a = b) : ((a : Int) == (b : Int)) = true := by rw [beq_iff_eq]; omega
theorem and_zero_st (b x y : Nat) (w : World) (hx : x < 1000000) (hy : y < 1000000) (hs : ¬ y < x) (hz : x = 0) :
    Calls Try.prog 74 #[.pointer (some ⟨b, 0, none⟩), .int .i64 (x : Int), .int .i64 (y : Int)] w
      fun e w' => e = .returned (.int .i64 (0 : Int)) ∧ w' = w := by
  have hxor : bits .xor .i64 (y : Int) 1 = ((y ^^^ 1 : Nat) : Int) := i64_xor_nat y 1 (by omega) (by omega)
  have d1 : decide (y < x) = false := decide_eq_false hs
  generalize hY : y ^^^ 1 = Y at *
  clear hs
  have e1 : ((x : Int) == 0) = true := beq_tt (b := 0) hz
  go_enter Try.func74, Try.ntmps74
  go_wp2_with fail
  go_ret
  exact ⟨rfl, rfl⟩
theorem and_neg_st (b x y : Nat) (w : World) (hx : x < 1000000) (hy : y < 1000000) (hs : ¬ y < x) (hz : x ≠ 0 ∧ x = y ^^^ 1) :
    Calls Try.prog 74 #[.pointer (some ⟨b, 0, none⟩), .int .i64 (x : Int), .int .i64 (y : Int)] w
      fun e w' => e = .returned (.int .i64 (0 : Int)) ∧ w' = w := by
  have hxor : bits .xor .i64 (y : Int) 1 = ((y ^^^ 1 : Nat) : Int) := i64_xor_nat y 1 (by omega) (by omega)
  have d1 : decide (y < x) = false := decide_eq_false hs
  generalize hY : y ^^^ 1 = Y at *
  clear hs
  have e1 : ((x : Int) == 0) = false := beq_ff (b := 0) hz.1
  have e2 : ((x : Int) == (Y : Int)) = true := beq_tt hz.2
  clear hz
  go_enter Try.func74, Try.ntmps74
  go_wp2_with fail
  go_ret
  exact ⟨rfl, rfl⟩
theorem and_one_st (b x y : Nat) (w : World) (hx : x < 1000000) (hy : y < 1000000) (hs : ¬ y < x) (hz : x ≠ 0 ∧ x ≠ y ^^^ 1 ∧ x = 1) :
    Calls Try.prog 74 #[.pointer (some ⟨b, 0, none⟩), .int .i64 (x : Int), .int .i64 (y : Int)] w
      fun e w' => e = .returned (.int .i64 (y : Int)) ∧ w' = w := by
  have hxor : bits .xor .i64 (y : Int) 1 = ((y ^^^ 1 : Nat) : Int) := i64_xor_nat y 1 (by omega) (by omega)
  have d1 : decide (y < x) = false := decide_eq_false hs
  generalize hY : y ^^^ 1 = Y at *
  clear hs
  have e1 : ((x : Int) == 0) = false := beq_ff (b := 0) hz.1
  have e2 : ((x : Int) == (Y : Int)) = false := beq_ff hz.2.1
  have e3 : ((x : Int) == 1) = true := beq_tt (b := 1) hz.2.2
  clear hz
  go_enter Try.func74, Try.ntmps74
  go_wp2_with fail
  go_ret
  exact ⟨rfl, rfl⟩
theorem and_same_st (b x y : Nat) (w : World) (hx : x < 1000000) (hy : y < 1000000) (hs : ¬ y < x) (hz : x ≠ 0 ∧ x ≠ y ^^^ 1 ∧ x ≠ 1 ∧ x = y) :
    Calls Try.prog 74 #[.pointer (some ⟨b, 0, none⟩), .int .i64 (x : Int), .int .i64 (y : Int)] w
      fun e w' => e = .returned (.int .i64 (y : Int)) ∧ w' = w := by
  have hxor : bits .xor .i64 (y : Int) 1 = ((y ^^^ 1 : Nat) : Int) := i64_xor_nat y 1 (by omega) (by omega)
  have d1 : decide (y < x) = false := decide_eq_false hs
  generalize hY : y ^^^ 1 = Y at *
  clear hs
  have e1 : ((x : Int) == 0) = false := beq_ff (b := 0) hz.1
  have e2 : ((x : Int) == (Y : Int)) = false := beq_ff hz.2.1
  have e3 : ((x : Int) == 1) = false := beq_ff (b := 1) hz.2.2.1
  have e4 : ((x : Int) == (y : Int)) = true := beq_tt hz.2.2.2
  clear hz
  go_enter Try.func74, Try.ntmps74
  go_wp2_with fail
  go_ret
  exact ⟨rfl, rfl⟩
theorem and_zero_sw (b x y : Nat) (w : World) (hx : x < 1000000) (hy : y < 1000000) (hs : x < y) (hz : x = 0) :
    Calls Try.prog 74 #[.pointer (some ⟨b, 0, none⟩), .int .i64 (y : Int), .int .i64 (x : Int)] w
      fun e w' => e = .returned (.int .i64 (0 : Int)) ∧ w' = w := by
  have hxor : bits .xor .i64 (y : Int) 1 = ((y ^^^ 1 : Nat) : Int) := i64_xor_nat y 1 (by omega) (by omega)
  have d1 : decide (x < y) = true := decide_eq_true hs
  generalize hY : y ^^^ 1 = Y at *
  have d1b : decide (0 < y) = true := decide_eq_true (by omega)
  have d1c : ¬ (y = 0) := by omega
  have e1 : ((x : Int) == 0) = true := beq_tt (b := 0) hz
  go_enter Try.func74, Try.ntmps74
  go_wp2_with fail
  go_ret
  exact ⟨rfl, rfl⟩
theorem and_neg_sw (b x y : Nat) (w : World) (hx : x < 1000000) (hy : y < 1000000) (hs : x < y) (hz : x ≠ 0 ∧ x = y ^^^ 1) :
    Calls Try.prog 74 #[.pointer (some ⟨b, 0, none⟩), .int .i64 (y : Int), .int .i64 (x : Int)] w
      fun e w' => e = .returned (.int .i64 (0 : Int)) ∧ w' = w := by
  have hxor : bits .xor .i64 (y : Int) 1 = ((y ^^^ 1 : Nat) : Int) := i64_xor_nat y 1 (by omega) (by omega)
  have d1 : decide (x < y) = true := decide_eq_true hs
  generalize hY : y ^^^ 1 = Y at *
  clear hs
  have e1 : ((x : Int) == 0) = false := beq_ff (b := 0) hz.1
  have e2 : ((x : Int) == (Y : Int)) = true := beq_tt hz.2
  clear hz
  go_enter Try.func74, Try.ntmps74
  go_wp2_with fail
  go_ret
  exact ⟨rfl, rfl⟩
theorem and_one_sw (b x y : Nat) (w : World) (hx : x < 1000000) (hy : y < 1000000) (hs : x < y) (hz : x ≠ 0 ∧ x ≠ y ^^^ 1 ∧ x = 1) :
    Calls Try.prog 74 #[.pointer (some ⟨b, 0, none⟩), .int .i64 (y : Int), .int .i64 (x : Int)] w
      fun e w' => e = .returned (.int .i64 (y : Int)) ∧ w' = w := by
  have hxor : bits .xor .i64 (y : Int) 1 = ((y ^^^ 1 : Nat) : Int) := i64_xor_nat y 1 (by omega) (by omega)
  have d1 : decide (x < y) = true := decide_eq_true hs
  generalize hY : y ^^^ 1 = Y at *
  clear hs
  have e1 : ((x : Int) == 0) = false := beq_ff (b := 0) hz.1
  have e2 : ((x : Int) == (Y : Int)) = false := beq_ff hz.2.1
  have e3 : ((x : Int) == 1) = true := beq_tt (b := 1) hz.2.2
  clear hz
  go_enter Try.func74, Try.ntmps74
  go_wp2_with fail
  go_ret
  exact ⟨rfl, rfl⟩
theorem and_same_sw (b x y : Nat) (w : World) (hx : x < 1000000) (hy : y < 1000000) (hs : x < y) (hz : x ≠ 0 ∧ x ≠ y ^^^ 1 ∧ x ≠ 1 ∧ x = y) :
    Calls Try.prog 74 #[.pointer (some ⟨b, 0, none⟩), .int .i64 (y : Int), .int .i64 (x : Int)] w
      fun e w' => e = .returned (.int .i64 (y : Int)) ∧ w' = w := by
  have hxor : bits .xor .i64 (y : Int) 1 = ((y ^^^ 1 : Nat) : Int) := i64_xor_nat y 1 (by omega) (by omega)
  have d1 : decide (x < y) = true := decide_eq_true hs
  generalize hY : y ^^^ 1 = Y at *
  clear hs
  have e1 : ((x : Int) == 0) = false := beq_ff (b := 0) hz.1
  have e2 : ((x : Int) == (Y : Int)) = false := beq_ff hz.2.1
  have e3 : ((x : Int) == 1) = false := beq_ff (b := 1) hz.2.2.1
  have e4 : ((x : Int) == (y : Int)) = true := beq_tt hz.2.2.2
  clear hz
  go_enter Try.func74, Try.ntmps74
  go_wp2_with fail
  go_ret
  exact ⟨rfl, rfl⟩
end Go.Proofs.Ytlbfejdbfhgifaa

namespace Go.Proofs.Ytlbfejdbfhgifaa
open Go.RowKit Go.Maps
set_option maxRecDepth 100000
/-! and: a known gate. -/
theorem and_known_st {B b F : Nat} {G : List (Nat × Nat)} {E : Nat → Prop} {m : Nat} {vg vl : Value} {L : List Int} (x y l : Nat) (w : World) (h : Bld B b F G E m vg vl L w) (hx : x < 1000000) (hy : y < 1000000) (hs : ¬ y < x) (h1 : x ≠ 0) (h2 : x ≠ y ^^^ 1) (h3 : x ≠ 1) (h4 : x ≠ y) (hk : Cir.knownG F G x y = some l) :
    Calls Try.prog 74 #[.pointer (some ⟨b, 0, none⟩), .int .i64 (x : Int), .int .i64 (y : Int)] w
      fun e w' => e = .returned (.int .i64 (l : Int)) ∧ Below w.heap.size w w' := by
  have hxor : bits .xor .i64 (y : Int) 1 = ((y ^^^ 1 : Nat) : Int) := i64_xor_nat y 1 (by omega) (by omega)
  have d1 : decide (y < x) = false := decide_eq_false hs
  have e1 : ((x : Int) == 0) = false := beq_ff (b := 0) h1
  have e2 : ((x : Int) == ((y ^^^ 1 : Nat) : Int)) = false := beq_ff h2
  have e3 : ((x : Int) == 1) = false := beq_ff (b := 1) h3
  have e4 : ((x : Int) == (y : Int)) = false := beq_ff h4
  generalize y ^^^ 1 = Y at *
  clear h1 h2 h3 h4 hs
  have hbn := bel_new w (.cells #[.int .i64 (x : Int), .int .i64 (y : Int)] 55)
  have hg := heap_alloc_new w (.cells #[.int .i64 (x : Int), .int .i64 (y : Int)] 55)
  have hzW : (w.alloc (.cells #[.int .i64 (x : Int), .int .i64 (y : Int)] 55)).heap.size = w.heap.size + 1 := by simp
  have H := Lib.hid (h.below hbn)
  have HB := Lib.hid hbn
  have Hk := Lib.hid hk
  have hbW : b < w.heap.size := (h.lo b h.eb).2
  clear h hbn hk
  go_enter Try.func74, Try.ntmps74
  go_wp2_with fail
  generalize w.alloc (.cells #[.int .i64 (x : Int), .int .i64 (y : Int)] 55) = W at *
  generalize hN : w.heap.size = N at *
  have c3 := gw_cell (blk_cell H.out.box 3) (by show b < W.heap.size; omega)
  have k0 := gw_cell (blk_cell hg 0) (by show N < W.heap.size; omega)
  have k1 := gw_cell (blk_cell hg 1) (by show N < W.heap.size; omega)
  have hlk : ∀ n : GW W, (Instr.lookup 90 (.map (some m)) (.agg #[.int .i64 (x : Int), .int .i64 (y : Int)]) true).run Try.prog (gw n) = .ok (.tuple #[.int .i64 (l : Int), .bool true]) (gw n) := fun n => by
    have := (H.out.map.below (gw_below n)).look (x := x) (y := y) (by omega) (by omega)
    rw [Hk.out] at this
    exact this
  refine wp_region_grow (by kernel_rfl) (by kernel_rfl) ?_
  repeat (go_big_quiet_step ((fail)))
  refine wpQuiet_nil ?_
  intro _ hw'
  obtain ⟨nq, hw''⟩ := hw'
  subst hw''
  have hgq := gw_below nq
  generalize gw nq = wq at *
  clear nq
  go_wp2_with fail
  go_ret
  subst hN
  exact ⟨rfl, HB.out.trans (hgq.mono HB.out.size)⟩
end Go.Proofs.Ytlbfejdbfhgifaa

namespace Go.Proofs.Ytlbfejdbfhgifaa
open Go.RowKit Go.Maps
set_option maxRecDepth 100000
/-! and: the operands in the other order. (gen/bldsw.py prints this text.) -/
theorem and_known_sw {B b F : Nat} {G : List (Nat × Nat)} {E : Nat → Prop} {m : Nat} {vg vl : Value} {L : List Int} (x y l : Nat) (w : World) (h : Bld B b F G E m vg vl L w) (hx : x < 1000000) (hy : y < 1000000) (hs : x < y) (h1 : x ≠ 0) (h2 : x ≠ y ^^^ 1) (h3 : x ≠ 1) (h4 : x ≠ y) (hk : Cir.knownG F G x y = some l) :
    Calls Try.prog 74 #[.pointer (some ⟨b, 0, none⟩), .int .i64 (y : Int), .int .i64 (x : Int)] w
      fun e w' => e = .returned (.int .i64 (l : Int)) ∧ Below w.heap.size w w' := by
  have hxor : bits .xor .i64 (y : Int) 1 = ((y ^^^ 1 : Nat) : Int) := i64_xor_nat y 1 (by omega) (by omega)
  have d1 : decide (x < y) = true := decide_eq_true hs
  have e1 : ((x : Int) == 0) = false := beq_ff (b := 0) h1
  have e2 : ((x : Int) == ((y ^^^ 1 : Nat) : Int)) = false := beq_ff h2
  have e3 : ((x : Int) == 1) = false := beq_ff (b := 1) h3
  have e4 : ((x : Int) == (y : Int)) = false := beq_ff h4
  generalize y ^^^ 1 = Y at *
  clear h1 h2 h3 h4 hs
  have hbn := bel_new w (.cells #[.int .i64 (x : Int), .int .i64 (y : Int)] 55)
  have hg := heap_alloc_new w (.cells #[.int .i64 (x : Int), .int .i64 (y : Int)] 55)
  have hzW : (w.alloc (.cells #[.int .i64 (x : Int), .int .i64 (y : Int)] 55)).heap.size = w.heap.size + 1 := by simp
  have H := Lib.hid (h.below hbn)
  have HB := Lib.hid hbn
  have Hk := Lib.hid hk
  have hbW : b < w.heap.size := (h.lo b h.eb).2
  clear h hbn hk
  go_enter Try.func74, Try.ntmps74
  go_wp2_with fail
  generalize w.alloc (.cells #[.int .i64 (x : Int), .int .i64 (y : Int)] 55) = W at *
  generalize hN : w.heap.size = N at *
  have c3 := gw_cell (blk_cell H.out.box 3) (by show b < W.heap.size; omega)
  have k0 := gw_cell (blk_cell hg 0) (by show N < W.heap.size; omega)
  have k1 := gw_cell (blk_cell hg 1) (by show N < W.heap.size; omega)
  have hlk : ∀ n : GW W, (Instr.lookup 90 (.map (some m)) (.agg #[.int .i64 (x : Int), .int .i64 (y : Int)]) true).run Try.prog (gw n) = .ok (.tuple #[.int .i64 (l : Int), .bool true]) (gw n) := fun n => by
    have := (H.out.map.below (gw_below n)).look (x := x) (y := y) (by omega) (by omega)
    rw [Hk.out] at this
    exact this
  refine wp_region_grow (by kernel_rfl) (by kernel_rfl) ?_
  repeat (go_big_quiet_step ((fail)))
  refine wpQuiet_nil ?_
  intro _ hw'
  obtain ⟨nq, hw''⟩ := hw'
  subst hw''
  have hgq := gw_below nq
  generalize gw nq = wq at *
  clear nq
  go_wp2_with fail
  go_ret
  subst hN
  exact ⟨rfl, HB.out.trans (hgq.mono HB.out.size)⟩
end Go.Proofs.Ytlbfejdbfhgifaa

namespace Go.Proofs.Ytlbfejdbfhgifaa
open Go.RowKit Go.Maps
set_option maxRecDepth 100000
/-! and: a new gate. -/
theorem wpList_add_gate (w : World) {ops : Array Oper} {rest : List Oper} {o : Oper} {a : Act} {Q : Exit → Act → World → Prop} (hg : o.guard = none) (m x v : Operand) (hop : o.op = Op.mapUpdate 90 m x v) (b n : Nat) (f : Nat → Nat → Option Nat) (hm : a.eval m = .map (some b)) (h : GAt w b n f) (hn : n ≤ 1000000) (X Y V : Nat) (hX : X ≤ 10000000) (hY : Y ≤ 10000000) (hV : V ≤ 10000000) (hx : a.eval x = .agg #[.int .i64 (X : Int), .int .i64 (Y : Int)]) (hv : a.eval v = .int .i64 (V : Int))
    (hK : ∀ w', GAt w' b (n + 1) (fun x' y' => if x' = X ∧ y' = Y then some V else f x' y') → w.grownBy w' (some b) → wpList Try.prog ops Q rest (a.put o.dst undef) w') : wpList Try.prog ops Q (o :: rest) a w := by
  refine wpList_plain hg fun K' hK' => ?_
  obtain ⟨w', hrun, r1, r2⟩ := h.add hn (x := X) (y := Y) (v := V) (by omega) (by omega) (by omega)
  unfold gkey at hrun
  unfold Oper.wp
  simp [execOp, hop, hm, hx, hv, hrun, Result.andThen]
  exact hK' _ _ (hK w' r1 r2)
theorem rs_eq_before {S : RS} {Fin : List Ty → Prop} {o : Oper} {l : List Oper} {i : Nat} {τs : List Ty} (hO : S.Ok) (hid : i ≠ S.d) (hanc : ancB S.ops 8 i S.d = true) {c : Value}
    (h : ∀ ρ w, Only S.E S.w0 w → S.J none w → Known S.ops (tys τs) S.a0 ρ w i o.op.operands.toList → (execOp ρ o).run S.P w = .ok (.value c) w)
    (rest : RSeq S Fin l (i + 1) (TEq c :: τs)) : RSeq S Fin (o :: l) i τs :=
  rs_before hO hid hanc (TEq c) (stb_eq _ _) (fun k ρ w hr ho hJ hK => by
    unfold Good
    rw [h ρ w ho hJ hK]
    exact ⟨rfl, rdO_more hr, Only.refl _ _⟩) rest
theorem cubes_snoc2 (ks : List (Int × Int)) (x y : Int) : cubes (ks ++ [(x, y)]) = cubes ks ++ [.int .i64 x, .int .i64 y] := by
  unfold cubes
  rw [List.flatMap_append]
  rfl
theorem knownG_cons {F : Nat} {G : List (Nat × Nat)} {x y V : Nat} (hk : Cir.knownG F G x y = none) (hV : V = 2 * (F + G.length)) : (fun x' y' => if x' = x ∧ y' = y then some V else Cir.knownG F G x' y') = Cir.knownG F ((x, y) :: G) := by
  funext x' y'
  show _ = (match Cir.knownG F G x' y' with
    | some l => some l
    | none => if x' = x ∧ y' = y then some (2 * (F + G.length)) else none)
  by_cases e : x' = x ∧ y' = y
  · obtain ⟨rfl, rfl⟩ := e
    rw [hk]
    simp [hV]
  · rw [if_neg e]
    cases Cir.knownG F G x' y' with
    | some l => rfl
    | none => simp [e]
theorem bld_close {B b F N : Nat} {G : List (Nat × Nat)} {E : Nat → Prop} {m : Nat} {vg v7 v8 : Value} {L : List Int} {x y V n gl cl : Nat} {U : Int} {cs cs2 : List Value} {W3 w4 W4 W5 W6 : World} {cells : Array Value}
    (HN : ∀ g, E g → g < N) (H : Bld B b F G E m vg (.slice (some ⟨gl, 0, none⟩) (F + G.length) cl) L W3) (hN : N ≤ W3.heap.size) (O4 : Only (fun g => g = m) W3 w4) (HM : GAt W4 m (G.length + 1) (fun x' y' => if x' = x ∧ y' = y then some V else Cir.knownG F G x' y'))
    (O9 : Only (fun g => vg.ownBlock = some g) w4 W4) (h7 : W4.ownsRow B 55 2 v7 (G.length + 1) (cs ++ [.int .i64 (x : Int), .int .i64 (y : Int)])) (at7 : ∀ g, v7.ownBlock = some g → vg.ownBlock = some g ∨ w4.heap.size ≤ g) (hW5 : W5 = W4.setCell ⟨b, 1, none⟩ v7)
    (O10 : Only (fun g => (Value.slice (some ⟨gl, 0, none⟩) n cl).ownBlock = some g) W5 W6) (h8 : W6.ownsRow B 3 1 v8 (n + 1) (cs2 ++ [.int .i64 (1 + U)])) (at8 : ∀ g, v8.ownBlock = some g → (Value.slice (some ⟨gl, 0, none⟩) n cl).ownBlock = some g ∨ W5.heap.size ≤ g)
    (hx : W6.heap[b]? = some (.cells cells 92 (0, 0))) (hk : Cir.knownG F G x y = none) (hV : V = 2 * (F + G.length)) (hn : F + G.length = n) (hL : L.length = n) (hU : 0 ≤ U ∧ U ≤ G.length) (hcs : cubes (Cir.gatesOf G) = cs) (hcs2 : ints L = cs2) (hcl : cells.setIfInBounds 2 v8 = #[.int .i64 (F : Int), v7, v8, .map (some m)]) :
    Bld B b F ((x, y) :: G) (fun g => E g ∨ v7.ownBlock = some g ∨ v8.ownBlock = some g) m v7 v8 (L ++ [1 + U]) (W6.setCell ⟨b, 2, none⟩ v8) := by
  subst hn
  have z4 := O4.size
  have z9 := O9.size
  have z5 : W5.heap.size = W4.heap.size := by rw [hW5]; simp
  have z6 := O10.size
  have hEb := HN b H.eb
  have hEm := HN m H.em
  have hgl : E gl := H.el gl rfl
  have hgl2 := HN gl hgl
  have o5 : Only (fun g => g = b) W4 W5 := hW5 ▸ Only.grown (set_grown W4 b 1 _) (fun k hk => (Option.some.inj hk).symm)
  have o7 : Only (fun g => g = b) W6 (W6.setCell ⟨b, 2, none⟩ v8) := Only.grown (set_grown W6 b 2 _) (fun k hk => (Option.some.inj hk).symm)
  have z7 : (W6.setCell ⟨b, 2, none⟩ v8).heap.size = W6.heap.size := by simp
  have b7 : v7.ownBlock ≠ some b := fun e => by
    rcases at7 b e with h | h
    · exact H.gb h
    · omega
  have m7 : v7.ownBlock ≠ some m := fun e => by
    rcases at7 m e with h | h
    · exact H.gm h
    · omega
  have l7 : v7.ownBlock ≠ some gl := fun e => by
    rcases at7 gl e with h | h
    · exact H.ap gl h rfl
    · omega
  have b8 : v8.ownBlock ≠ some b := fun e => by
    rcases at8 b e with h | h
    · exact H.lb' h
    · omega
  have m8 : v8.ownBlock ≠ some m := fun e => by
    rcases at8 m e with h | h
    · exact H.lm h
    · omega
  have a78 : Apart v7 v8 := fun g h h' => by
    rcases at8 g h' with e | e
    · have e2 : gl = g := by simpa [Value.ownBlock] using e
      exact l7 (e2 ▸ h)
    · have := (h7.lt g h).2
      omega
  have eg7 : cubes (Cir.gatesOf ((x, y) :: G)) = cs ++ [.int .i64 (x : Int), .int .i64 (y : Int)] := by rw [Cir.gatesOf_cons, cubes_snoc2, hcs]
  have e8 : ints (L ++ [1 + U]) = cs2 ++ [.int .i64 (1 + U)] := by rw [ints_snoc, hcs2]
  have nv : ∀ g, v7.ownBlock = some g → ¬ (Value.slice (some ⟨gl, 0, none⟩) (F + G.length) cl).ownBlock = some g := fun g h e => by
    have e2 : gl = g := by simpa [Value.ownBlock] using e
    exact l7 (e2 ▸ h)
  exact {
    box := by rw [← hcl]; exact heap_setCell_same W6 b 2 _ _ v8 hx
    gs := by
      rw [eg7]
      exact own_only (own_only (own_only h7 o5 (fun g h e => b7 (e ▸ h))) O10 nv) o7 (fun g h e => b7 (e ▸ h))
    ll := by rw [List.length_append, hL]; simp; omega
    lb := fun u hu => by
      rcases List.mem_append.1 hu with h | h
      · have := H.lb u h
        simp only [List.length_cons]
        omega
      · have := List.mem_singleton.1 h
        simp only [List.length_cons]
        omega
    ls := by
      rw [e8]
      exact own_only h8 o7 (fun g h e => b8 (e ▸ h))
    map := by
      rw [← knownG_cons hk hV]
      exact ((HM.only o5 (fun e => H.bm e.symm)).only O10 H.lm).only o7 (fun e => H.bm e.symm)
    eb := .inl H.eb
    em := .inl H.em
    eg := fun g h => .inr (.inl h)
    el := fun g h => .inr (.inr h)
    lo := fun g h => by
      rcases h with h | h | h
      · have h1 := H.lo g h; have h2 := HN g h; omega
      · have h1 := h7.lt g h; omega
      · have h1 := h8.lt g h; omega
    bm := H.bm
    gb := b7
    gm := m7
    lb' := b8
    lm := m8
    ap := a78 }
theorem and_new_st {B b F : Nat} {G : List (Nat × Nat)} {E : Nat → Prop} {m : Nat} {vg vl : Value} {L : List Int} (x y : Nat) (w : World) (h : Bld B b F G E m vg vl L w) (hF : F ≤ 300) (hG : G.length ≤ 10000) (hx : x < 2 * (F + G.length)) (hy : y < 2 * (F + G.length)) (hs : ¬ y < x) (h1 : x ≠ 0) (h2 : x ≠ y ^^^ 1) (h3 : x ≠ 1) (h4 : x ≠ y) (hk : Cir.knownG F G x y = none) :
    Calls Try.prog 74 #[.pointer (some ⟨b, 0, none⟩), .int .i64 (x : Int), .int .i64 (y : Int)] w
      fun e w' => e = .returned (.int .i64 ((2 * (F + G.length) : Nat) : Int)) ∧ BldNext B b F ((x, y) :: G) E w w' := by
  have hxor : bits .xor .i64 (y : Int) 1 = ((y ^^^ 1 : Nat) : Int) := i64_xor_nat y 1 (by omega) (by omega)
  have d1 : decide (y < x) = false := decide_eq_false hs
  have e1 : ((x : Int) == 0) = false := beq_ff (b := 0) h1
  have e2 : ((x : Int) == ((y ^^^ 1 : Nat) : Int)) = false := beq_ff h2
  have e3 : ((x : Int) == 1) = false := beq_ff (b := 1) h3
  have e4 : ((x : Int) == (y : Int)) = false := beq_ff h4
  generalize y ^^^ 1 = Y at *
  clear h1 h2 h3 h4 hs
  have hbn := bel_new w (.cells #[.int .i64 (x : Int), .int .i64 (y : Int)] 55)
  have hg := heap_alloc_new w (.cells #[.int .i64 (x : Int), .int .i64 (y : Int)] 55)
  have hzW : (w.alloc (.cells #[.int .i64 (x : Int), .int .i64 (y : Int)] 55)).heap.size = w.heap.size + 1 := by simp
  have H := Lib.hid (h.below hbn)
  have HB := Lib.hid hbn
  have Hk := Lib.hid hk
  have hbW : b < w.heap.size := (h.lo b h.eb).2
  obtain ⟨Ag, cg, hvg⟩ := slice_of_own h.gs
  have hw1 := IntWalk.i64_in ((F : Int) + (G.length : Int)) (by omega)
  have hw2 := IntWalk.i64_in (2 * ((F : Int) + (G.length : Int))) (by omega)
  have HN : Hid (∀ g, E g → g < w.heap.size) := Lib.hid fun g hg => (h.lo g hg).2
  clear h hbn hk
  go_enter Try.func74, Try.ntmps74
  go_wp2_with fail
  generalize w.alloc (.cells #[.int .i64 (x : Int), .int .i64 (y : Int)] 55) = W at *
  generalize hN : w.heap.size = N at *
  have c0 := gw_cell (blk_cell H.out.box 0) (by show b < W.heap.size; omega)
  have c1 := gw_cell (blk_cell H.out.box 1) (by show b < W.heap.size; omega)
  have c3 := gw_cell (blk_cell H.out.box 3) (by show b < W.heap.size; omega)
  have k0 := gw_cell (blk_cell hg 0) (by show N < W.heap.size; omega)
  have k1 := gw_cell (blk_cell hg 1) (by show N < W.heap.size; omega)
  have hlk : ∀ n : GW W, (Instr.lookup 90 (.map (some m)) (.agg #[.int .i64 (x : Int), .int .i64 (y : Int)]) true).run Try.prog (gw n) = .ok (.tuple #[.int .i64 0, .bool false]) (gw n) := fun n => by
    have := (H.out.map.below (gw_below n)).look (x := x) (y := y) (by omega) (by omega)
    rw [Hk.out] at this
    exact this
  refine wp_region_grow (by kernel_rfl) (by kernel_rfl) ?_
  repeat (go_big_quiet_step ((fail)))
  refine wpQuiet_nil ?_
  intro _ hw'
  obtain ⟨nq, hw''⟩ := hw'
  subst hw''
  have hgq := gw_below nq
  generalize gw nq = wq at *
  clear nq
  have B1 := Lib.hid hgq
  have H1 := Lib.hid (H.out.below hgq)
  have hg1 := (hgq.block N (by omega)).trans hg
  have z1 := hgq.size
  clear H hlk c0 c1 c3 k0 k1 hgq hg
  subst hvg
  obtain ⟨W1, hW1⟩ : ∃ W1, W1 = wq := ⟨_, rfl⟩
  subst hW1
  go_wp2_with fail
  have c0 := gw_cell (blk_cell H1.out.box 0) (by show b < W1.heap.size; omega)
  have c1 := gw_cell (blk_cell H1.out.box 1) (by show b < W1.heap.size; omega)
  refine wp_region_grow (by kernel_rfl) (by kernel_rfl) ?_
  repeat (go_big_quiet_step ((fail)))
  refine wpQuiet_nil ?_
  intro _ hw'
  obtain ⟨nq, hw''⟩ := hw'
  subst hw''
  have hgq := gw_below nq
  generalize gw nq = wq at *
  clear nq
  have B2 := Lib.hid (B1.out.trans (hgq.mono B1.out.size))
  have H2 := Lib.hid (H1.out.below hgq)
  have hg2 := (hgq.block N (by omega)).trans hg1
  have z2 := hgq.size
  clear H1 c0 c1 hgq hg1 B1
  obtain ⟨W2, hW2⟩ : ∃ W2, W2 = wq := ⟨_, rfl⟩
  subst hW2
  obtain ⟨V, hV⟩ : ∃ V : Nat, 2 * ((F : Int) + (G.length : Int)) = (V : Int) := ⟨2 * (F + G.length), by omega⟩
  have hV2 : V = 2 * (F + G.length) := by omega
  rw [hV]
  clear hw1 hw2 hV
  have hz2 : b < W2.heap.size := by omega
  have hz3 : N < W2.heap.size := by omega
  go_wp2_with fail
  refine wp_region_rsl (quietRS Try.prog _ W2 _) quietRS_ok (by kernel_rfl) (by kernel_rfl) (by kernel_rfl) 6 _ rfl rfl (by kernel_rfl) (show (0 : Nat) < 6 by decide) trivial trivial ?_
  refine rs_old quietRS_ok quiet_any _ (.inl rfl) _ rfl rfl ?_
  apply rs_eq quietRS_ok quiet_any
  · intro ρ w' ho hK
    have ho : Only _ W2 w' := ho
    obtain ⟨h0, -⟩ := hK
    have h0' : ρ (.tmp 58) = _ := h0
    go_simp
    try exact rfl
  apply rs_eq quietRS_ok quiet_any
  · intro ρ w' ho hK
    have ho : Only _ W2 w' := ho
    obtain ⟨h0, -⟩ := hK
    have h0' : ρ (.tmp 59) = _ := h0
    go_simp
    try exact rfl
  apply rs_eq quietRS_ok quiet_any
  · intro ρ w' ho hK
    have ho : Only _ W2 w' := ho
    obtain ⟨h0, -⟩ := hK
    have h0' : ρ (.tmp 60) = _ := h0
    have hb := only_below ho
    have q3 := (hb.cell (p := ⟨b, 3, none⟩) hz2).trans (blk_cell H2.out.box 3)
    have k0 := (hb.cell (p := ⟨N, 0, none⟩) hz3).trans (blk_cell hg2 0)
    have k1 := (hb.cell (p := ⟨N, 1, none⟩) hz3).trans (blk_cell hg2 1)
    go_simp
    try exact rfl
  apply rs_eq quietRS_ok quiet_any
  · intro ρ w' ho hK
    have ho : Only _ W2 w' := ho
    obtain ⟨h0, -⟩ := hK
    have h0' : ρ (.tmp 7) = _ := h0
    have hb := only_below ho
    have q3 := (hb.cell (p := ⟨b, 3, none⟩) hz2).trans (blk_cell H2.out.box 3)
    have k0 := (hb.cell (p := ⟨N, 0, none⟩) hz3).trans (blk_cell hg2 0)
    have k1 := (hb.cell (p := ⟨N, 1, none⟩) hz3).trans (blk_cell hg2 1)
    go_simp
    try exact rfl
  refine rs_old quietRS_ok quiet_any _ (.inl rfl) _ rfl rfl ?_
  intro f w9 k9 hk9 hI9 ht9 hcp9
  have E0 : f 0 = _ := ht9 0 (Nat.le_of_ble_eq_true rfl)
  conv at E0 => rhs; whnf
  have E1 : f 1 = _ := ht9 1 (Nat.le_of_ble_eq_true rfl)
  have E2 : f 2 = _ := ht9 2 (Nat.le_of_ble_eq_true rfl)
  have E3 : f 3 = _ := ht9 3 (Nat.le_of_ble_eq_true rfl)
  have E4 : f 4 = _ := ht9 4 (Nat.le_of_ble_eq_true rfl)
  have E5 : f 5 = _ := ht9 5 (Nat.le_of_ble_eq_true rfl)
  conv at E5 => rhs; whnf
  have Ho9 : Only _ W2 w9 := hI9.2.1
  simp only [putAll, E0, E1, E2, E3, E4, E5, Nat.zero_add, Nat.reduceAdd, Act.put, List.setIfInBounds_toArray, List.set_cons_succ, List.set_cons_zero, List.take, List.getElem_toArray, List.getElem_cons_succ, List.getElem_cons_zero]
  clear E0 E1 E2 E3 E4 E5
  clear hI9 ht9 hcp9 hk9
  obtain ⟨W3, hW3⟩ : ∃ W, W = w9 := ⟨_, rfl⟩
  subst hW3
  have hb9 := only_below Ho9
  have B3 := Lib.hid (B2.out.trans (hb9.mono B2.out.size))
  have H3 := Lib.hid (H2.out.below hb9)
  have hg3 := (hb9.block N hz3).trans hg2
  have z3 := hb9.size
  clear Ho9 hb9 hg2 H2 B2
  refine wpList_add_gate W3 rfl (.tmp 61) (.tmp 62) (.tmp 63) rfl m G.length _ rfl H3.out.map (by omega) x y V (by omega) (by omega) (by omega) rfl rfl ?_
  intro w4 hm4 hg4
  have HM4 := Lib.hid hm4
  have z4 := hg4.size
  have O4 := Lib.hid (Only.grown (E := fun g => g = m) hg4 (fun k hk => (Option.some.inj hk).symm))
  have hx4 := (O4.out.block b (by omega) H3.out.bm).trans H3.out.box
  have hgn : N ≠ m := fun e => by have := H3.out.lo m H3.out.em; have := HN.out m H3.out.em; omega
  have hg5 := (O4.out.block N (by omega) hgn).trans hg3
  have hgs4 := Lib.hid (own_only H3.out.gs O4.out (fun g hg e => H3.out.gm (by rw [hg, e])))
  have hls4 := Lib.hid (own_only H3.out.ls O4.out (fun g hg e => H3.out.lm (by rw [hg, e])))
  have hz5 : b < w4.heap.size := by omega
  have hz6 : N < w4.heap.size := by omega
  have hgb := H3.out.gb
  have hgN : ∀ g, (Value.slice Ag G.length cg).ownBlock = some g → g < N := fun g hg => HN.out g (H3.out.eg g hg)
  have hBW : B ≤ w4.heap.size := by have := (H3.out.lo b H3.out.eb).1; omega
  clear hm4 hg4 hg3
  go_wp2_with fail
  obtain ⟨cs, hcs⟩ : ∃ cs, cubes (Cir.gatesOf G) = cs := ⟨_, rfl⟩
  rw [hcs] at hgs4
  obtain ⟨i0, hi0, hz0, hz1, hz2⟩ := info_parts info_gate
  have hO := fun ops a => appRS2_ok (Pg := Try.prog) (ops := ops) (a := a) (news := [.int .i64 (x : Int), .int .i64 (y : Int)]) (d := 7) (hgs4.out)
  refine wp_region_rsl (appRS2 Try.prog _ w4 _ (B) 55 2 (Value.slice Ag G.length cg) (G.length) (cs) [.int .i64 (x : Int), .int .i64 (y : Int)] 7) (hO _ _) (by kernel_rfl) (by kernel_rfl) (by kernel_rfl) 10 _ rfl rfl (by kernel_rfl) (show (7 : Nat) < 10 by decide) trivial hgs4.out ?_
  refine rs_old (hO _ _) (.inl (Nat.ne_of_beq_eq_false rfl)) _ (.inl rfl) _ rfl rfl ?_
  refine rs_old (hO _ _) (.inl (Nat.ne_of_beq_eq_false rfl)) _ (.inl rfl) _ rfl rfl ?_
  apply rs_eq (hO _ _) (.inl (Nat.ne_of_beq_eq_false rfl))
  · intro ρ w' ho hK
    have ho : Only _ w4 w' := ho
    obtain ⟨h0, -⟩ := hK
    have h0' : ρ (.tmp 65) = _ := h0
    go_simp
    try exact rfl
  apply rs_eq (hO _ _) (.inl (Nat.ne_of_beq_eq_false rfl))
  · intro ρ w' ho hK
    have ho : Only _ w4 w' := ho
    obtain ⟨h0, -⟩ := hK
    have h0' : ρ (.tmp 66) = _ := h0
    go_simp
    try exact rfl
  apply rs_eq (hO _ _) (.inl (Nat.ne_of_beq_eq_false rfl))
  · intro ρ w' ho hK
    have ho : Only _ w4 w' := ho
    obtain ⟨h0, -⟩ := hK
    have h0' : ρ (.tmp 67) = _ := h0
    have q1 := cell_on ho (fun e => hgb e) hz5 (blk_cell hx4 1)
    have k0 := cell_on ho (fun e => absurd (hgN N e) (Nat.lt_irrefl _)) hz6 (blk_cell hg5 0)
    have k1 := cell_on ho (fun e => absurd (hgN N e) (Nat.lt_irrefl _)) hz6 (blk_cell hg5 1)
    go_simp
    try exact rfl
  apply rs_eq (hO _ _) (.inl (Nat.ne_of_beq_eq_false rfl))
  · intro ρ w' ho hK
    have ho : Only _ w4 w' := ho
    obtain ⟨h0, -⟩ := hK
    have h0' : ρ (.tmp 7) = _ := h0
    have q1 := cell_on ho (fun e => hgb e) hz5 (blk_cell hx4 1)
    have k0 := cell_on ho (fun e => absurd (hgN N e) (Nat.lt_irrefl _)) hz6 (blk_cell hg5 0)
    have k1 := cell_on ho (fun e => absurd (hgN N e) (Nat.lt_irrefl _)) hz6 (blk_cell hg5 1)
    go_simp
    try exact rfl
  refine rs_build1 (hO _ _) (.inl (Nat.ne_of_beq_eq_false rfl)) 2 [.int .i64 (x : Int), .int .i64 (y : Int)] 55 rfl (fun ρ w' ho hK => by
    have ho : Only _ w4 w' := ho
    obtain ⟨h0, -⟩ := hK
    have h0' : ρ (.tmp 69) = _ := h0
    go_simp) ?_
  refine rs_append2 rfl (B) 55 29 2 (Value.slice Ag G.length cg) (G.length) (cs) _ rfl rfl (fun g hg => hg) (show B ≤ w4.heap.size by omega) _ _ rfl _ _ rfl rfl rfl rfl i0 _ 16 Try.underlying29 hi0 hz0 hz1 hz2 rfl (by decide) (by omega) (by decide) (by simp [Value.oneCell']) ?_
  apply rs_eq (hO _ _) (.inl (Nat.ne_of_beq_eq_false rfl))
  · intro ρ w' ho hK
    have ho : Only _ w4 w' := ho
    obtain ⟨h0, -⟩ := hK
    have h0' : ρ (.tmp 64) = _ := h0
    go_simp
    try exact rfl
  apply rs_eq (hO _ _) (.inl (Nat.ne_of_beq_eq_false rfl))
  · intro ρ w' ho hK
    have ho : Only _ w4 w' := ho
    obtain ⟨h0, -⟩ := hK
    have h0' : ρ (.tmp 72) = _ := h0
    go_simp
    try exact rfl
  intro f w9 k9 hk9 hI9 ht9 hcp9
  have E0 : f 0 = _ := ht9 0 (Nat.le_of_ble_eq_true rfl)
  conv at E0 => rhs; whnf
  have E1 : f 1 = _ := ht9 1 (Nat.le_of_ble_eq_true rfl)
  conv at E1 => rhs; whnf
  have E2 : f 2 = _ := ht9 2 (Nat.le_of_ble_eq_true rfl)
  have E3 : f 3 = _ := ht9 3 (Nat.le_of_ble_eq_true rfl)
  have E4 : f 4 = _ := ht9 4 (Nat.le_of_ble_eq_true rfl)
  have E5 : f 5 = _ := ht9 5 (Nat.le_of_ble_eq_true rfl)
  have E6 : (TNew _ 2 1 [.int .i64 (x : Int), .int .i64 (y : Int)]) w9 (f 6) := ht9 6 (Nat.le_of_ble_eq_true rfl)
  have E7 : (TAny) w9 (f 7) := ht9 7 (Nat.le_of_ble_eq_true rfl)
  have E8 : f 8 = _ := ht9 8 (Nat.le_of_ble_eq_true rfl)
  have E9 : f 9 = _ := ht9 9 (Nat.le_of_ble_eq_true rfl)
  have Ho9 : Only _ w4 w9 := hI9.2.1
  have hown9 : w9.ownsRow (B) 55 2 (f 7) (G.length + 1) (cs ++ [.int .i64 (x : Int), .int .i64 (y : Int)]) := hI9.2.2.1
  have hat9 : ∀ g, (f 7).ownBlock = some g → (Value.slice Ag G.length cg).ownBlock = some g ∨ w4.heap.size ≤ g := hI9.2.2.2
  simp only [putAll, E0, E1, E2, E3, E4, E5, E8, E9, Nat.zero_add, Nat.reduceAdd, Act.put, List.setIfInBounds_toArray, List.set_cons_succ, List.set_cons_zero, List.take, List.getElem_toArray, List.getElem_cons_succ, List.getElem_cons_zero]
  clear E0 E1 E2 E3 E4 E5 E8 E9
  clear hI9 ht9 hcp9 hk9
  generalize f 6 = r6 at *
  generalize f 7 = r7 at *
  obtain ⟨W4, hW4⟩ : ∃ W, W = w9 := ⟨_, rfl⟩
  subst hW4
  have O9 : Only (fun g => (Value.slice Ag G.length cg).ownBlock = some g) w4 W4 := Ho9
  obtain ⟨A7, c7, hv7⟩ := slice_of_own hown9
  subst hv7
  have hx9 := (O9.block b hz5 hgb).trans hx4
  have hgm := H3.out.gm
  have HM9 := Lib.hid (HM4.out.only O9 hgm)
  have hls9 := Lib.hid (own_only hls4.out O9 (fun g hg e => H3.out.ap g e hg))
  have z9 := O9.size
  have q1 := blk_cell hx9 1
  have f1 := blk_free hx9 1
  have Hat9 := Lib.hid hat9
  have Hown9 := Lib.hid hown9
  have HO9 := Lib.hid O9
  obtain ⟨gl, cl, hvl, hgl, hgl2, hcl, hclm⟩ := own_open hls9.out (by omega)
  unfold maxLen at hclm
  subst hvl
  have hx10 := heap_setCell_same W4 b 1 _ _ (.slice A7 (G.length + 1) c7) hx9
  have hbl := H3.out.lb'
  have hls10 := Lib.hid (own_only hls9.out (Only.grown (E := fun g => g = b) (set_grown W4 b 1 (.slice A7 (G.length + 1) c7)) (fun k hk => (Option.some.inj hk).symm)) (fun g hg e => hbl (by rw [hg, e])))
  have z10 : (W4.setCell ⟨b, 1, none⟩ (.slice A7 (G.length + 1) c7)).heap.size = W4.heap.size := by simp
  clear Ho9 hown9 hat9 O9 hx4 hg5 E6 E7 hO hls4 hgs4 HM4
  go_wp2_with fail
  obtain ⟨W5, hW5⟩ : ∃ W5, W5 = W4.setCell ⟨b, 1, none⟩ (.slice A7 (G.length + 1) c7) := ⟨_, rfl⟩
  rw [← hW5] at hx10 hls10 z10 ⊢
  clear q1 f1
  obtain ⟨n, hn⟩ : ∃ n, n = F + G.length := ⟨_, rfl⟩
  rw [← hn] at hls10 hbl hx10 hcl
  have hqx : (x : Int).tdiv 2 = ((x / 2 : Nat) : Int) := by rw [Int.tdiv_eq_ediv_of_nonneg (by omega)]; omega
  have hqy : (y : Int).tdiv 2 = ((y / 2 : Nat) : Int) := by rw [Int.tdiv_eq_ediv_of_nonneg (by omega)]; omega
  have hix : x / 2 < n := by omega
  have hiy : y / 2 < n := by omega
  have hwx := IntWalk.i64_in ((x / 2 : Nat) : Int) (by omega)
  have hwy := IntWalk.i64_in ((y / 2 : Nat) : Int) (by omega)
  generalize x / 2 = X at *
  generalize y / 2 = Z at *
  have hLl := H3.out.ll
  rw [← hn] at hLl
  obtain ⟨u1, hu1⟩ : ∃ u1, L[X]? = some u1 := ⟨_, List.getElem?_eq_getElem (by omega)⟩
  obtain ⟨u2, hu2⟩ : ∃ u2, L[Z]? = some u2 := ⟨_, List.getElem?_eq_getElem (by omega)⟩
  have hb1 := H3.out.lb u1 (List.mem_of_getElem? hu1)
  have hb2 := H3.out.lb u2 (List.mem_of_getElem? hu2)
  have hcu1 : (ints L)[X]? = some (.int .i64 u1) := by unfold ints; rw [List.getElem?_map, hu1]; rfl
  have hcu2 : (ints L)[Z]? = some (.int .i64 u2) := by unfold ints; rw [List.getElem?_map, hu2]; rfl
  obtain ⟨U, hU⟩ : ∃ U, (if u1 < u2 then u2 else u1) = U := ⟨_, rfl⟩
  have hUb : 0 ≤ U ∧ U ≤ G.length := by rw [← hU]; split <;> omega
  have hw3 := IntWalk.i64_in (1 + U) (by omega)
  obtain ⟨cs2, hcs2⟩ : ∃ cs2, ints L = cs2 := ⟨_, rfl⟩
  rw [hcs2] at hls10 hcu1 hcu2
  have hz7 : b < W5.heap.size := by omega
  have hBW5 : B ≤ W5.heap.size := by omega
  have hn1 : n ≤ 20000 := by omega
  have Hn := Lib.hid hn
  have HLl := Lib.hid hLl
  have Hcs2 := Lib.hid hcs2
  clear hLl hu1 hu2 hn hcs2
  obtain ⟨i0, hi0, hz0, hz1, hz2⟩ := info_parts info_int
  have hO := fun ops a => appRS2_ok (Pg := Try.prog) (ops := ops) (a := a) (news := [.int .i64 (1 + U)]) (d := 24) (hls10.out)
  refine wp_region_rsl (appRS2 Try.prog _ W5 _ (B) 3 1 (Value.slice (some ⟨gl, 0, none⟩) n cl) (n) (cs2) [.int .i64 (1 + U)] 24) (hO _ _) (by kernel_rfl) (by kernel_rfl) (by kernel_rfl) 27 _ rfl rfl (by kernel_rfl) (show (24 : Nat) < 27 by decide) trivial hls10.out ?_
  refine rs_old (hO _ _) (.inl (Nat.ne_of_beq_eq_false rfl)) _ (.inl rfl) _ rfl rfl ?_
  refine rs_old (hO _ _) (.inl (Nat.ne_of_beq_eq_false rfl)) _ (.inl rfl) _ rfl rfl ?_
  apply rs_eq (hO _ _) (.inl (Nat.ne_of_beq_eq_false rfl))
  · intro ρ w' ho hK
    have ho : Only _ W5 w' := ho
    obtain ⟨h0, -⟩ := hK
    have h0' : ρ (.tmp 75) = _ := h0
    go_simp
    try exact rfl
  apply rs_eq (hO _ _) (.inl (Nat.ne_of_beq_eq_false rfl))
  · intro ρ w' ho hK
    have ho : Only _ W5 w' := ho
    obtain ⟨h0, -⟩ := hK
    have h0' : ρ (.tmp 76) = _ := h0
    go_simp
    try exact rfl
  apply rs_eq (hO _ _) (.inl (Nat.ne_of_beq_eq_false rfl))
  · intro ρ w' ho hK
    have ho : Only _ W5 w' := ho
    obtain ⟨h0, -⟩ := hK
    have h0' : ρ (.tmp 77) = _ := h0
    have q1 := cell_on ho (fun e => hbl e) hz7 (blk_cell hx10 2)
    go_simp
    try exact rfl
  refine rs_old (hO _ _) (.inl (Nat.ne_of_beq_eq_false rfl)) _ (.inl rfl) _ rfl rfl ?_
  apply rs_eq (hO _ _) (.inl (Nat.ne_of_beq_eq_false rfl))
  · intro ρ w' ho hK
    have ho : Only _ W5 w' := ho
    obtain ⟨h0, -⟩ := hK
    have h0' : ρ (.tmp 79) = _ := h0
    go_simp
    try exact rfl
  apply rs_eq (hO _ _) (.inl (Nat.ne_of_beq_eq_false rfl))
  · intro ρ w' ho hK
    have ho : Only _ W5 w' := ho
    obtain ⟨h0, -⟩ := hK
    have h0' : ρ (.tmp 80) = _ := h0
    go_simp
    try exact rfl
  apply rs_eq (hO _ _) (.inl (Nat.ne_of_beq_eq_false rfl))
  · intro ρ w' ho hK
    have ho : Only _ W5 w' := ho
    obtain ⟨h0, -⟩ := hK
    have h0' : ρ (.tmp 81) = _ := h0
    have q1 := cell_on ho (fun e => hbl e) hz7 (blk_cell hx10 2)
    go_simp
    try exact rfl
  refine rs_old (hO _ _) (.inl (Nat.ne_of_beq_eq_false rfl)) _ (.inl rfl) _ rfl rfl ?_
  apply rs_eq (hO _ _) (.inl (Nat.ne_of_beq_eq_false rfl))
  · intro ρ w' ho hK
    have ho : Only _ W5 w' := ho
    obtain ⟨h0, h1, -⟩ := hK
    have h0' : ρ (.tmp 83) = _ := h0
    have h1' : ρ (.const (Value.int IntKind.i64 2)) = (Value.int IntKind.i64 2) := h1
    go_simp
    try exact rfl
  apply rs_eq (hO _ _) (.inl (Nat.ne_of_beq_eq_false rfl))
  · intro ρ w' ho hK
    have ho : Only _ W5 w' := ho
    obtain ⟨h0, h1, -⟩ := hK
    have h0' : ρ (.tmp 82) = _ := h0
    have h1' : ρ (.tmp 84) = _ := h1
    go_simp
    try exact rfl
  refine rs_eq_before (hO _ _) (Nat.ne_of_beq_eq_false rfl) (by kernel_rfl) (c := .int .i64 u1) (fun ρ w' ho hJ hK => by
    obtain ⟨h0, -⟩ := hK
    have h0' : ρ (.tmp 85) = _ := h0
    have hJ' : w'.ownsRow B 3 1 (Value.slice (some ⟨gl, 0, none⟩) n cl) n cs2 := hJ
    obtain ⟨u, e1, e2, e3⟩ := own_slot hJ' (j := X) (by omega)
    rw [hcu1] at e1
    cases e1
    go_simp) ?_
  refine rs_old (hO _ _) (.inl (Nat.ne_of_beq_eq_false rfl)) _ (.inl rfl) _ rfl rfl ?_
  apply rs_eq (hO _ _) (.inl (Nat.ne_of_beq_eq_false rfl))
  · intro ρ w' ho hK
    have ho : Only _ W5 w' := ho
    obtain ⟨h0, -⟩ := hK
    have h0' : ρ (.tmp 87) = _ := h0
    go_simp
    try exact rfl
  apply rs_eq (hO _ _) (.inl (Nat.ne_of_beq_eq_false rfl))
  · intro ρ w' ho hK
    have ho : Only _ W5 w' := ho
    obtain ⟨h0, -⟩ := hK
    have h0' : ρ (.tmp 88) = _ := h0
    go_simp
    try exact rfl
  apply rs_eq (hO _ _) (.inl (Nat.ne_of_beq_eq_false rfl))
  · intro ρ w' ho hK
    have ho : Only _ W5 w' := ho
    obtain ⟨h0, -⟩ := hK
    have h0' : ρ (.tmp 89) = _ := h0
    have q1 := cell_on ho (fun e => hbl e) hz7 (blk_cell hx10 2)
    go_simp
    try exact rfl
  refine rs_old (hO _ _) (.inl (Nat.ne_of_beq_eq_false rfl)) _ (.inl rfl) _ rfl rfl ?_
  apply rs_eq (hO _ _) (.inl (Nat.ne_of_beq_eq_false rfl))
  · intro ρ w' ho hK
    have ho : Only _ W5 w' := ho
    obtain ⟨h0, h1, -⟩ := hK
    have h0' : ρ (.tmp 91) = _ := h0
    have h1' : ρ (.const (Value.int IntKind.i64 2)) = (Value.int IntKind.i64 2) := h1
    go_simp
    try exact rfl
  apply rs_eq (hO _ _) (.inl (Nat.ne_of_beq_eq_false rfl))
  · intro ρ w' ho hK
    have ho : Only _ W5 w' := ho
    obtain ⟨h0, h1, -⟩ := hK
    have h0' : ρ (.tmp 90) = _ := h0
    have h1' : ρ (.tmp 92) = _ := h1
    go_simp
    try exact rfl
  refine rs_eq_before (hO _ _) (Nat.ne_of_beq_eq_false rfl) (by kernel_rfl) (c := .int .i64 u2) (fun ρ w' ho hJ hK => by
    obtain ⟨h0, -⟩ := hK
    have h0' : ρ (.tmp 93) = _ := h0
    have hJ' : w'.ownsRow B 3 1 (Value.slice (some ⟨gl, 0, none⟩) n cl) n cs2 := hJ
    obtain ⟨u, e1, e2, e3⟩ := own_slot hJ' (j := Z) (by omega)
    rw [hcu2] at e1
    cases e1
    go_simp) ?_
  apply rs_eq (hO _ _) (.inl (Nat.ne_of_beq_eq_false rfl))
  · intro ρ w' ho hK
    have ho : Only _ W5 w' := ho
    obtain ⟨h0, h1, -⟩ := hK
    have h0' : ρ (.tmp 86) = _ := h0
    have h1' : ρ (.tmp 94) = _ := h1
    go_simp
    try exact rfl
  apply rs_eq (hO _ _) (.inl (Nat.ne_of_beq_eq_false rfl))
  · intro ρ w' ho hK
    have ho : Only _ W5 w' := ho
    obtain ⟨h0, h1, -⟩ := hK
    have h0' : ρ (.const (Value.int IntKind.i64 1)) = (Value.int IntKind.i64 1) := h0
    have h1' : ρ (.tmp 95) = _ := h1
    go_simp
    try exact rfl
  refine rs_build1 (hO _ _) (.inl (Nat.ne_of_beq_eq_false rfl)) 1 [.int .i64 (1 + U)] 3 rfl (fun ρ w' ho hK => by
    have ho : Only _ W5 w' := ho
    obtain ⟨h0, -⟩ := hK
    have h0' : ρ (.tmp 96) = _ := h0
    go_simp) ?_
  refine rs_append2 rfl (B) 3 22 1 (Value.slice (some ⟨gl, 0, none⟩) n cl) (n) (cs2) _ rfl rfl (fun g hg => hg) (show B ≤ W5.heap.size by omega) _ _ rfl _ _ rfl rfl rfl rfl i0 _ 8 Try.underlying22 hi0 hz0 hz1 hz2 rfl (by decide) (by omega) (by decide) (by simp [Value.oneCell']) ?_
  apply rs_eq (hO _ _) (.inl (Nat.ne_of_beq_eq_false rfl))
  · intro ρ w' ho hK
    have ho : Only _ W5 w' := ho
    obtain ⟨h0, -⟩ := hK
    have h0' : ρ (.tmp 74) = _ := h0
    go_simp
    try exact rfl
  apply rs_eq (hO _ _) (.inl (Nat.ne_of_beq_eq_false rfl))
  · intro ρ w' ho hK
    have ho : Only _ W5 w' := ho
    obtain ⟨h0, -⟩ := hK
    have h0' : ρ (.tmp 99) = _ := h0
    go_simp
    try exact rfl
  intro f w9 k9 hk9 hI9 ht9 hcp9
  have E0 : f 0 = _ := ht9 0 (Nat.le_of_ble_eq_true rfl)
  conv at E0 => rhs; whnf
  have E1 : f 1 = _ := ht9 1 (Nat.le_of_ble_eq_true rfl)
  conv at E1 => rhs; whnf
  have E2 : f 2 = _ := ht9 2 (Nat.le_of_ble_eq_true rfl)
  have E3 : f 3 = _ := ht9 3 (Nat.le_of_ble_eq_true rfl)
  have E4 : f 4 = _ := ht9 4 (Nat.le_of_ble_eq_true rfl)
  have E5 : f 5 = _ := ht9 5 (Nat.le_of_ble_eq_true rfl)
  conv at E5 => rhs; whnf
  have E6 : f 6 = _ := ht9 6 (Nat.le_of_ble_eq_true rfl)
  have E7 : f 7 = _ := ht9 7 (Nat.le_of_ble_eq_true rfl)
  have E8 : f 8 = _ := ht9 8 (Nat.le_of_ble_eq_true rfl)
  have E9 : f 9 = _ := ht9 9 (Nat.le_of_ble_eq_true rfl)
  conv at E9 => rhs; whnf
  have E10 : f 10 = _ := ht9 10 (Nat.le_of_ble_eq_true rfl)
  have E11 : f 11 = _ := ht9 11 (Nat.le_of_ble_eq_true rfl)
  have E12 : f 12 = _ := ht9 12 (Nat.le_of_ble_eq_true rfl)
  have E13 : f 13 = _ := ht9 13 (Nat.le_of_ble_eq_true rfl)
  conv at E13 => rhs; whnf
  have E14 : f 14 = _ := ht9 14 (Nat.le_of_ble_eq_true rfl)
  have E15 : f 15 = _ := ht9 15 (Nat.le_of_ble_eq_true rfl)
  have E16 : f 16 = _ := ht9 16 (Nat.le_of_ble_eq_true rfl)
  have E17 : f 17 = _ := ht9 17 (Nat.le_of_ble_eq_true rfl)
  conv at E17 => rhs; whnf
  have E18 : f 18 = _ := ht9 18 (Nat.le_of_ble_eq_true rfl)
  have E19 : f 19 = _ := ht9 19 (Nat.le_of_ble_eq_true rfl)
  have E20 : f 20 = _ := ht9 20 (Nat.le_of_ble_eq_true rfl)
  have E21 : f 21 = _ := ht9 21 (Nat.le_of_ble_eq_true rfl)
  have E22 : f 22 = _ := ht9 22 (Nat.le_of_ble_eq_true rfl)
  have E23 : (TNew _ 1 1 [.int .i64 (1 + U)]) w9 (f 23) := ht9 23 (Nat.le_of_ble_eq_true rfl)
  have E24 : (TAny) w9 (f 24) := ht9 24 (Nat.le_of_ble_eq_true rfl)
  have E25 : f 25 = _ := ht9 25 (Nat.le_of_ble_eq_true rfl)
  have E26 : f 26 = _ := ht9 26 (Nat.le_of_ble_eq_true rfl)
  have Ho9 : Only _ W5 w9 := hI9.2.1
  have hown9 : w9.ownsRow (B) 3 1 (f 24) (n + 1) (cs2 ++ [.int .i64 (1 + U)]) := hI9.2.2.1
  have hat9 : ∀ g, (f 24).ownBlock = some g → (Value.slice (some ⟨gl, 0, none⟩) n cl).ownBlock = some g ∨ W5.heap.size ≤ g := hI9.2.2.2
  simp only [putAll, E0, E1, E2, E3, E4, E5, E6, E7, E8, E9, E10, E11, E12, E13, E14, E15, E16, E17, E18, E19, E20, E21, E22, E25, E26, Nat.zero_add, Nat.reduceAdd, Act.put, List.setIfInBounds_toArray, List.set_cons_succ, List.set_cons_zero, List.take, List.getElem_toArray, List.getElem_cons_succ, List.getElem_cons_zero]
  clear E0 E1 E2 E3 E4 E5 E6 E7 E8 E9 E10 E11 E12 E13 E14 E15 E16 E17 E18 E19 E20 E21 E22 E25 E26
  clear hI9 ht9 hcp9 hk9
  generalize f 23 = r23 at *
  generalize f 24 = r24 at *
  obtain ⟨W6, hW6⟩ : ∃ W, W = w9 := ⟨_, rfl⟩
  subst hW6
  have O10 : Only (fun g => (Value.slice (some ⟨gl, 0, none⟩) n cl).ownBlock = some g) W5 W6 := Ho9
  obtain ⟨A8, c8, hv8⟩ := slice_of_own hown9
  subst hv8
  have hx11 := (O10.block b hz7 hbl).trans hx10
  have q2 := blk_cell hx11 2
  have f2 := blk_free hx11 2
  have Hat10 := Lib.hid hat9
  have Hown10 := Lib.hid hown9
  have HO10 := Lib.hid O10
  clear Ho9 hown9 hat9 O10 E23 E24 hO hcu1 hcu2 hU
  go_wp2_with fail
  go_ret
  refine ⟨ret_int (by omega), fun g => E g ∨ (Value.slice A7 (G.length + 1) c7).ownBlock = some g ∨ (Value.slice A8 (n + 1) c8).ownBlock = some g, ?_, ?_, fun g hg => .inl hg, ?_⟩
  · exact ⟨m, .slice A7 (G.length + 1) c7, .slice A8 (n + 1) c8, L ++ [1 + U], bld_close HN.out H3.out (by omega) O4.out HM9.out HO9.out Hown9.out Hat9.out hW5 HO10.out Hown10.out Hat10.out hx11 Hk.out hV2 Hn.out.symm HLl.out hUb hcs Hcs2.out rfl⟩
  · have e4 := O4.out.size
    have e5 := HO10.out.size
    have eN : N ≤ W3.heap.size := by omega
    rintro g (hg | hg | hg)
    · exact .inl hg
    · rcases Hat9.out g hg with h | h
      · exact .inl (H3.out.eg g h)
      · right; omega
    · rcases Hat10.out g hg with h | h
      · exact .inl (H3.out.el g h)
      · right; omega
  · have b0 : Below N w W3 := HB.out.trans (B3.out.mono (by omega))
    have o1 : Only E w W3 := Only.grown (r := none) ⟨b0.os, b0.tape, b0.output, b0.size, fun k hk _ => b0.block k (by omega)⟩ (fun k hk => by cases hk)
    have o2 : Only E W3 w4 := O4.out.mono fun g hg => hg ▸ H3.out.em
    have o3 : Only E w4 W4 := HO9.out.mono fun g hg => H3.out.eg g hg
    have o4 : Only E W4 W5 := hW5 ▸ Only.grown (set_grown W4 b 1 _) (fun k hk => (Option.some.inj hk) ▸ H3.out.eb)
    have o5 : Only E W5 W6 := HO10.out.mono fun g hg => H3.out.el g (by rw [Hn.out] at hg; exact hg)
    exact ((((o1.trans o2).trans o3).trans o4).trans o5).trans (Only.grown (set_grown W6 b 2 _) (fun k hk => (Option.some.inj hk) ▸ H3.out.eb))
end Go.Proofs.Ytlbfejdbfhgifaa

namespace Go.Proofs.Ytlbfejdbfhgifaa
open Go.RowKit Go.Maps
set_option maxRecDepth 100000
/-! and: the operands in the other order. (gen/bldsw.py prints this text.) -/
theorem and_new_sw {B b F : Nat} {G : List (Nat × Nat)} {E : Nat → Prop} {m : Nat} {vg vl : Value} {L : List Int} (x y : Nat) (w : World) (h : Bld B b F G E m vg vl L w) (hF : F ≤ 300) (hG : G.length ≤ 10000) (hx : x < 2 * (F + G.length)) (hy : y < 2 * (F + G.length)) (hs : x < y) (h1 : x ≠ 0) (h2 : x ≠ y ^^^ 1) (h3 : x ≠ 1) (h4 : x ≠ y) (hk : Cir.knownG F G x y = none) :
    Calls Try.prog 74 #[.pointer (some ⟨b, 0, none⟩), .int .i64 (y : Int), .int .i64 (x : Int)] w
      fun e w' => e = .returned (.int .i64 ((2 * (F + G.length) : Nat) : Int)) ∧ BldNext B b F ((x, y) :: G) E w w' := by
  have hxor : bits .xor .i64 (y : Int) 1 = ((y ^^^ 1 : Nat) : Int) := i64_xor_nat y 1 (by omega) (by omega)
  have d1 : decide (x < y) = true := decide_eq_true hs
  have e1 : ((x : Int) == 0) = false := beq_ff (b := 0) h1
  have e2 : ((x : Int) == ((y ^^^ 1 : Nat) : Int)) = false := beq_ff h2
  have e3 : ((x : Int) == 1) = false := beq_ff (b := 1) h3
  have e4 : ((x : Int) == (y : Int)) = false := beq_ff h4
  generalize y ^^^ 1 = Y at *
  clear h1 h2 h3 h4 hs
  have hbn := bel_new w (.cells #[.int .i64 (x : Int), .int .i64 (y : Int)] 55)
  have hg := heap_alloc_new w (.cells #[.int .i64 (x : Int), .int .i64 (y : Int)] 55)
  have hzW : (w.alloc (.cells #[.int .i64 (x : Int), .int .i64 (y : Int)] 55)).heap.size = w.heap.size + 1 := by simp
  have H := Lib.hid (h.below hbn)
  have HB := Lib.hid hbn
  have Hk := Lib.hid hk
  have hbW : b < w.heap.size := (h.lo b h.eb).2
  obtain ⟨Ag, cg, hvg⟩ := slice_of_own h.gs
  have hw1 := IntWalk.i64_in ((F : Int) + (G.length : Int)) (by omega)
  have hw2 := IntWalk.i64_in (2 * ((F : Int) + (G.length : Int))) (by omega)
  have HN : Hid (∀ g, E g → g < w.heap.size) := Lib.hid fun g hg => (h.lo g hg).2
  clear h hbn hk
  go_enter Try.func74, Try.ntmps74
  go_wp2_with fail
  generalize w.alloc (.cells #[.int .i64 (x : Int), .int .i64 (y : Int)] 55) = W at *
  generalize hN : w.heap.size = N at *
  have c0 := gw_cell (blk_cell H.out.box 0) (by show b < W.heap.size; omega)
  have c1 := gw_cell (blk_cell H.out.box 1) (by show b < W.heap.size; omega)
  have c3 := gw_cell (blk_cell H.out.box 3) (by show b < W.heap.size; omega)
  have k0 := gw_cell (blk_cell hg 0) (by show N < W.heap.size; omega)
  have k1 := gw_cell (blk_cell hg 1) (by show N < W.heap.size; omega)
  have hlk : ∀ n : GW W, (Instr.lookup 90 (.map (some m)) (.agg #[.int .i64 (x : Int), .int .i64 (y : Int)]) true).run Try.prog (gw n) = .ok (.tuple #[.int .i64 0, .bool false]) (gw n) := fun n => by
    have := (H.out.map.below (gw_below n)).look (x := x) (y := y) (by omega) (by omega)
    rw [Hk.out] at this
    exact this
  refine wp_region_grow (by kernel_rfl) (by kernel_rfl) ?_
  repeat (go_big_quiet_step ((fail)))
  refine wpQuiet_nil ?_
  intro _ hw'
  obtain ⟨nq, hw''⟩ := hw'
  subst hw''
  have hgq := gw_below nq
  generalize gw nq = wq at *
  clear nq
  have B1 := Lib.hid hgq
  have H1 := Lib.hid (H.out.below hgq)
  have hg1 := (hgq.block N (by omega)).trans hg
  have z1 := hgq.size
  clear H hlk c0 c1 c3 k0 k1 hgq hg
  subst hvg
  obtain ⟨W1, hW1⟩ : ∃ W1, W1 = wq := ⟨_, rfl⟩
  subst hW1
  go_wp2_with fail
  have c0 := gw_cell (blk_cell H1.out.box 0) (by show b < W1.heap.size; omega)
  have c1 := gw_cell (blk_cell H1.out.box 1) (by show b < W1.heap.size; omega)
  refine wp_region_grow (by kernel_rfl) (by kernel_rfl) ?_
  repeat (go_big_quiet_step ((fail)))
  refine wpQuiet_nil ?_
  intro _ hw'
  obtain ⟨nq, hw''⟩ := hw'
  subst hw''
  have hgq := gw_below nq
  generalize gw nq = wq at *
  clear nq
  have B2 := Lib.hid (B1.out.trans (hgq.mono B1.out.size))
  have H2 := Lib.hid (H1.out.below hgq)
  have hg2 := (hgq.block N (by omega)).trans hg1
  have z2 := hgq.size
  clear H1 c0 c1 hgq hg1 B1
  obtain ⟨W2, hW2⟩ : ∃ W2, W2 = wq := ⟨_, rfl⟩
  subst hW2
  obtain ⟨V, hV⟩ : ∃ V : Nat, 2 * ((F : Int) + (G.length : Int)) = (V : Int) := ⟨2 * (F + G.length), by omega⟩
  have hV2 : V = 2 * (F + G.length) := by omega
  rw [hV]
  clear hw1 hw2 hV
  have hz2 : b < W2.heap.size := by omega
  have hz3 : N < W2.heap.size := by omega
  go_wp2_with fail
  refine wp_region_rsl (quietRS Try.prog _ W2 _) quietRS_ok (by kernel_rfl) (by kernel_rfl) (by kernel_rfl) 6 _ rfl rfl (by kernel_rfl) (show (0 : Nat) < 6 by decide) trivial trivial ?_
  refine rs_old quietRS_ok quiet_any _ (.inl rfl) _ rfl rfl ?_
  apply rs_eq quietRS_ok quiet_any
  · intro ρ w' ho hK
    have ho : Only _ W2 w' := ho
    obtain ⟨h0, -⟩ := hK
    have h0' : ρ (.tmp 58) = _ := h0
    go_simp
    try exact rfl
  apply rs_eq quietRS_ok quiet_any
  · intro ρ w' ho hK
    have ho : Only _ W2 w' := ho
    obtain ⟨h0, -⟩ := hK
    have h0' : ρ (.tmp 59) = _ := h0
    go_simp
    try exact rfl
  apply rs_eq quietRS_ok quiet_any
  · intro ρ w' ho hK
    have ho : Only _ W2 w' := ho
    obtain ⟨h0, -⟩ := hK
    have h0' : ρ (.tmp 60) = _ := h0
    have hb := only_below ho
    have q3 := (hb.cell (p := ⟨b, 3, none⟩) hz2).trans (blk_cell H2.out.box 3)
    have k0 := (hb.cell (p := ⟨N, 0, none⟩) hz3).trans (blk_cell hg2 0)
    have k1 := (hb.cell (p := ⟨N, 1, none⟩) hz3).trans (blk_cell hg2 1)
    go_simp
    try exact rfl
  apply rs_eq quietRS_ok quiet_any
  · intro ρ w' ho hK
    have ho : Only _ W2 w' := ho
    obtain ⟨h0, -⟩ := hK
    have h0' : ρ (.tmp 7) = _ := h0
    have hb := only_below ho
    have q3 := (hb.cell (p := ⟨b, 3, none⟩) hz2).trans (blk_cell H2.out.box 3)
    have k0 := (hb.cell (p := ⟨N, 0, none⟩) hz3).trans (blk_cell hg2 0)
    have k1 := (hb.cell (p := ⟨N, 1, none⟩) hz3).trans (blk_cell hg2 1)
    go_simp
    try exact rfl
  refine rs_old quietRS_ok quiet_any _ (.inl rfl) _ rfl rfl ?_
  intro f w9 k9 hk9 hI9 ht9 hcp9
  have E0 : f 0 = _ := ht9 0 (Nat.le_of_ble_eq_true rfl)
  conv at E0 => rhs; whnf
  have E1 : f 1 = _ := ht9 1 (Nat.le_of_ble_eq_true rfl)
  have E2 : f 2 = _ := ht9 2 (Nat.le_of_ble_eq_true rfl)
  have E3 : f 3 = _ := ht9 3 (Nat.le_of_ble_eq_true rfl)
  have E4 : f 4 = _ := ht9 4 (Nat.le_of_ble_eq_true rfl)
  have E5 : f 5 = _ := ht9 5 (Nat.le_of_ble_eq_true rfl)
  conv at E5 => rhs; whnf
  have Ho9 : Only _ W2 w9 := hI9.2.1
  simp only [putAll, E0, E1, E2, E3, E4, E5, Nat.zero_add, Nat.reduceAdd, Act.put, List.setIfInBounds_toArray, List.set_cons_succ, List.set_cons_zero, List.take, List.getElem_toArray, List.getElem_cons_succ, List.getElem_cons_zero]
  clear E0 E1 E2 E3 E4 E5
  clear hI9 ht9 hcp9 hk9
  obtain ⟨W3, hW3⟩ : ∃ W, W = w9 := ⟨_, rfl⟩
  subst hW3
  have hb9 := only_below Ho9
  have B3 := Lib.hid (B2.out.trans (hb9.mono B2.out.size))
  have H3 := Lib.hid (H2.out.below hb9)
  have hg3 := (hb9.block N hz3).trans hg2
  have z3 := hb9.size
  clear Ho9 hb9 hg2 H2 B2
  refine wpList_add_gate W3 rfl (.tmp 61) (.tmp 62) (.tmp 63) rfl m G.length _ rfl H3.out.map (by omega) x y V (by omega) (by omega) (by omega) rfl rfl ?_
  intro w4 hm4 hg4
  have HM4 := Lib.hid hm4
  have z4 := hg4.size
  have O4 := Lib.hid (Only.grown (E := fun g => g = m) hg4 (fun k hk => (Option.some.inj hk).symm))
  have hx4 := (O4.out.block b (by omega) H3.out.bm).trans H3.out.box
  have hgn : N ≠ m := fun e => by have := H3.out.lo m H3.out.em; have := HN.out m H3.out.em; omega
  have hg5 := (O4.out.block N (by omega) hgn).trans hg3
  have hgs4 := Lib.hid (own_only H3.out.gs O4.out (fun g hg e => H3.out.gm (by rw [hg, e])))
  have hls4 := Lib.hid (own_only H3.out.ls O4.out (fun g hg e => H3.out.lm (by rw [hg, e])))
  have hz5 : b < w4.heap.size := by omega
  have hz6 : N < w4.heap.size := by omega
  have hgb := H3.out.gb
  have hgN : ∀ g, (Value.slice Ag G.length cg).ownBlock = some g → g < N := fun g hg => HN.out g (H3.out.eg g hg)
  have hBW : B ≤ w4.heap.size := by have := (H3.out.lo b H3.out.eb).1; omega
  clear hm4 hg4 hg3
  go_wp2_with fail
  obtain ⟨cs, hcs⟩ : ∃ cs, cubes (Cir.gatesOf G) = cs := ⟨_, rfl⟩
  rw [hcs] at hgs4
  obtain ⟨i0, hi0, hz0, hz1, hz2⟩ := info_parts info_gate
  have hO := fun ops a => appRS2_ok (Pg := Try.prog) (ops := ops) (a := a) (news := [.int .i64 (x : Int), .int .i64 (y : Int)]) (d := 7) (hgs4.out)
  refine wp_region_rsl (appRS2 Try.prog _ w4 _ (B) 55 2 (Value.slice Ag G.length cg) (G.length) (cs) [.int .i64 (x : Int), .int .i64 (y : Int)] 7) (hO _ _) (by kernel_rfl) (by kernel_rfl) (by kernel_rfl) 10 _ rfl rfl (by kernel_rfl) (show (7 : Nat) < 10 by decide) trivial hgs4.out ?_
  refine rs_old (hO _ _) (.inl (Nat.ne_of_beq_eq_false rfl)) _ (.inl rfl) _ rfl rfl ?_
  refine rs_old (hO _ _) (.inl (Nat.ne_of_beq_eq_false rfl)) _ (.inl rfl) _ rfl rfl ?_
  apply rs_eq (hO _ _) (.inl (Nat.ne_of_beq_eq_false rfl))
  · intro ρ w' ho hK
    have ho : Only _ w4 w' := ho
    obtain ⟨h0, -⟩ := hK
    have h0' : ρ (.tmp 65) = _ := h0
    go_simp
    try exact rfl
  apply rs_eq (hO _ _) (.inl (Nat.ne_of_beq_eq_false rfl))
  · intro ρ w' ho hK
    have ho : Only _ w4 w' := ho
    obtain ⟨h0, -⟩ := hK
    have h0' : ρ (.tmp 66) = _ := h0
    go_simp
    try exact rfl
  apply rs_eq (hO _ _) (.inl (Nat.ne_of_beq_eq_false rfl))
  · intro ρ w' ho hK
    have ho : Only _ w4 w' := ho
    obtain ⟨h0, -⟩ := hK
    have h0' : ρ (.tmp 67) = _ := h0
    have q1 := cell_on ho (fun e => hgb e) hz5 (blk_cell hx4 1)
    have k0 := cell_on ho (fun e => absurd (hgN N e) (Nat.lt_irrefl _)) hz6 (blk_cell hg5 0)
    have k1 := cell_on ho (fun e => absurd (hgN N e) (Nat.lt_irrefl _)) hz6 (blk_cell hg5 1)
    go_simp
    try exact rfl
  apply rs_eq (hO _ _) (.inl (Nat.ne_of_beq_eq_false rfl))
  · intro ρ w' ho hK
    have ho : Only _ w4 w' := ho
    obtain ⟨h0, -⟩ := hK
    have h0' : ρ (.tmp 7) = _ := h0
    have q1 := cell_on ho (fun e => hgb e) hz5 (blk_cell hx4 1)
    have k0 := cell_on ho (fun e => absurd (hgN N e) (Nat.lt_irrefl _)) hz6 (blk_cell hg5 0)
    have k1 := cell_on ho (fun e => absurd (hgN N e) (Nat.lt_irrefl _)) hz6 (blk_cell hg5 1)
    go_simp
    try exact rfl
  refine rs_build1 (hO _ _) (.inl (Nat.ne_of_beq_eq_false rfl)) 2 [.int .i64 (x : Int), .int .i64 (y : Int)] 55 rfl (fun ρ w' ho hK => by
    have ho : Only _ w4 w' := ho
    obtain ⟨h0, -⟩ := hK
    have h0' : ρ (.tmp 69) = _ := h0
    go_simp) ?_
  refine rs_append2 rfl (B) 55 29 2 (Value.slice Ag G.length cg) (G.length) (cs) _ rfl rfl (fun g hg => hg) (show B ≤ w4.heap.size by omega) _ _ rfl _ _ rfl rfl rfl rfl i0 _ 16 Try.underlying29 hi0 hz0 hz1 hz2 rfl (by decide) (by omega) (by decide) (by simp [Value.oneCell']) ?_
  apply rs_eq (hO _ _) (.inl (Nat.ne_of_beq_eq_false rfl))
  · intro ρ w' ho hK
    have ho : Only _ w4 w' := ho
    obtain ⟨h0, -⟩ := hK
    have h0' : ρ (.tmp 64) = _ := h0
    go_simp
    try exact rfl
  apply rs_eq (hO _ _) (.inl (Nat.ne_of_beq_eq_false rfl))
  · intro ρ w' ho hK
    have ho : Only _ w4 w' := ho
    obtain ⟨h0, -⟩ := hK
    have h0' : ρ (.tmp 72) = _ := h0
    go_simp
    try exact rfl
  intro f w9 k9 hk9 hI9 ht9 hcp9
  have E0 : f 0 = _ := ht9 0 (Nat.le_of_ble_eq_true rfl)
  conv at E0 => rhs; whnf
  have E1 : f 1 = _ := ht9 1 (Nat.le_of_ble_eq_true rfl)
  conv at E1 => rhs; whnf
  have E2 : f 2 = _ := ht9 2 (Nat.le_of_ble_eq_true rfl)
  have E3 : f 3 = _ := ht9 3 (Nat.le_of_ble_eq_true rfl)
  have E4 : f 4 = _ := ht9 4 (Nat.le_of_ble_eq_true rfl)
  have E5 : f 5 = _ := ht9 5 (Nat.le_of_ble_eq_true rfl)
  have E6 : (TNew _ 2 1 [.int .i64 (x : Int), .int .i64 (y : Int)]) w9 (f 6) := ht9 6 (Nat.le_of_ble_eq_true rfl)
  have E7 : (TAny) w9 (f 7) := ht9 7 (Nat.le_of_ble_eq_true rfl)
  have E8 : f 8 = _ := ht9 8 (Nat.le_of_ble_eq_true rfl)
  have E9 : f 9 = _ := ht9 9 (Nat.le_of_ble_eq_true rfl)
  have Ho9 : Only _ w4 w9 := hI9.2.1
  have hown9 : w9.ownsRow (B) 55 2 (f 7) (G.length + 1) (cs ++ [.int .i64 (x : Int), .int .i64 (y : Int)]) := hI9.2.2.1
  have hat9 : ∀ g, (f 7).ownBlock = some g → (Value.slice Ag G.length cg).ownBlock = some g ∨ w4.heap.size ≤ g := hI9.2.2.2
  simp only [putAll, E0, E1, E2, E3, E4, E5, E8, E9, Nat.zero_add, Nat.reduceAdd, Act.put, List.setIfInBounds_toArray, List.set_cons_succ, List.set_cons_zero, List.take, List.getElem_toArray, List.getElem_cons_succ, List.getElem_cons_zero]
  clear E0 E1 E2 E3 E4 E5 E8 E9
  clear hI9 ht9 hcp9 hk9
  generalize f 6 = r6 at *
  generalize f 7 = r7 at *
  obtain ⟨W4, hW4⟩ : ∃ W, W = w9 := ⟨_, rfl⟩
  subst hW4
  have O9 : Only (fun g => (Value.slice Ag G.length cg).ownBlock = some g) w4 W4 := Ho9
  obtain ⟨A7, c7, hv7⟩ := slice_of_own hown9
  subst hv7
  have hx9 := (O9.block b hz5 hgb).trans hx4
  have hgm := H3.out.gm
  have HM9 := Lib.hid (HM4.out.only O9 hgm)
  have hls9 := Lib.hid (own_only hls4.out O9 (fun g hg e => H3.out.ap g e hg))
  have z9 := O9.size
  have q1 := blk_cell hx9 1
  have f1 := blk_free hx9 1
  have Hat9 := Lib.hid hat9
  have Hown9 := Lib.hid hown9
  have HO9 := Lib.hid O9
  obtain ⟨gl, cl, hvl, hgl, hgl2, hcl, hclm⟩ := own_open hls9.out (by omega)
  unfold maxLen at hclm
  subst hvl
  have hx10 := heap_setCell_same W4 b 1 _ _ (.slice A7 (G.length + 1) c7) hx9
  have hbl := H3.out.lb'
  have hls10 := Lib.hid (own_only hls9.out (Only.grown (E := fun g => g = b) (set_grown W4 b 1 (.slice A7 (G.length + 1) c7)) (fun k hk => (Option.some.inj hk).symm)) (fun g hg e => hbl (by rw [hg, e])))
  have z10 : (W4.setCell ⟨b, 1, none⟩ (.slice A7 (G.length + 1) c7)).heap.size = W4.heap.size := by simp
  clear Ho9 hown9 hat9 O9 hx4 hg5 E6 E7 hO hls4 hgs4 HM4
  go_wp2_with fail
  obtain ⟨W5, hW5⟩ : ∃ W5, W5 = W4.setCell ⟨b, 1, none⟩ (.slice A7 (G.length + 1) c7) := ⟨_, rfl⟩
  rw [← hW5] at hx10 hls10 z10 ⊢
  clear q1 f1
  obtain ⟨n, hn⟩ : ∃ n, n = F + G.length := ⟨_, rfl⟩
  rw [← hn] at hls10 hbl hx10 hcl
  have hqx : (x : Int).tdiv 2 = ((x / 2 : Nat) : Int) := by rw [Int.tdiv_eq_ediv_of_nonneg (by omega)]; omega
  have hqy : (y : Int).tdiv 2 = ((y / 2 : Nat) : Int) := by rw [Int.tdiv_eq_ediv_of_nonneg (by omega)]; omega
  have hix : x / 2 < n := by omega
  have hiy : y / 2 < n := by omega
  have hwx := IntWalk.i64_in ((x / 2 : Nat) : Int) (by omega)
  have hwy := IntWalk.i64_in ((y / 2 : Nat) : Int) (by omega)
  generalize x / 2 = X at *
  generalize y / 2 = Z at *
  have hLl := H3.out.ll
  rw [← hn] at hLl
  obtain ⟨u1, hu1⟩ : ∃ u1, L[X]? = some u1 := ⟨_, List.getElem?_eq_getElem (by omega)⟩
  obtain ⟨u2, hu2⟩ : ∃ u2, L[Z]? = some u2 := ⟨_, List.getElem?_eq_getElem (by omega)⟩
  have hb1 := H3.out.lb u1 (List.mem_of_getElem? hu1)
  have hb2 := H3.out.lb u2 (List.mem_of_getElem? hu2)
  have hcu1 : (ints L)[X]? = some (.int .i64 u1) := by unfold ints; rw [List.getElem?_map, hu1]; rfl
  have hcu2 : (ints L)[Z]? = some (.int .i64 u2) := by unfold ints; rw [List.getElem?_map, hu2]; rfl
  obtain ⟨U, hU⟩ : ∃ U, (if u1 < u2 then u2 else u1) = U := ⟨_, rfl⟩
  have hUb : 0 ≤ U ∧ U ≤ G.length := by rw [← hU]; split <;> omega
  have hw3 := IntWalk.i64_in (1 + U) (by omega)
  obtain ⟨cs2, hcs2⟩ : ∃ cs2, ints L = cs2 := ⟨_, rfl⟩
  rw [hcs2] at hls10 hcu1 hcu2
  have hz7 : b < W5.heap.size := by omega
  have hBW5 : B ≤ W5.heap.size := by omega
  have hn1 : n ≤ 20000 := by omega
  have Hn := Lib.hid hn
  have HLl := Lib.hid hLl
  have Hcs2 := Lib.hid hcs2
  clear hLl hu1 hu2 hn hcs2
  obtain ⟨i0, hi0, hz0, hz1, hz2⟩ := info_parts info_int
  have hO := fun ops a => appRS2_ok (Pg := Try.prog) (ops := ops) (a := a) (news := [.int .i64 (1 + U)]) (d := 24) (hls10.out)
  refine wp_region_rsl (appRS2 Try.prog _ W5 _ (B) 3 1 (Value.slice (some ⟨gl, 0, none⟩) n cl) (n) (cs2) [.int .i64 (1 + U)] 24) (hO _ _) (by kernel_rfl) (by kernel_rfl) (by kernel_rfl) 27 _ rfl rfl (by kernel_rfl) (show (24 : Nat) < 27 by decide) trivial hls10.out ?_
  refine rs_old (hO _ _) (.inl (Nat.ne_of_beq_eq_false rfl)) _ (.inl rfl) _ rfl rfl ?_
  refine rs_old (hO _ _) (.inl (Nat.ne_of_beq_eq_false rfl)) _ (.inl rfl) _ rfl rfl ?_
  apply rs_eq (hO _ _) (.inl (Nat.ne_of_beq_eq_false rfl))
  · intro ρ w' ho hK
    have ho : Only _ W5 w' := ho
    obtain ⟨h0, -⟩ := hK
    have h0' : ρ (.tmp 75) = _ := h0
    go_simp
    try exact rfl
  apply rs_eq (hO _ _) (.inl (Nat.ne_of_beq_eq_false rfl))
  · intro ρ w' ho hK
    have ho : Only _ W5 w' := ho
    obtain ⟨h0, -⟩ := hK
    have h0' : ρ (.tmp 76) = _ := h0
    go_simp
    try exact rfl
  apply rs_eq (hO _ _) (.inl (Nat.ne_of_beq_eq_false rfl))
  · intro ρ w' ho hK
    have ho : Only _ W5 w' := ho
    obtain ⟨h0, -⟩ := hK
    have h0' : ρ (.tmp 77) = _ := h0
    have q1 := cell_on ho (fun e => hbl e) hz7 (blk_cell hx10 2)
    go_simp
    try exact rfl
  refine rs_old (hO _ _) (.inl (Nat.ne_of_beq_eq_false rfl)) _ (.inl rfl) _ rfl rfl ?_
  apply rs_eq (hO _ _) (.inl (Nat.ne_of_beq_eq_false rfl))
  · intro ρ w' ho hK
    have ho : Only _ W5 w' := ho
    obtain ⟨h0, -⟩ := hK
    have h0' : ρ (.tmp 79) = _ := h0
    go_simp
    try exact rfl
  apply rs_eq (hO _ _) (.inl (Nat.ne_of_beq_eq_false rfl))
  · intro ρ w' ho hK
    have ho : Only _ W5 w' := ho
    obtain ⟨h0, -⟩ := hK
    have h0' : ρ (.tmp 80) = _ := h0
    go_simp
    try exact rfl
  apply rs_eq (hO _ _) (.inl (Nat.ne_of_beq_eq_false rfl))
  · intro ρ w' ho hK
    have ho : Only _ W5 w' := ho
    obtain ⟨h0, -⟩ := hK
    have h0' : ρ (.tmp 81) = _ := h0
    have q1 := cell_on ho (fun e => hbl e) hz7 (blk_cell hx10 2)
    go_simp
    try exact rfl
  refine rs_old (hO _ _) (.inl (Nat.ne_of_beq_eq_false rfl)) _ (.inl rfl) _ rfl rfl ?_
  apply rs_eq (hO _ _) (.inl (Nat.ne_of_beq_eq_false rfl))
  · intro ρ w' ho hK
    have ho : Only _ W5 w' := ho
    obtain ⟨h0, h1, -⟩ := hK
    have h0' : ρ (.tmp 83) = _ := h0
    have h1' : ρ (.const (Value.int IntKind.i64 2)) = (Value.int IntKind.i64 2) := h1
    go_simp
    try exact rfl
  apply rs_eq (hO _ _) (.inl (Nat.ne_of_beq_eq_false rfl))
  · intro ρ w' ho hK
    have ho : Only _ W5 w' := ho
    obtain ⟨h0, h1, -⟩ := hK
    have h0' : ρ (.tmp 82) = _ := h0
    have h1' : ρ (.tmp 84) = _ := h1
    go_simp
    try exact rfl
  refine rs_eq_before (hO _ _) (Nat.ne_of_beq_eq_false rfl) (by kernel_rfl) (c := .int .i64 u1) (fun ρ w' ho hJ hK => by
    obtain ⟨h0, -⟩ := hK
    have h0' : ρ (.tmp 85) = _ := h0
    have hJ' : w'.ownsRow B 3 1 (Value.slice (some ⟨gl, 0, none⟩) n cl) n cs2 := hJ
    obtain ⟨u, e1, e2, e3⟩ := own_slot hJ' (j := X) (by omega)
    rw [hcu1] at e1
    cases e1
    go_simp) ?_
  refine rs_old (hO _ _) (.inl (Nat.ne_of_beq_eq_false rfl)) _ (.inl rfl) _ rfl rfl ?_
  apply rs_eq (hO _ _) (.inl (Nat.ne_of_beq_eq_false rfl))
  · intro ρ w' ho hK
    have ho : Only _ W5 w' := ho
    obtain ⟨h0, -⟩ := hK
    have h0' : ρ (.tmp 87) = _ := h0
    go_simp
    try exact rfl
  apply rs_eq (hO _ _) (.inl (Nat.ne_of_beq_eq_false rfl))
  · intro ρ w' ho hK
    have ho : Only _ W5 w' := ho
    obtain ⟨h0, -⟩ := hK
    have h0' : ρ (.tmp 88) = _ := h0
    go_simp
    try exact rfl
  apply rs_eq (hO _ _) (.inl (Nat.ne_of_beq_eq_false rfl))
  · intro ρ w' ho hK
    have ho : Only _ W5 w' := ho
    obtain ⟨h0, -⟩ := hK
    have h0' : ρ (.tmp 89) = _ := h0
    have q1 := cell_on ho (fun e => hbl e) hz7 (blk_cell hx10 2)
    go_simp
    try exact rfl
  refine rs_old (hO _ _) (.inl (Nat.ne_of_beq_eq_false rfl)) _ (.inl rfl) _ rfl rfl ?_
  apply rs_eq (hO _ _) (.inl (Nat.ne_of_beq_eq_false rfl))
  · intro ρ w' ho hK
    have ho : Only _ W5 w' := ho
    obtain ⟨h0, h1, -⟩ := hK
    have h0' : ρ (.tmp 91) = _ := h0
    have h1' : ρ (.const (Value.int IntKind.i64 2)) = (Value.int IntKind.i64 2) := h1
    go_simp
    try exact rfl
  apply rs_eq (hO _ _) (.inl (Nat.ne_of_beq_eq_false rfl))
  · intro ρ w' ho hK
    have ho : Only _ W5 w' := ho
    obtain ⟨h0, h1, -⟩ := hK
    have h0' : ρ (.tmp 90) = _ := h0
    have h1' : ρ (.tmp 92) = _ := h1
    go_simp
    try exact rfl
  refine rs_eq_before (hO _ _) (Nat.ne_of_beq_eq_false rfl) (by kernel_rfl) (c := .int .i64 u2) (fun ρ w' ho hJ hK => by
    obtain ⟨h0, -⟩ := hK
    have h0' : ρ (.tmp 93) = _ := h0
    have hJ' : w'.ownsRow B 3 1 (Value.slice (some ⟨gl, 0, none⟩) n cl) n cs2 := hJ
    obtain ⟨u, e1, e2, e3⟩ := own_slot hJ' (j := Z) (by omega)
    rw [hcu2] at e1
    cases e1
    go_simp) ?_
  apply rs_eq (hO _ _) (.inl (Nat.ne_of_beq_eq_false rfl))
  · intro ρ w' ho hK
    have ho : Only _ W5 w' := ho
    obtain ⟨h0, h1, -⟩ := hK
    have h0' : ρ (.tmp 86) = _ := h0
    have h1' : ρ (.tmp 94) = _ := h1
    go_simp
    try exact rfl
  apply rs_eq (hO _ _) (.inl (Nat.ne_of_beq_eq_false rfl))
  · intro ρ w' ho hK
    have ho : Only _ W5 w' := ho
    obtain ⟨h0, h1, -⟩ := hK
    have h0' : ρ (.const (Value.int IntKind.i64 1)) = (Value.int IntKind.i64 1) := h0
    have h1' : ρ (.tmp 95) = _ := h1
    go_simp
    try exact rfl
  refine rs_build1 (hO _ _) (.inl (Nat.ne_of_beq_eq_false rfl)) 1 [.int .i64 (1 + U)] 3 rfl (fun ρ w' ho hK => by
    have ho : Only _ W5 w' := ho
    obtain ⟨h0, -⟩ := hK
    have h0' : ρ (.tmp 96) = _ := h0
    go_simp) ?_
  refine rs_append2 rfl (B) 3 22 1 (Value.slice (some ⟨gl, 0, none⟩) n cl) (n) (cs2) _ rfl rfl (fun g hg => hg) (show B ≤ W5.heap.size by omega) _ _ rfl _ _ rfl rfl rfl rfl i0 _ 8 Try.underlying22 hi0 hz0 hz1 hz2 rfl (by decide) (by omega) (by decide) (by simp [Value.oneCell']) ?_
  apply rs_eq (hO _ _) (.inl (Nat.ne_of_beq_eq_false rfl))
  · intro ρ w' ho hK
    have ho : Only _ W5 w' := ho
    obtain ⟨h0, -⟩ := hK
    have h0' : ρ (.tmp 74) = _ := h0
    go_simp
    try exact rfl
  apply rs_eq (hO _ _) (.inl (Nat.ne_of_beq_eq_false rfl))
  · intro ρ w' ho hK
    have ho : Only _ W5 w' := ho
    obtain ⟨h0, -⟩ := hK
    have h0' : ρ (.tmp 99) = _ := h0
    go_simp
    try exact rfl
  intro f w9 k9 hk9 hI9 ht9 hcp9
  have E0 : f 0 = _ := ht9 0 (Nat.le_of_ble_eq_true rfl)
  conv at E0 => rhs; whnf
  have E1 : f 1 = _ := ht9 1 (Nat.le_of_ble_eq_true rfl)
  conv at E1 => rhs; whnf
  have E2 : f 2 = _ := ht9 2 (Nat.le_of_ble_eq_true rfl)
  have E3 : f 3 = _ := ht9 3 (Nat.le_of_ble_eq_true rfl)
  have E4 : f 4 = _ := ht9 4 (Nat.le_of_ble_eq_true rfl)
  have E5 : f 5 = _ := ht9 5 (Nat.le_of_ble_eq_true rfl)
  conv at E5 => rhs; whnf
  have E6 : f 6 = _ := ht9 6 (Nat.le_of_ble_eq_true rfl)
  have E7 : f 7 = _ := ht9 7 (Nat.le_of_ble_eq_true rfl)
  have E8 : f 8 = _ := ht9 8 (Nat.le_of_ble_eq_true rfl)
  have E9 : f 9 = _ := ht9 9 (Nat.le_of_ble_eq_true rfl)
  conv at E9 => rhs; whnf
  have E10 : f 10 = _ := ht9 10 (Nat.le_of_ble_eq_true rfl)
  have E11 : f 11 = _ := ht9 11 (Nat.le_of_ble_eq_true rfl)
  have E12 : f 12 = _ := ht9 12 (Nat.le_of_ble_eq_true rfl)
  have E13 : f 13 = _ := ht9 13 (Nat.le_of_ble_eq_true rfl)
  conv at E13 => rhs; whnf
  have E14 : f 14 = _ := ht9 14 (Nat.le_of_ble_eq_true rfl)
  have E15 : f 15 = _ := ht9 15 (Nat.le_of_ble_eq_true rfl)
  have E16 : f 16 = _ := ht9 16 (Nat.le_of_ble_eq_true rfl)
  have E17 : f 17 = _ := ht9 17 (Nat.le_of_ble_eq_true rfl)
  conv at E17 => rhs; whnf
  have E18 : f 18 = _ := ht9 18 (Nat.le_of_ble_eq_true rfl)
  have E19 : f 19 = _ := ht9 19 (Nat.le_of_ble_eq_true rfl)
  have E20 : f 20 = _ := ht9 20 (Nat.le_of_ble_eq_true rfl)
  have E21 : f 21 = _ := ht9 21 (Nat.le_of_ble_eq_true rfl)
  have E22 : f 22 = _ := ht9 22 (Nat.le_of_ble_eq_true rfl)
  have E23 : (TNew _ 1 1 [.int .i64 (1 + U)]) w9 (f 23) := ht9 23 (Nat.le_of_ble_eq_true rfl)
  have E24 : (TAny) w9 (f 24) := ht9 24 (Nat.le_of_ble_eq_true rfl)
  have E25 : f 25 = _ := ht9 25 (Nat.le_of_ble_eq_true rfl)
  have E26 : f 26 = _ := ht9 26 (Nat.le_of_ble_eq_true rfl)
  have Ho9 : Only _ W5 w9 := hI9.2.1
  have hown9 : w9.ownsRow (B) 3 1 (f 24) (n + 1) (cs2 ++ [.int .i64 (1 + U)]) := hI9.2.2.1
  have hat9 : ∀ g, (f 24).ownBlock = some g → (Value.slice (some ⟨gl, 0, none⟩) n cl).ownBlock = some g ∨ W5.heap.size ≤ g := hI9.2.2.2
  simp only [putAll, E0, E1, E2, E3, E4, E5, E6, E7, E8, E9, E10, E11, E12, E13, E14, E15, E16, E17, E18, E19, E20, E21, E22, E25, E26, Nat.zero_add, Nat.reduceAdd, Act.put, List.setIfInBounds_toArray, List.set_cons_succ, List.set_cons_zero, List.take, List.getElem_toArray, List.getElem_cons_succ, List.getElem_cons_zero]
  clear E0 E1 E2 E3 E4 E5 E6 E7 E8 E9 E10 E11 E12 E13 E14 E15 E16 E17 E18 E19 E20 E21 E22 E25 E26
  clear hI9 ht9 hcp9 hk9
  generalize f 23 = r23 at *
  generalize f 24 = r24 at *
  obtain ⟨W6, hW6⟩ : ∃ W, W = w9 := ⟨_, rfl⟩
  subst hW6
  have O10 : Only (fun g => (Value.slice (some ⟨gl, 0, none⟩) n cl).ownBlock = some g) W5 W6 := Ho9
  obtain ⟨A8, c8, hv8⟩ := slice_of_own hown9
  subst hv8
  have hx11 := (O10.block b hz7 hbl).trans hx10
  have q2 := blk_cell hx11 2
  have f2 := blk_free hx11 2
  have Hat10 := Lib.hid hat9
  have Hown10 := Lib.hid hown9
  have HO10 := Lib.hid O10
  clear Ho9 hown9 hat9 O10 E23 E24 hO hcu1 hcu2 hU
  go_wp2_with fail
  go_ret
  refine ⟨ret_int (by omega), fun g => E g ∨ (Value.slice A7 (G.length + 1) c7).ownBlock = some g ∨ (Value.slice A8 (n + 1) c8).ownBlock = some g, ?_, ?_, fun g hg => .inl hg, ?_⟩
  · exact ⟨m, .slice A7 (G.length + 1) c7, .slice A8 (n + 1) c8, L ++ [1 + U], bld_close HN.out H3.out (by omega) O4.out HM9.out HO9.out Hown9.out Hat9.out hW5 HO10.out Hown10.out Hat10.out hx11 Hk.out hV2 Hn.out.symm HLl.out hUb hcs Hcs2.out rfl⟩
  · have e4 := O4.out.size
    have e5 := HO10.out.size
    have eN : N ≤ W3.heap.size := by omega
    rintro g (hg | hg | hg)
    · exact .inl hg
    · rcases Hat9.out g hg with h | h
      · exact .inl (H3.out.eg g h)
      · right; omega
    · rcases Hat10.out g hg with h | h
      · exact .inl (H3.out.el g h)
      · right; omega
  · have b0 : Below N w W3 := HB.out.trans (B3.out.mono (by omega))
    have o1 : Only E w W3 := Only.grown (r := none) ⟨b0.os, b0.tape, b0.output, b0.size, fun k hk _ => b0.block k (by omega)⟩ (fun k hk => by cases hk)
    have o2 : Only E W3 w4 := O4.out.mono fun g hg => hg ▸ H3.out.em
    have o3 : Only E w4 W4 := HO9.out.mono fun g hg => H3.out.eg g hg
    have o4 : Only E W4 W5 := hW5 ▸ Only.grown (set_grown W4 b 1 _) (fun k hk => (Option.some.inj hk) ▸ H3.out.eb)
    have o5 : Only E W5 W6 := HO10.out.mono fun g hg => H3.out.el g (by rw [Hn.out] at hg; exact hg)
    exact ((((o1.trans o2).trans o3).trans o4).trans o5).trans (Only.grown (set_grown W6 b 2 _) (fun k hk => (Option.some.inj hk) ▸ H3.out.eb))
end Go.Proofs.Ytlbfejdbfhgifaa

namespace Go.Proofs.Ytlbfejdbfhgifaa
open Go.RowKit Go.Maps
set_option maxRecDepth 100000
/-! and, xor. -/
theorem BldNext.same {B b F : Nat} {G : List (Nat × Nat)} {E : Nat → Prop} {w w' : World} (h : BldAt B b F G E w) (hb : Below w.heap.size w w') : BldNext B b F G E w w' :=
  ⟨E, h.below hb, fun g hg => .inl hg, fun g hg => hg, Only.grown (r := none) ⟨hb.os, hb.tape, hb.output, hb.size, fun k hk _ => hb.block k hk⟩ (fun k hk => by cases hk)⟩
theorem BldNext.eq {B b F : Nat} {G : List (Nat × Nat)} {E : Nat → Prop} {w w' : World} (h : BldAt B b F G E w) (e : w' = w) : BldNext B b F G E w w' := by
  subst e
  exact BldNext.same h (Below.refl _ _)
/-- What a call of the builder gives. -/
def BldGive (B b F : Nat) (r : Nat × List (Nat × Nat)) (E : Nat → Prop) (w : World) (e : Ending) (w' : World) : Prop := e = .returned (.int .i64 (r.1 : Int)) ∧ BldNext B b F r.2 E w w'
theorem and_any {B b F : Nat} {G : List (Nat × Nat)} {E : Nat → Prop} (x y : Nat) (w : World) (h : BldAt B b F G E w) (hF : F ≤ 300) (hG : G.length ≤ 10000) (hx : x < 2 * (F + G.length)) (hy : y < 2 * (F + G.length)) :
    Calls Try.prog 74 #[.pointer (some ⟨b, 0, none⟩), .int .i64 (x : Int), .int .i64 (y : Int)] w (BldGive B b F (Cir.andB F G x y) E w) := by
  unfold BldGive Cir.andB
  obtain ⟨m, vg, vl, L, hB⟩ := h
  by_cases hs : y < x
  · rw [if_pos hs]
    unfold Cir.andS
    by_cases c0 : y = 0
    · rw [if_pos (.inl c0)]
      exact (and_zero_sw b y x w (by omega) (by omega) hs c0).mono fun e w' ⟨h1, h2⟩ => ⟨h1, BldNext.eq ⟨m, vg, vl, L, hB⟩ h2⟩
    · by_cases c1 : y = x ^^^ 1
      · rw [if_pos (.inr c1)]
        exact (and_neg_sw b y x w (by omega) (by omega) hs ⟨c0, c1⟩).mono fun e w' ⟨h1, h2⟩ => ⟨h1, BldNext.eq ⟨m, vg, vl, L, hB⟩ h2⟩
      · rw [if_neg (by rintro (h | h); exact c0 h; exact c1 h)]
        by_cases c2 : y = 1
        · rw [if_pos (.inl c2)]
          exact (and_one_sw b y x w (by omega) (by omega) hs ⟨c0, c1, c2⟩).mono fun e w' ⟨h1, h2⟩ => ⟨h1, BldNext.eq ⟨m, vg, vl, L, hB⟩ h2⟩
        · have c3 : y ≠ x := by omega
          rw [if_neg (by rintro (h | h); exact c2 h; exact c3 h)]
          cases hk : Cir.knownG F G y x with
          | some l => exact (and_known_sw y x l w hB (by omega) (by omega) hs c0 c1 c2 c3 hk).mono fun e w' ⟨h1, h2⟩ => ⟨h1, BldNext.same ⟨m, vg, vl, L, hB⟩ h2⟩
          | none => exact and_new_sw y x w hB hF hG hy hx hs c0 c1 c2 c3 hk
  · rw [if_neg hs]
    unfold Cir.andS
    by_cases c0 : x = 0
    · rw [if_pos (.inl c0)]
      exact (and_zero_st b x y w (by omega) (by omega) hs c0).mono fun e w' ⟨h1, h2⟩ => ⟨h1, BldNext.eq ⟨m, vg, vl, L, hB⟩ h2⟩
    · by_cases c1 : x = y ^^^ 1
      · rw [if_pos (.inr c1)]
        exact (and_neg_st b x y w (by omega) (by omega) hs ⟨c0, c1⟩).mono fun e w' ⟨h1, h2⟩ => ⟨h1, BldNext.eq ⟨m, vg, vl, L, hB⟩ h2⟩
      · rw [if_neg (by rintro (h | h); exact c0 h; exact c1 h)]
        by_cases c2 : x = 1
        · rw [if_pos (.inl c2)]
          exact (and_one_st b x y w (by omega) (by omega) hs ⟨c0, c1, c2⟩).mono fun e w' ⟨h1, h2⟩ => ⟨h1, BldNext.eq ⟨m, vg, vl, L, hB⟩ h2⟩
        · by_cases c3 : x = y
          · rw [if_pos (.inr c3)]
            exact (and_same_st b x y w (by omega) (by omega) hs ⟨c0, c1, c2, c3⟩).mono fun e w' ⟨h1, h2⟩ => ⟨h1, BldNext.eq ⟨m, vg, vl, L, hB⟩ h2⟩
          · rw [if_neg (by rintro (h | h); exact c2 h; exact c3 h)]
            cases hk : Cir.knownG F G x y with
            | some l => exact (and_known_st x y l w hB (by omega) (by omega) hs c0 c1 c2 c3 hk).mono fun e w' ⟨h1, h2⟩ => ⟨h1, BldNext.same ⟨m, vg, vl, L, hB⟩ h2⟩
            | none => exact and_new_st x y w hB hF hG hx hy hs c0 c1 c2 c3 hk
theorem BldNext.trans' {B b F : Nat} {G2 : List (Nat × Nat)} {E E1 : Nat → Prop} {w w1 w2 : World} (h2 : BldNext B b F G2 E1 w1 w2) (n1 : ∀ g, E1 g → E g ∨ w.heap.size ≤ g) (i1 : ∀ g, E g → E1 g) (o1 : Only E w w1) : BldNext B b F G2 E w w2 := by
  obtain ⟨E2, a, b, c, d⟩ := h2
  refine ⟨E2, a, fun g hg => ?_, fun g hg => c g (i1 g hg), ?_⟩
  · rcases b g hg with h | h
    · exact n1 g h
    · exact .inr (Nat.le_trans o1.size h)
  · exact ⟨d.os.trans o1.os, d.tape.trans o1.tape, d.output.trans o1.output, Nat.le_trans o1.size d.size, fun k hk hn => (d.block k (Nat.lt_of_lt_of_le hk o1.size) fun he => by
      rcases n1 k he with h | h
      · exact hn h
      · omega).trans (o1.block k hk hn)⟩
theorem xor_any {B b F : Nat} {G : List (Nat × Nat)} {E : Nat → Prop} (x y : Nat) (w : World) (h : BldAt B b F G E w) (hF0 : 0 < F) (hF : F ≤ 300) (hG : G.length ≤ 9000) (hx : x < 2 * (F + G.length)) (hy : y < 2 * (F + G.length)) :
    Calls Try.prog 73 #[.pointer (some ⟨b, 0, none⟩), .int .i64 (x : Int), .int .i64 (y : Int)] w (BldGive B b F (Cir.xorB F G x y) E w) := by
  have hq1 : bits .xor .i64 (x : Int) 1 = ((x ^^^ 1 : Nat) : Int) := i64_xor_nat x 1 (by omega) (by omega)
  have hq2 : bits .xor .i64 (y : Int) 1 = ((y ^^^ 1 : Nat) : Int) := i64_xor_nat y 1 (by omega) (by omega)
  have l1 := Cir.andB_len F G x y
  have t1 := Cir.andB_lt hF0 hx hy
  have hx1 := Cir.xor1_lt hx
  have hy1 := Cir.xor1_lt hy
  have t2 := Cir.andB_lt (G := (Cir.andB F G x y).2) (x := x ^^^ 1) (y := y ^^^ 1) hF0 (by omega) (by omega)
  have l2 := Cir.andB_len F (Cir.andB F G x y).2 (x ^^^ 1) (y ^^^ 1)
  have e3 : Cir.xorB F G x y = Cir.andB F (Cir.andB F (Cir.andB F G x y).2 (x ^^^ 1) (y ^^^ 1)).2 ((Cir.andB F G x y).1 ^^^ 1) ((Cir.andB F (Cir.andB F G x y).2 (x ^^^ 1) (y ^^^ 1)).1 ^^^ 1) := rfl
  have HA := Lib.hid (and_any x y w h hF (by omega) hx hy)
  rw [e3]
  clear e3
  generalize hp : Cir.andB F G x y = p at *
  obtain ⟨r1, G1⟩ := p
  simp only at t1 l1 t2 l2 ⊢
  have hx2 : x ^^^ 1 < 2 * (F + G1.length) := by omega
  have hy2 : y ^^^ 1 < 2 * (F + G1.length) := by omega
  generalize x ^^^ 1 = X at *
  generalize y ^^^ 1 = Y at *
  generalize hp2 : Cir.andB F G1 X Y = p2 at *
  obtain ⟨r2, G2⟩ := p2
  simp only at t2 l2 ⊢
  have hq3 : bits .xor .i64 (r1 : Int) 1 = ((r1 ^^^ 1 : Nat) : Int) := i64_xor_nat r1 1 (by omega) (by omega)
  have hq4 : bits .xor .i64 (r2 : Int) 1 = ((r2 ^^^ 1 : Nat) : Int) := i64_xor_nat r2 1 (by omega) (by omega)
  have ht3 := Cir.xor1_lt (show r1 < 2 * (F + G2.length) by omega)
  have ht4 := Cir.xor1_lt (show r2 < 2 * (F + G2.length) by omega)
  generalize r1 ^^^ 1 = R1 at *
  generalize r2 ^^^ 1 = R2 at *
  have Hp2 := Lib.hid hp2
  clear h hp hp2
  go_enter Try.func73, Try.ntmps73
  go_wp2_with fail
  refine HA.out.mono ?_
  rintro e w1 ⟨rfl, E1, hb1, n1, i1, o1⟩
  have HB1 := Lib.hid hb1
  have HN1 := Lib.hid (And.intro n1 (And.intro i1 o1))
  clear hb1 n1 i1 o1 HA
  go_wp2_with fail
  refine (and_any X Y w1 HB1.out hF (by omega) hx2 hy2).mono ?_
  rw [Hp2.out]
  rintro e w2 ⟨rfl, h2⟩
  obtain ⟨E2, hb2, n2, i2, o2⟩ := h2.trans' HN1.out.1 HN1.out.2.1 HN1.out.2.2
  have HB2 := Lib.hid hb2
  have HN2 := Lib.hid (And.intro n2 (And.intro i2 o2))
  clear hb2 n2 i2 o2 HB1 HN1 h2
  go_wp2_with fail
  refine (and_any R1 R2 w2 HB2.out hF (by omega) ht3 ht4).mono ?_
  rintro e w3 ⟨rfl, h3⟩
  go_wp2_with fail
  go_ret
  exact ⟨rfl, h3.trans' HN2.out.1 HN2.out.2.1 HN2.out.2.2⟩
end Go.Proofs.Ytlbfejdbfhgifaa

namespace Go.Proofs.Ytlbfejdbfhgifaa
open Go.RowKit Go.Maps
set_option maxRecDepth 100000
/-! Adder(1). -/
def adder1 : Cz := ⟨2, [], [(2, 4), (3, 5), (7, 9)], [10, 6]⟩
theorem add_x1 : Cir.xorB 3 [] 2 4 = (10, [(7, 9), (3, 5), (2, 4)]) := by decide +kernel
theorem add_x2 : Cir.xorB 3 [(7, 9), (3, 5), (2, 4)] 10 0 = (10, [(7, 9), (3, 5), (2, 4)]) := by decide +kernel
theorem add_a1 : Cir.andB 3 [(7, 9), (3, 5), (2, 4)] 2 4 = (6, [(7, 9), (3, 5), (2, 4)]) := by decide +kernel
theorem add_a2 : Cir.andB 3 [(7, 9), (3, 5), (2, 4)] 10 0 = (0, [(7, 9), (3, 5), (2, 4)]) := by decide +kernel
theorem add_a3 : Cir.andB 3 [(7, 9), (3, 5), (2, 4)] 7 1 = (7, [(7, 9), (3, 5), (2, 4)]) := by decide +kernel
theorem own_setK {w : World} {B n size k i : Nat} {e : TypeId} {v u : Value} {cs : List Value} (h : w.ownsRow B e size v n cs) (hk : k < B) : (w.setCell ⟨k, i, none⟩ u).ownsRow B e size v n cs :=
  own_only h (Only.grown (E := fun g => g = k) (set_grown w k i u) (fun x hx => (Option.some.inj hx).symm)) (fun g hg e => by have := (h.lt g hg).1; omega)
theorem adder1_any (w : World) : Calls Try.prog 28 #[.int .i64 1] w fun e w' => (∃ v, e = .returned v ∧ CircAt w' v adder1) ∧ Below w.heap.size w w' := by
  have hb0 := bel_new w (.cells #[.int .i64 0, .slice none 0 0, .slice none 0 0, .slice none 0 0] 31)
  have hR0 := heap_alloc_new w (.cells #[.int .i64 0, .slice none 0 0, .slice none 0 0, .slice none 0 0] 31)
  have hz0 : (w.alloc (.cells #[.int .i64 0, .slice none 0 0, .slice none 0 0, .slice none 0 0] 31)).heap.size = w.heap.size + 1 := by simp
  go_enter Try.func28, Try.ntmps28
  go_wp2_with fail
  generalize w.alloc (.cells #[.int .i64 0, .slice none 0 0, .slice none 0 0, .slice none 0 0] 31) = W0 at *
  refine (newBld_any 2 0 W0 (by omega) (by omega)).mono ?_
  rintro e w1 ⟨b, E, rfl, hB, hb1⟩
  have HB1 := Lib.hid hB
  have Hb1 := Lib.hid (hb0.trans (hb1.mono hb0.size))
  have hR1 := (hb1.block _ (by omega)).trans hR0
  have z1 := hb1.size
  clear hB hb1 hb0 hR0
  go_wp2_with fail
  obtain ⟨W1, hW1⟩ : ∃ W, W = w1 := ⟨_, rfl⟩
  subst hW1
  go_loopw [4, 5, 21] (fun c o i wr => (c = .int .i64 0 ∧ o = .slice none 0 0 ∧ i = .int .i64 0 ∧ wr = W1) ∨ (c = .int .i64 6 ∧ i = .int .i64 1 ∧ ∃ (o' : Value) (E' : Nat → Prop), o' = o ∧ Hid (BldAt W0.heap.size b 3 [(7, 9), (3, 5), (2, 4)] E' wr) ∧ Hid (wr.ownsRow W0.heap.size 3 1 o 1 (ints [10])) ∧ Hid (∀ g, E' g → o.ownBlock ≠ some g) ∧ Hid (Below W0.heap.size W1 wr)))
    (fun _ _ i _ => 1 - (intOf i).toNat)
  case atStart => exact .inl ⟨rfl, rfl, rfl, rfl⟩
  case round =>
    rcases hrel with ⟨rfl, rfl, rfl, rfl⟩ | ⟨rfl, rfl, o', E', ho', HB, HO, HA, Hb⟩
    · go_wp2_with fail
      refine (xor_any 2 4 _ HB1.out (by omega) (by omega) (by simp) (by simp) (by simp)).mono ?_
      rw [add_x1]
      rintro e w2 ⟨rfl, E2, hB2, n2, i2, o2⟩
      have HB2 := Lib.hid hB2
      have HN2 := Lib.hid (And.intro n2 (And.intro i2 o2))
      clear hB2 n2 i2 o2
      go_wp2_with fail
      refine (xor_any 10 0 _ HB2.out (by omega) (by omega) (by simp) (by simp) (by simp)).mono ?_
      rw [add_x2]
      rintro e w3 ⟨rfl, h3⟩
      obtain ⟨E3, hB3, n3, i3, o3⟩ := h3.trans' HN2.out.1 HN2.out.2.1 HN2.out.2.2
      have HB3 := Lib.hid hB3
      have HN3 := Lib.hid (And.intro n3 (And.intro i3 o3))
      have hbl := bel_new w3 (.cells #[.int .i64 10] 3)
      have hsl : (w3.alloc (.cells #[.int .i64 10] 3)).heap.size = w3.heap.size + 1 := by simp
      have Hlit := Lib.hid (Row.of_own (World.ownsRow_lit (base := w3.heap.size) (e := 3) (size := 1) w3 #[.int .i64 10] 1 (Nat.le_refl _) (by unfold maxLen; omega) rfl))
      have z3 := o3.size
      have Hbl := Lib.hid hbl
      clear hB3 n3 i3 o3 h3 HB2 HN2 hbl
      go_wp2_with (at_builtin; refine append_ints rfl (.tmp 36) (.tmp 41) rfl W0.heap.size (.slice none 0 0) 0 [] rfl (World.ownsRow_nil _ _ _ _) _ 1 [.int .i64 10] rfl Hlit.out (by simp [Value.oneCell']) (by omega) (by omega) ?_; intro v4 w4 hown4 hg4 hat4; have Hown4 := Lib.hid hown4; have Hg4 := Lib.hid hg4; have Hat4 := Lib.hid hat4; clear hown4 hg4 hat4)
      have hb4 : Below w3.heap.size w3 w4 := Hbl.out.trans ((only_below (Only.grown (E := fun _ => False) Hg4.out (fun k hk => by cases hk))).mono (by omega))
      have z4 := hb4.size
      have HB4 := Lib.hid (HB3.out.below hb4)
      have hE3 : ∀ g, E3 g → v4.ownBlock ≠ some g := fun g hg e => by
        have h1 : g < w3.heap.size := by obtain ⟨_, _, _, _, h⟩ := HB3.out; exact (h.lo g hg).2
        rcases Hat4.out with h | h
        · rw [h] at e; cases e
        · rw [h] at e; have := Option.some.inj e; omega
      have HE3 := Lib.hid hE3
      have hbase : Below W0.heap.size wr w4 := (Only.below (Below.refl _ _) HN3.out.2.2 (by omega) (fun k hk => by obtain ⟨_, _, _, _, h⟩ := HB1.out; exact (h.lo k hk).1)).trans (hb4.mono (by omega))
      have HW4 := Lib.hid hbase
      clear hb4 hE3 hbase HB3 HN3 Hbl Hlit
      refine (and_any 2 4 _ HB4.out (by omega) (by simp) (by simp) (by simp)).mono ?_
      rw [add_a1]
      rintro e w5 ⟨rfl, E5, hB5, n5, i5, o5⟩
      have HB5 := Lib.hid hB5
      have HN5 := Lib.hid (And.intro n5 (And.intro i5 o5))
      clear hB5 n5 i5 o5
      have hq6 : bits .xor .i64 6 1 = 7 := i64_xor_nat 6 1 (by omega) (by omega)
      have hq0 : bits .xor .i64 0 1 = 1 := i64_xor_nat 0 1 (by omega) (by omega)
      have hq7 : bits .xor .i64 7 1 = 6 := i64_xor_nat 7 1 (by omega) (by omega)
      go_wp2_with fail
      refine (and_any 10 0 _ HB5.out (by omega) (by simp) (by simp) (by simp)).mono ?_
      rw [add_a2]
      rintro e w6 ⟨rfl, h6⟩
      obtain ⟨E6, hB6, n6, i6, o6⟩ := h6.trans' HN5.out.1 HN5.out.2.1 HN5.out.2.2
      have HB6 := Lib.hid hB6
      have HN6 := Lib.hid (And.intro n6 (And.intro i6 o6))
      clear hB6 n6 i6 o6 h6 HB5 HN5
      go_wp2_with fail
      refine (and_any 7 1 _ HB6.out (by omega) (by simp) (by simp) (by simp)).mono ?_
      rw [add_a3]
      rintro e w7 ⟨rfl, h7⟩
      obtain ⟨E7, hB7, n7, i7, o7⟩ := h7.trans' HN6.out.1 HN6.out.2.1 HN6.out.2.2
      have HB7 := Lib.hid hB7
      have HN7 := Lib.hid (And.intro n7 (And.intro i7 o7))
      clear hB7 n7 i7 o7 h7 HB6 HN6
      go_wp2_with fail
      go_roundw
      case rel => 
        have h4 : W0.heap.size ≤ w4.heap.size := by omega
        exact .inr ⟨rfl, rfl, _, E7, rfl, HB7, Lib.hid (own_only Hown4.out HN7.out.2.2 (fun g hg e => HE3.out g e hg)), Lib.hid (fun g hg e => by
          rcases HN7.out.1 g hg with h | h
          · exact HE3.out g h e
          · have := (Hown4.out.lt g e).2; omega), Lib.hid (HW4.out.trans (Only.below (Below.refl _ _) HN7.out.2.2 h4 (fun k hk => by obtain ⟨_, _, _, _, h⟩ := HB4.out; exact (h.lo k hk).1)))⟩
      case measure => simp [intOf]
    · subst ho'
      obtain ⟨m, vg, vl, L, hB⟩ := HB.out
      obtain ⟨Ag, cg, hvg⟩ := slice_of_own hB.gs
      subst hvg
      have HBl := Lib.hid hB
      have hbo : o'.ownBlock ≠ some b := HA.out b hB.eb
      have hgo : ∀ g, (Value.slice Ag [(7, 9), (3, 5), (2, 4)].length cg).ownBlock = some g → o'.ownBlock ≠ some g := fun g hg => HA.out g (hB.eg g hg)
      have hbz := (hB.lo b hB.eb).2
      have hgz : ∀ g, (Value.slice Ag [(7, 9), (3, 5), (2, 4)].length cg).ownBlock = some g → g < wr.heap.size := fun g hg => (hB.lo g (hB.eg g hg)).2
      have hRb : ∀ g, o'.ownBlock = some g → W0.heap.size ≤ g := fun g hg => (HO.out.lt g hg).1
      have hbW : W0.heap.size ≤ b := (hB.lo b hB.eb).1
      have hR := (Hb.out.block _ (by omega)).trans hR1
      have hzr := Hb.out.size
      have q0 : wr.drew.cell? ⟨b, 1, none⟩ = some (.slice Ag [(7, 9), (3, 5), (2, 4)].length cg) := blk_cell hB.box 1
      have q1 : ((wr.alloc (.cells #[.int .i64 6] 3)).drew).cell? ⟨b, 1, none⟩ = _ := ((bel_new wr (.cells #[.int .i64 6] 3)).cell (p := ⟨b, 1, none⟩) hbz).trans q0
      have hbd : Below wr.heap.size wr ((wr.alloc (.cells #[.int .i64 6] 3)).drew) := ((Below.refl _ _).alloc (Nat.le_refl _) _).drew
      have Hown := Lib.hid (own_below HO.out hbd)
      have Hbd := Lib.hid hbd
      have Hlit := Lib.hid (Row.of_own (World.ownsRow_lit (base := wr.heap.size) (e := 3) (size := 1) wr #[.int .i64 6] 1 (Nat.le_refl _) (by unfold maxLen; omega) rfl))
      have hsz : ((wr.alloc (.cells #[.int .i64 6] 3)).drew).heap.size = wr.heap.size + 1 := by simp
      obtain ⟨i0, hi0, hz0', hz1, hz2⟩ := info_parts info_int
      have hwr2 := IntWalk.i64_in 2 (by omega)
      clear hB hbd HB1 hR1
      go_wp2_with fail
      go_region_law (refine step_append_at rfl (.tmp 63) (.tmp 65) 22 rfl W0.heap.size 3 i0 _ 1 8 Try.underlying22 hi0 hz0' hz1 hz2 rfl (by decide) o' 1 (ints [10]) (by simp [Act.eval, Act.put]) Hown.out _ 1 [.int .i64 6] (by simp [Act.eval, Act.put]) Hlit.out (by simp [Value.oneCell']) (by unfold maxLen; omega) (by omega) (by omega) ?_; intro v9 w9 hown9 hg9; obtain ⟨A9, c9, hv9⟩ := slice_of_own hown9; subst hv9; have O9 : Only (fun g => o'.ownBlock = some g) ((wr.alloc (.cells #[.int .i64 6] 3)).drew) w9 := Only.grown hg9 (fun k hk => hk); have q9 := cell_on O9 hbo (by omega) q1; have hR9 := (O9.block w.heap.size (by omega) (fun e => by have := hRb _ e; omega)).trans ((Hbd.out.block w.heap.size (by omega)).trans hR); have r0 := blk_cell hR9 0; have r1 := blk_cell hR9 1; have r2 := blk_cell hR9 2; have r3 := blk_cell hR9 3; have f0 := blk_free hR9 0; have f1 := blk_free hR9 1; have f2 := blk_free hR9 2; have f3 := blk_free hR9 3)
      all_goals
        have HG := Lib.hid (own_only (own_below HBl.out.gs Hbd.out) O9 hgo)
        have HO9 := Lib.hid hown9
        have HB9 := Lib.hid (Only.below ((Hb1.out.trans (Hb.out.mono (by omega))).trans (Hbd.out.mono (by omega))) O9 (by omega) (fun k hk => by have := hRb k hk; omega))
        clear hown9 O9 hg9 q9 hR9
        go_wp2_with fail
        refine bodyPost_ret (v := .agg #[.int .i64 2, .slice none 0 0, .slice Ag 3 cg, .slice A9 2 c9]) (by simp [results, Try.results28, go_sem, r0, r1, r2, r3]) rfl ⟨⟨_, rfl, _, _, _, rfl, Row.of_own (World.ownsRow_nil _ 0 3 1), Row.of_own (own_setK (own_setK (own_setK (own_setK HG.out (by omega)) (by omega)) (by omega)) (by omega)), Row.of_own (own_setK (own_setK (own_setK (own_setK HO9.out (by omega)) (by omega)) (by omega)) (by omega))⟩, ?_⟩
        exact (((HB9.out.setCell (by simp only; omega) _).setCell (by simp only; omega) _).setCell (by simp only; omega) _).setCell (by simp only; omega) _
end Go.Proofs.Ytlbfejdbfhgifaa

namespace Go.Proofs.Ytlbfejdbfhgifaa
/-! Drawn regions with guards whose values are known (gl): a guarded operation is run, or it is skipped. -/
def look1 (gl : List (Nat × Bool)) (j : Nat) : Option Bool := gl.lookup j
/-- The operation as it runs: without its guard, or as a move of nothing. -/
def norm1 (gl : List (Nat × Bool)) (o : Oper) : Oper := match o with
  | ⟨d, op, ty, pos, aft, none⟩ => ⟨d, op, ty, pos, aft, none⟩
  | ⟨d, op, ty, pos, aft, some (j, b)⟩ => if look1 gl j = some b then ⟨d, op, ty, pos, aft, none⟩ else ⟨d, .move (.const undef), ty, pos, aft, none⟩
theorem norm1_dst (gl : List (Nat × Bool)) (o : Oper) : (norm1 gl o).dst = o.dst := by
  obtain ⟨d, op, ty, pos, aft, g⟩ := o
  cases g with
  | none => rfl
  | some p => obtain ⟨j, b⟩ := p; unfold norm1; simp only; split <;> rfl
def rgG (gl : List (Nat × Bool)) (ops : Array Oper) : Bool :=
  (List.range ops.size).all fun i => match ops[i]? with
    | none => true
    | some o => (match o.guard with | none => true | some (j, _) => decide (j < i) && ancB ops 4 j i && (look1 gl j).isSome && ((ops[j]?).bind (·.dst)).isSome) && o.after.all (fun e => !Region.binds .any e || decide (e.on < i)) &&
        (match o.op with | .select .. => false | .assign _ => o.guard.isNone | _ => true) &&
        (List.range i).all fun j => match ops[j]? with
          | none => true
          | some p => (p.dst.isNone || p.dst != o.dst) && (!clash p o || ancB ops 4 j i)
section
variable {P : Program} {ops : Array Oper} {gl : List (Nat × Bool)}
structure RgGOk (gl : List (Nat × Bool)) (ops : Array Oper) (i : Nat) (o : Oper) : Prop where
  guard : ∀ j b, o.guard = some (j, b) → j < i ∧ ancB ops 4 j i = true ∧ ∃ x p t, look1 gl j = some x ∧ ops[j]? = some p ∧ p.dst = some t
  back : ∀ e ∈ o.after, Region.binds .any e = true → e.on < i
  sel : ∀ cs b, o.op ≠ .select cs b
  asg : ∀ x, o.op = .assign x → o.guard = none
  one : ∀ j p, j < i → ops[j]? = some p → ∀ d, p.dst = some d → o.dst ≠ some d
  anc : ∀ j p, j < i → ops[j]? = some p → clash p o = true → ancB ops 4 j i = true
theorem rgG_ok (h : rgG gl ops = true) {i : Nat} {o : Oper} (ho : ops[i]? = some o) : RgGOk gl ops i o := by
  have hlt : i < ops.size := (Array.getElem?_eq_some_iff.1 ho).1
  have h1 := List.all_eq_true.1 h i (List.mem_range.2 hlt)
  simp only [ho, Bool.and_eq_true] at h1
  obtain ⟨⟨⟨h1, h2⟩, h3⟩, h4⟩ := h1
  refine ⟨fun j b hg => ?_, fun e he hb => ?_, fun cs b e => by simp [e] at h3, fun x e => by simpa [e] using h3, fun j p hj hp d hd e => ?_, fun j p hj hp hc => ?_⟩
  · rw [hg] at h1
    simp only [Bool.and_eq_true, decide_eq_true_iff] at h1
    obtain ⟨⟨⟨a1, a2⟩, a3⟩, a4⟩ := h1
    obtain ⟨x, hx⟩ := Option.isSome_iff_exists.1 a3
    obtain ⟨t, ht⟩ := Option.isSome_iff_exists.1 a4
    cases hp : ops[j]? with
    | none => rw [hp] at ht; cases ht
    | some p => rw [hp] at ht; exact ⟨a1, a2, x, p, t, hx, rfl, ht⟩
  · have := Array.all_eq_true_iff_forall_mem.1 h2 e he
    simpa [hb] using this
  · have := List.all_eq_true.1 h4 j (List.mem_range.2 hj)
    simp [hp, hd, e] at this
  · have := List.all_eq_true.1 h4 j (List.mem_range.2 hj)
    simp only [hp, Bool.and_eq_true] at this
    simpa [hc] using this.2
theorem Is.stepG (hB : rgG gl ops = true) {a0 a : Act} {L : Nat → Bool} {f : Nat → Value} (h : Is ops a0 L f a) {i : Nat} {o : Oper} (ho : ops[i]? = some o) (hL : L i = false) (v : Value) :
    Is ops a0 (fun j => if j = i then true else L j) (fun j => if j = i then v else f j) (a.put o.dst v) := by
  refine ⟨(put_defers _ _ _).trans h.defers, (put_size _ _ _).trans h.size, fun j p t hj hp ht hlt => ?_, fun t ht => ?_⟩
  · by_cases e : j = i
    · subst e
      obtain rfl := Option.some.inj (ho.symm.trans hp)
      simp only [if_true]
      rw [ht]
      exact put_get _ _ _ (by rw [h.size]; exact hlt)
    · simp only [e, if_false] at hj ⊢
      rw [put_get_ne]
      · exact h.mine j p t hj hp ht hlt
      · intro hd
        rcases Nat.lt_or_gt_of_ne e with hlt' | hgt
        · exact (rgG_ok hB ho).one j p hlt' hp t ht hd
        · exact (rgG_ok hB hp).one i o hgt ho t hd ht
  · rw [put_get_ne]
    · exact h.old t fun j p hj hp => ht j p (by by_cases e : j = i <;> simp [e, hj]) hp
    · exact ht i o (by simp) ho
theorem putAll_isG (hB : rgG gl ops = true) {a0 : Act} {f : Nat → Value} : ∀ (l : List Oper) (k : Nat) (a : Act), ops.toList.drop k = l → Is ops a0 (fun j => decide (j < k)) f a → Is ops a0 (fun j => decide (j < ops.size)) f (putAll l f k a)
  | [], k, a, hl, h => by
    have hk : ops.size ≤ k := by simpa using hl
    have e : Is ops a0 (fun j => decide (j < ops.size)) f a := ⟨h.defers, h.size, fun i o t hi ho => h.mine i o t (by simp at hi ⊢; omega) ho, fun t ht => h.old t fun i o hi ho => ht i o (by
      have := (Array.getElem?_eq_some_iff.1 ho).1
      simpa using this) ho⟩
    exact e
  | o :: l, k, a, hl, h => by
    have hk : k < ops.toList.length := by
      rcases Nat.lt_or_ge k ops.toList.length with h' | h'
      · exact h'
      · rw [List.drop_eq_nil_of_le h'] at hl; cases hl
    rw [List.drop_eq_getElem_cons hk] at hl
    injection hl with h1 h2
    have ho : ops[k]? = some o := by
      rw [← h1, ← Array.getElem?_toList, List.getElem?_eq_getElem hk]
    have hs := h.stepG hB ho (by simp) (f k)
    refine putAll_isG hB l (k + 1) _ h2 ?_
    have e1 : (fun j => if j = k then true else decide (j < k)) = fun j => decide (j < k + 1) := by
      funext j
      by_cases e : j = k
      · subst e; simp
      · simp [e]; omega
    have e2 : (fun j => if j = k then f k else f j) = f := by
      funext j
      by_cases e : j = k <;> simp [e]
    rw [e1, e2] at hs
    exact hs

theorem Inv.knownG {τ : Nat → World → Value → Prop} {d : Nat} {I : Option Value → World → Prop} {a0 a : Act} {L : Nat → Bool} {w : World} (hB : rgG gl ops = true) (hS : (ops.all fun o => match o.dst with | some t => decide (t < a0.tmps.size) | none => true) = true)
    (h : Inv ops τ d I a0 L a w) {i : Nat} {o : Oper} (ho : ops[i]? = some o) (hL : L i = false) (hr : ∀ e ∈ o.after, Region.binds .any e = true → L e.on = true) : (∀ j, ancB ops 4 j i = true → j ≠ i → L j = true) ∧ Known ops τ a0 a.eval w i (norm1 gl o).op.operands.toList := by
  obtain ⟨hC, f, hf, hI, hτ, _⟩ := h
  have anc : ∀ j, ancB ops 4 j i = true → j ≠ i → L j = true := by
    intro j hj hne
    rw [show (4 : Nat) = 3 + 1 from rfl, ancB, Bool.or_eq_true] at hj
    rcases hj with hj | hj
    · exact absurd (by simpa using hj) hne
    · simp only [ho, Option.map_some, Option.getD_some, Array.any_eq_true] at hj
      obtain ⟨k, hk, hj⟩ := hj
      rw [Bool.and_eq_true] at hj
      exact ancB_shut hC 3 j _ hj.2 (hr _ (Array.getElem_mem hk) hj.1)
  have hdst : ∀ (j : Nat) (p : Oper) (t : Tmp), ops[j]? = some p → p.dst = some t → t < a0.tmps.size := by
    intro j p t hp ht
    have := Array.all_eq_true_iff_forall_mem.1 hS p (Array.mem_of_getElem? hp)
    simpa [ht] using this
  refine ⟨anc, ?_⟩
  by_cases hsk : (norm1 gl o).op = .move (.const undef)
  · rw [hsk]; exact ⟨rfl, trivial⟩
  have hop : (norm1 gl o).op = o.op := by
    revert hsk
    obtain ⟨d, op, ty, pos, aft, g⟩ := o
    cases g with
    | none => intro _; rfl
    | some p => obtain ⟨j, b⟩ := p; unfold norm1; simp only; split <;> intro hsk <;> first | rfl | exact absurd rfl hsk
  rw [hop]
  have mem : ∀ t, .tmp t ∈ o.op.operands.toList → ∀ p : Oper, p.dst = some t → clash p o = true := by
    intro t ht p hp
    unfold clash
    rw [hp]
    simp only [Bool.or_eq_true]
    left
    rw [List.contains_iff_mem]
    exact List.mem_filterMap.2 ⟨_, ht, rfl⟩
  have mem' : ∀ t, .tmp t ∈ o.op.operands.toList → ∀ p : Oper, p.dst = some t → clash o p = true := by
    intro t ht p hp
    unfold clash
    rw [hp]
    simp only [Bool.or_eq_true]
    right
    rw [List.contains_iff_mem]
    exact List.mem_filterMap.2 ⟨_, ht, rfl⟩
  -- only what the operation looks at is asked
  have go : ∀ xs : List Operand, (∀ x ∈ xs, x ∈ o.op.operands.toList) → Known ops τ a0 a.eval w i xs := by
    intro xs
    induction xs with
    | nil => intro _; trivial
    | cons x xs ih =>
      intro hx
      have hrest := ih fun y hy => hx y (List.mem_cons_of_mem _ hy)
      cases x with
      | tmp t =>
        have ht := hx (.tmp t) (by simp)
        refine ⟨?_, hrest⟩
        cases hj : writer ops i t with
        | none =>
          show a.tmps.getD t undef = a0.tmps.getD t undef
          refine hf.old t fun j p hLj hp hd => ?_
          have hji : ¬ j < i := fun hlt => by
            have := List.find?_eq_none.1 hj j (List.mem_range.2 hlt)
            simp [hp, hd] at this
          have hne : j ≠ i := fun e => by subst e; rw [hL] at hLj; cases hLj
          -- j comes behind i: then i is listed too
          have hlt : i < j := by omega
          have := ancB_shut hC 4 i j ((rgG_ok hB hp).anc i o hlt ho (mem' t ht p hd)) hLj
          rw [hL] at this; cases this
        | some j =>
          have hj' := List.find?_some hj
          have hji : j < i := List.mem_range.1 (List.mem_of_find?_eq_some hj)
          cases hp : ops[j]? with
          | none => simp [hp] at hj'
          | some p =>
            have hd : p.dst = some t := by simpa [hp] using hj'
            have hLj := anc j ((rgG_ok hB ho).anc j p hji hp (mem t ht p hd)) (by omega)
            have := hf.mine j p t hLj hp hd (hdst j p t hp hd)
            show τ j w (a.tmps.getD t undef)
            rw [this]
            exact (hτ j hLj).2
      | const v => exact ⟨rfl, hrest⟩
      | global v => exact ⟨rfl, hrest⟩
      | func v => exact ⟨rfl, hrest⟩
  exact go _ fun _ h => h

theorem Inv.copyG {τ : Nat → World → Value → Prop} {d : Nat} {I : Option Value → World → Prop} {a0 a : Act} {L : Nat → Bool} {w : World} (hB : rgG gl ops = true) (hS : (ops.all fun o => match o.dst with | some t => decide (t < a0.tmps.size) | none => true) = true)
    (h : Inv ops τ d I a0 L a w) {i : Nat} {o : Oper} (ho : ops[i]? = some o) (hL : L i = false) (hr : ∀ e ∈ o.after, Region.binds .any e = true → L e.on = true) {f : Nat → Value} (hf : Is ops a0 L f a) {t : Tmp} {j : Nat}
    (ha : o.op = .assign (.tmp t)) (hj : writer ops i t = some j) : L j = true ∧ a.eval (.tmp t) = f j := by
  have hC := h.shut
  have hj' := List.find?_some hj
  have hji : j < i := List.mem_range.1 (List.mem_of_find?_eq_some hj)
  cases hp : ops[j]? with
  | none => simp [hp] at hj'
  | some p =>
    have hd : p.dst = some t := by simpa [hp] using hj'
    have hcl : clash p o = true := by
      unfold clash
      rw [hd]
      simp only [Bool.or_eq_true]
      left
      rw [List.contains_iff_mem]
      exact List.mem_filterMap.2 ⟨.tmp t, by rw [ha]; simp [Op.operands], rfl⟩
    have hanc := (rgG_ok hB ho).anc j p hji hp hcl
    have hLj : L j = true := by
      rw [show (4 : Nat) = 3 + 1 from rfl, ancB, Bool.or_eq_true] at hanc
      rcases hanc with h1 | h1
      · exact absurd (by simpa using h1) (Nat.ne_of_lt hji)
      · simp only [ho, Option.map_some, Option.getD_some, Array.any_eq_true] at h1
        obtain ⟨k, hk, h1⟩ := h1
        rw [Bool.and_eq_true] at h1
        exact ancB_shut hC 3 j _ h1.2 (hr _ (Array.getElem_mem hk) h1.1)
    have hdst : t < a0.tmps.size := by
      have := Array.all_eq_true_iff_forall_mem.1 hS p (Array.mem_of_getElem? hp)
      simpa [hd] using this
    exact ⟨hLj, hf.mine j p t hLj hp hd hdst⟩

theorem rg_anyG {Q : Exit → Act → World → Prop} {τ : Nat → World → Value → Prop} {d : Nat} {I : Nat → Option Value → World → Prop} {G : World → World → Prop} {a0 : Act} (hB : rgG gl ops = true) (hS : (ops.all fun o => match o.dst with | some t => decide (t < a0.tmps.size) | none => true) = true)
    (hG : ∀ i v w w', τ i w v → G w w' → τ i w' v)
    (hstep : ∀ i o, ops[i]? = some o → ∀ k ov ρ w, k < ops.size → I k ov w → (ancB ops 8 i d = true → ov = none) → Known ops τ a0 ρ w i (norm1 gl o).op.operands.toList → Good P (norm1 gl o) ρ w fun v w' => τ i w' v ∧ I (k + 1) (if i = d then some v else ov) w' ∧ G w w')
    (hgl : ∀ (i : Nat) (o : Oper) (j : Nat) (b : Bool), ops[i]? = some o → o.guard = some (j, b) → ∀ w v, τ j w v → ∃ x, look1 gl j = some x ∧ v = .bool x)
    (hd : d < ops.size) (hend : ∀ f w' k, k ≤ ops.size → I k (some (f d)) w' → (∀ i, i < ops.size → τ i w' (f i)) → Copies ops (fun j => decide (j < ops.size)) f → Q .normal (putAll ops.toList f 0 a0) w') :
    ∀ (fuel : Nat) (listed : Array Bool) (a : Act) (w : World) (k : Nat), k + fuel = ops.size → listed.size = ops.size → open_ ops listed ≤ fuel → Inv ops τ d (I k) a0 (fun i => listed.getD i false) a w → wpAny P .any ops Q fuel listed a w := by
  have last : ∀ (listed : Array Bool) (a : Act) (w : World) (k : Nat), k ≤ ops.size → listed.size = ops.size → Inv ops τ d (I k) a0 (fun i => listed.getD i false) a w → Region.ready .any ops listed = [] → Q .normal a w := by
    intro listed a w k hk hsz h hr
    have hall : ∀ i, i < ops.size → listed.getD i false = true := by
      intro i
      induction i using Nat.strongRecOn with
      | _ i ih =>
        intro hi
        rcases hb : listed.getD i false with _ | _
        · exfalso
          have hm : i ∈ Region.ready .any ops listed := mem_ready.2 ⟨by
            have : i < listed.size := by omega
            simpa [Array.getD, this] using hb, ops[i], Array.getElem?_eq_getElem hi, fun e he hbn => ih e.on ((rgG_ok hB (Array.getElem?_eq_getElem hi)).back e he hbn) (by
              have := (rgG_ok hB (Array.getElem?_eq_getElem hi)).back e he hbn
              omega)⟩
          rw [hr] at hm
          cases hm
        · rfl
    obtain ⟨_, f, hf, hI, hτ, hcp⟩ := h
    have hI : I k (some (f d)) w := by simpa [hall d hd] using hI
    have e1 : Is ops a0 (fun j => decide (j < ops.size)) f a := ⟨hf.defers, hf.size, fun i o t hi ho hd hl => hf.mine i o t (hall i (Array.getElem?_eq_some_iff.1 ho).1) ho hd hl,
      fun t ht => hf.old t fun i o hi ho => ht i o (by simpa using (Array.getElem?_eq_some_iff.1 ho).1) ho⟩
    have e0 : Is ops a0 (fun j => decide (j < 0)) f a0 := ⟨rfl, rfl, fun _ _ _ h => by simp at h, fun _ _ => rfl⟩
    rw [e1.same (putAll_isG hB ops.toList 0 a0 rfl e0)]
    refine hend f w k hk hI (fun i hi => (hτ i (hall i hi)).2) fun i o t j hi ho ha hw => ?_
    have hi' : i < ops.size := by simpa using hi
    obtain ⟨h1, h2⟩ := hcp i o t j (hall i hi') ho ha hw
    exact ⟨by simpa using (hτ j h1).1, h2⟩
  intro fuel
  induction fuel with
  | zero =>
    intro listed a w k hk hsz hc h
    have hr : Region.ready .any ops listed = [] := by
      refine List.eq_nil_iff_forall_not_mem.2 fun i hi => ?_
      obtain ⟨h1, o, ho, _⟩ := mem_ready.1 hi
      have hlt := (Array.getElem?_eq_some_iff.1 ho).1
      have hpos : 0 < open_ ops listed := List.countP_pos_iff.2 ⟨i, List.mem_range.2 hlt, by
        have : i < listed.size := by omega
        simpa [Array.getD, this] using h1⟩
      omega
    exact ⟨hr, last listed a w k (by omega) hsz h hr⟩
  | succ fuel ih =>
    intro listed a w k hk0 hsz hc h
    refine ⟨last listed a w k (by omega) hsz h, fun i hi => ?_⟩
    obtain ⟨h1, o, ho, hr⟩ := mem_ready.1 hi
    have hlt := (Array.getElem?_eq_some_iff.1 ho).1
    have hil : i < listed.size := by omega
    have h1' : listed.getD i false = false := by simpa [Array.getD, hil] using h1
    obtain ⟨hanc, hk⟩ := h.knownG hB hS ho h1' hr
    have hcopy : ∀ (f : Nat → Value), Is ops a0 (fun i => listed.getD i false) f a → ∀ t j, o.op = .assign (.tmp t) → writer ops i t = some j → listed.getD j false = true ∧ a.eval (.tmp t) = f j := fun f hf t j ha hw => h.copyG hB hS ho h1' hr hf ha hw
    have hnop : ∀ t, o.op = .assign (.tmp t) → (norm1 gl o).op = .assign (.tmp t) := fun t ha => by
      have hg0 := (rgG_ok hB ho).asg _ ha
      obtain ⟨d', op, ty, pos, aft, g⟩ := o
      simp only at hg0
      subst hg0
      exact ha
    obtain ⟨hC, f, hf, hI, hτ, hcp⟩ := h
    have hg := hstep i o ho k _ a.eval w (by omega) hI (fun e => if_neg (fun hdl => by have := ancB_shut hC 8 i d e hdl; rw [h1'] at this; cases this)) hk
    have hfin : ∀ v w', (τ i w' v ∧ I (k + 1) (if i = d then some v else if listed.getD d false = true then some (f d) else none) w' ∧ G w w') → (∀ x, (norm1 gl o).op = .assign x → v = a.eval x) → wpAny P .any ops Q fuel (listed.setIfInBounds i true) (a.put o.dst v) w' := by
      intro v w' ⟨hv, hI', hgw⟩ hva
      have eL : (fun j => (listed.setIfInBounds i true).getD j false) = fun j => if j = i then true else listed.getD j false := by
        funext j
        by_cases e : j = i
        · subst e; simp [hil]
        · simp only [e, if_false]
          exact getD_set_ne false (fun h => e h.symm)
      refine ih _ _ _ (k + 1) (by omega) (by simpa using hsz) ?_ ?_
      · have : open_ ops (listed.setIfInBounds i true) < open_ ops listed := by
          refine countP_lt (fun x _ hx => ?_) ⟨i, List.mem_range.2 hlt, by simpa using h1', ?_⟩
          · have : (listed.setIfInBounds i true).getD x false = if x = i then true else listed.getD x false := congrFun eL x
            rw [this] at hx
            by_cases e : x = i
            · simp [e] at hx
            · simpa [e] using hx
          · have : (listed.setIfInBounds i true).getD i false = if i = i then true else listed.getD i false := congrFun eL i
            rw [this]
            simp
        omega
      · rw [eL]
        refine ⟨fun j p hj hp e he hb => ?_, _, hf.stepG hB ho h1' v, ?_, fun j hj => ?_, fun j p t q hj hp ha hw => ?_⟩
        · by_cases ej : j = i
          · subst ej
            obtain rfl := Option.some.inj (ho.symm.trans hp)
            have := hr e he hb
            by_cases ee : e.on = j <;> simp [ee, this]
          · simp only [ej, if_false] at hj
            have := hC j p hj hp e he hb
            by_cases ee : e.on = i <;> simp [ee, this]
        · by_cases ed : i = d
          · subst ed
            simpa using hI'
          · simpa [ed, show ¬ d = i from fun h => ed h.symm] using hI'
        · by_cases ej : j = i
          · subst ej
            exact ⟨hlt, by simpa using hv⟩
          · simp only [ej, if_false] at hj ⊢
            exact ⟨(hτ j hj).1, hG j _ _ _ (hτ j hj).2 hgw⟩
        · have hqj : q < j := List.mem_range.1 (List.mem_of_find?_eq_some hw)
          by_cases ej : j = i
          · subst ej
            obtain rfl := Option.some.inj (ho.symm.trans hp)
            obtain ⟨h5, h6⟩ := hcopy f hf t q ha hw
            have hne : q ≠ j := by omega
            exact ⟨by simp only [hne, if_false]; exact h5, by simp only [hne, if_false, if_true]; rw [hva _ (hnop _ ha), h6]⟩
          · simp only [ej, if_false] at hj ⊢
            obtain ⟨h5, h6⟩ := hcp j p t q hj hp ha hw
            have h5' : listed.getD q false = true := h5
            have hne : q ≠ i := fun e => by rw [e, h1'] at h5'; cases h5'
            simp only [hne, if_false]
            exact ⟨h5, h6⟩
    have hga := hg.assign
    unfold wpOp
    simp only [ho]
    cases hgd : o.guard with
    | none =>
      have hn : norm1 gl o = o := by
        obtain ⟨d', op, ty, pos, aft, g⟩ := o
        simp only at hgd
        subst hgd
        rfl
      rw [hn] at hga hfin
      rw [if_pos (by simp [Region.wanted, hgd])]
      exact .inl (Good.wp hga fun v w' ⟨h5, hva⟩ => hfin v w' h5 hva)
    | some jb =>
      obtain ⟨j, b⟩ := jb
      obtain ⟨hji, haj, x, p, t, hx, hp, ht⟩ := (rgG_ok hB ho).guard j b hgd
      have hLj := hanc j haj (by omega)
      obtain ⟨x', hx', hfj⟩ := hgl i o j b ho hgd w (f j) (hτ j hLj).2
      obtain rfl : x' = x := Option.some.inj (hx'.symm.trans hx)
      have htl : t < a0.tmps.size := by
        have := Array.all_eq_true_iff_forall_mem.1 hS p (Array.mem_of_getElem? hp)
        simpa [ht] using this
      have hm := hf.mine j p t hLj hp ht htl
      have hy : yielded ops a.tmps j = some x' := by
        have hsz' : t < a.tmps.size := by rw [hf.size]; exact htl
        have e : a.tmps[t]? = some (.bool x') := by
          rw [Array.getElem?_eq_getElem hsz']
          have : a.tmps.getD t undef = a.tmps[t] := by simp [Array.getD, hsz']
          rw [← this, hm, hfj]
        unfold yielded
        simp [hp, ht, e]
      by_cases hxb : x' = b
      · have hn : norm1 gl o = { o with guard := none } := by
          obtain ⟨d', op, ty, pos, aft, g⟩ := o
          simp only at hgd
          subst hgd
          unfold norm1
          simp only [hx', hxb, if_true]
        rw [hn] at hga hfin
        rw [if_pos (by simp [Region.wanted, hgd, hy, hxb])]
        exact .inl (Good.wp (o := o) hga fun v w' ⟨h5, hva⟩ => hfin v w' h5 hva)
      · have hn : norm1 gl o = { o with op := .move (.const undef), guard := none } := by
          obtain ⟨d', op, ty, pos, aft, g⟩ := o
          simp only at hgd
          subst hgd
          unfold norm1
          simp only [hx']
          rw [if_neg (fun e => hxb (Option.some.inj e))]
        rw [hn] at hga hfin
        rw [if_neg (by simp [Region.wanted, hgd, hy, hxb])]
        have hrun : (execOp a.eval { o with op := .move (.const undef), guard := none }).run P w = .ok (.value undef) w := by simp [execOp, go_sem, Act.eval]
        unfold Good at hga
        rw [hrun] at hga
        exact hfin undef w hga.1 hga.2
end
section
variable {S : RS} {Fin : List Ty → Prop}
def GuardsOk (τ : List Ty) : List (Nat × Bool) → Prop
  | [] => True
  | (j, b) :: l => tys τ j = TEq (.bool b) ∧ GuardsOk τ l
theorem guards_of {τ : List Ty} : ∀ {gl : List (Nat × Bool)}, GuardsOk τ gl → ∀ {j : Nat} {x : Bool}, look1 gl j = some x → tys τ j = TEq (.bool x)
  | [], _, j, x, h => by cases h
  | (k, b) :: l, ⟨h1, h2⟩, j, x, h => by
    unfold look1 at h
    rw [List.lookup_cons] at h
    by_cases e : j = k
    · subst e
      simp at h
      rw [← h]; exact h1
    · have : (j == k) = false := by simpa using e
      rw [this] at h
      exact guards_of h2 h
theorem rseq_typesG {gl : List (Nat × Bool)} : ∀ (l : List Oper) (τs : List Ty), S.ops.toList.drop τs.length = l → τs.length + l.length = S.ops.size → (∀ T ∈ τs, Stb S.E T) → RSeq S Fin (l.map (norm1 gl)) τs.length τs →
    ∃ τ : List Ty, (∀ j, j < τs.length → tys τ j = tys τs j) ∧ (∀ T ∈ τ, Stb S.E T) ∧ Fin τ ∧ ∀ i o, τs.length ≤ i → S.ops[i]? = some o → ∀ k ov ρ w, k < S.ops.size → S.I k ov w → (ancB S.ops 8 i S.d = true → ov = none) → Known S.ops (tys τ) S.a0 ρ w i (norm1 gl o).op.operands.toList → Good S.P (norm1 gl o) ρ w fun v w' => tys τ i w' v ∧ S.I (k + 1) (if i = S.d then some v else ov) w' ∧ Only S.E w w'
  | [], τs, _, hlen, hst, h => by
    simp at hlen
    refine ⟨τs, fun _ _ => rfl, hst, h, fun i o hi ho => ?_⟩
    have := (Array.getElem?_eq_some_iff.1 ho).1
    omega
  | o :: l, τs, hl, hlen, hst, h => by
    rw [List.map_cons] at h
    obtain ⟨T, hT, hg, hr⟩ := h hst
    have hst' : ∀ T' ∈ T :: τs, Stb S.E T' := by
      intro T' hT'
      rcases List.mem_cons.1 hT' with h1 | h1
      · rw [h1]; exact hT
      · exact hst T' h1
    have hdrop : S.ops.toList.drop (T :: τs).length = l := by
      rw [List.length_cons, ← List.drop_drop, hl]; rfl
    obtain ⟨τ, h2, h3, h4, h5⟩ := rseq_typesG l (T :: τs) hdrop (by simp at hlen ⊢; omega) hst' (by rw [List.length_cons]; exact hr)
    rw [List.length_cons] at h2 h5
    have hget : ∀ j, j < τs.length → tys τ j = tys τs j := fun j hj => (h2 j (by omega)).trans (tys_old T τs hj)
    have hgetT : tys τ τs.length = T := (h2 _ (by omega)).trans (tys_new T τs)
    refine ⟨τ, hget, h3, h4, fun i o' hi ho => ?_⟩
    rcases Nat.lt_or_ge τs.length i with hlt | hge
    · exact h5 i o' hlt ho
    · obtain rfl : i = τs.length := by omega
      have : o' = o := by
        have e : S.ops.toList[τs.length]? = some o := by
          have := congrArg (fun l => l[0]?) hl
          simpa using this
        rw [Array.getElem?_toList] at e
        exact Option.some.inj (ho.symm.trans e)
      subst this
      intro k ov ρ w hk hI hd hK
      rw [hgetT]
      exact hg k ov ρ w hk hI hd (known_mono (fun j w v hj h => by rw [← hget j hj]; exact h) _ hK)
/-- THE RULE, with guards. -/
theorem wp_region_rsG {id : Nat} {Q : Exit → Act → World → Prop} (gl : List (Nat × Bool)) (S : RS) (hO : S.Ok) (hm : S.P.follows .mixedOrders = true) (hB : rgG gl S.ops = true) (hS : (S.ops.all fun o => match o.dst with | some t => decide (t < S.a0.tmps.size) | none => true) = true) (hd : S.d < S.ops.size)
    (hr : RdO S.rd 0 S.w0) (hJ : S.J none S.w0)
    (h : RSeq S (fun τ => GuardsOk τ gl ∧ ∀ f w' k, k ≤ S.ops.size → S.I k (some (f S.d)) w' → (∀ i, i < S.ops.size → tys τ i w' (f i)) → Copies S.ops (fun j => decide (j < S.ops.size)) f → Q .normal (putAll S.ops.toList f 0 S.a0) w') (S.ops.toList.map (norm1 gl)) 0 []) : (Code.region id S.ops true).wp S.P Q S.a0 S.w0 := by
  obtain ⟨τ, _, h3, ⟨h4g, h4⟩, h5⟩ := rseq_typesG (gl := gl) S.ops.toList [] (by simp) (by simp) (by simp) h
  have h0 : S.I 0 none S.w0.drew := by
    refine ⟨?_, Only.drew _ _, hO.keep _ _ _ hJ (Only.drew _ _)⟩
    cases hrd : S.rd with
    | none => trivial
    | some x =>
      rw [hrd] at hr
      exact Rd.drew1 hr
  refine wp_region_any hm (rg_anyG (gl := gl) (τ := tys τ) (d := S.d) (I := S.I) (G := Only S.E) hB hS (fun i v w w' ht hg => tys_stb h3 i v w w' ht hg) (fun i o ho => h5 i o (Nat.zero_le _) ho) (fun i o j b ho hg w v ht => ?_) hd (fun f w' k hk hI ht hc => h4 f w' k hk hI ht hc) S.ops.size (Array.replicate S.ops.size false) S.a0 _ 0 (by omega) (by simp) ?_ ?_)
  · obtain ⟨_, _, x, p, t, hx, _, _⟩ := (rgG_ok hB ho).guard j b hg
    rw [guards_of h4g hx] at ht
    exact ⟨x, hx, ht⟩
  · unfold open_
    exact Nat.le_trans List.countP_le_length (by simp)
  · have e : (fun i => (Array.replicate S.ops.size false).getD i false) = fun _ => false := by
      funext i
      by_cases h : i < S.ops.size <;> simp [Array.getD, h]
    rw [e]
    exact ⟨(fun j o hj => (by cases hj)), ⟨fun _ => undef, Is.start S.a0 _, h0, (fun i hi => (by cases hi)), (fun i o t j hi => (by cases hi))⟩⟩
variable {gl : List (Nat × Bool)} {d : Option Tmp} {op : Op} {ty : TypeId} {pos : String} {aft : Array Edge} {l : List Oper} {i j : Nat} {b : Bool} {τs : List Ty}
theorem rs_peel (h : RSeq S Fin (⟨d, op, ty, pos, aft, none⟩ :: l.map (norm1 gl)) i τs) : RSeq S Fin ((⟨d, op, ty, pos, aft, none⟩ :: l).map (norm1 gl)) i τs := h
theorem rs_run (hb : look1 gl j = some b) (h : RSeq S Fin (⟨d, op, ty, pos, aft, none⟩ :: l.map (norm1 gl)) i τs) : RSeq S Fin ((⟨d, op, ty, pos, aft, some (j, b)⟩ :: l).map (norm1 gl)) i τs := by
  rw [List.map_cons, norm1, if_pos hb]; exact h
theorem rs_skip (hb : look1 gl j = some (!b)) (h : RSeq S Fin (⟨d, .move (.const undef), ty, pos, aft, none⟩ :: l.map (norm1 gl)) i τs) : RSeq S Fin ((⟨d, op, ty, pos, aft, some (j, b)⟩ :: l).map (norm1 gl)) i τs := by
  rw [List.map_cons, norm1, if_neg (by rw [hb]; cases b <;> simp)]; exact h
end
end Go.Proofs.Ytlbfejdbfhgifaa
