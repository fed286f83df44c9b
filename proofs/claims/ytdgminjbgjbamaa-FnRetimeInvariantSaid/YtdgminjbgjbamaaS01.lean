import Derived.WalkKit
import Derived.WalkSpells
import Derived.BigQuiet
import Derived.Below
import Derived.OpenShut
import Derived.Laws.OwnMore
import Derived.OwnWalk
import Derived.Deep.OwnRows
import Derived.Deep.Draws
import Derived.Deep.QuietTactic
import Derived.Outline
import Derived.Lib.Hide
import Derived.Test.YtdgminjbgjbamaaProg
import Derived.Maps.Views
import Derived.Maps.OwnOps
import Derived.Maps.RangeWalk
import Derived.DeepKeys4
import Derived.Maps.AppendAt
import Derived.Deep.Quiet
set_option linter.unusedVariables false
set_option linter.unusedSimpArgs false
set_option maxRecDepth 100000
set_option maxHeartbeats 16000000
namespace Go.Proofs.Ytdgminjbgjbamaa
open Go.RowKit
def Drew (w w' : World) : Prop := ∃ m, w' = w.drewN m
theorem Drew.refl (w : World) : Drew w w := ⟨0, rfl⟩
theorem Drew.by (w : World) (m : Nat) : Drew w (w.drewN m) := ⟨m, rfl⟩
theorem Drew.more {w a : World} (h : Drew w a) (n : Nat) : Drew w (a.drewN n) := by
  obtain ⟨m, rfl⟩ := h
  exact ⟨m + n, World.drewN_drewN _ _ _⟩
theorem Drew.cell {w a : World} (h : Drew w a) (p : Addr) : a.cell? p = w.cell? p := by
  obtain ⟨m, rfl⟩ := h
  rfl
theorem Drew.below {w a : World} (h : Drew w a) (B : Nat) : Below B w a := by
  obtain ⟨m, rfl⟩ := h
  exact ⟨rfl, rfl, rfl, Nat.le_refl _, fun _ _ => rfl⟩
def Row (w : World) (size : Nat) (v : Value) (n : Nat) (cs : List Value) : Prop :=
  cs.length = n * size ∧ ∃ A c, v = .slice A n c ∧ n ≤ c ∧ c ≤ maxLen ∧
    (0 < n → ∃ b o, A = some ⟨b, o, none⟩ ∧ b < w.heap.size ∧ ∀ j u, cs[j]? = some u → w.cell? ⟨b, o + j, none⟩ = some u)
section
variable {w w' : World} {size n : Nat} {v : Value} {cs : List Value}
theorem Row.shape (h : Row w size v n cs) : ∃ A c, v = .slice A n c ∧ n ≤ c ∧ c ≤ maxLen := by
  obtain ⟨_, A, c, hv, h1, h2, _⟩ := h
  exact ⟨A, c, hv, h1, h2⟩
theorem Row.open (h : Row w size v n cs) (hn : 0 < n) : ∃ b o c, v = .slice (some ⟨b, o, none⟩) n c ∧ n ≤ c ∧ c ≤ maxLen ∧ b < w.heap.size ∧ ∀ j u, cs[j]? = some u → w.cell? ⟨b, o + j, none⟩ = some u := by
  obtain ⟨_, A, c, hv, h1, h2, h3⟩ := h
  obtain ⟨b, o, rfl, hb, hc⟩ := h3 hn
  exact ⟨b, o, c, hv, h1, h2, hb, hc⟩
theorem Row.keep (h : Row w size v n cs) (hs : w.heap.size ≤ w'.heap.size) (hk : ∀ p : Addr, p.block < w.heap.size → w'.cell? p = w.cell? p) : Row w' size v n cs := by
  obtain ⟨h0, A, c, hv, h1, h2, h3⟩ := h
  refine ⟨h0, A, c, hv, h1, h2, fun hn => ?_⟩
  obtain ⟨b, o, hA, hb, hc⟩ := h3 hn
  exact ⟨b, o, hA, by omega, fun j u hu => (hk _ hb).trans (hc j u hu)⟩
theorem Row.below (h : Row w size v n cs) (hb : Below w.heap.size w w') : Row w' size v n cs := h.keep hb.size fun _ hp => hb.cell hp
theorem Row.alloc (h : Row w size v n cs) (o : Obj) : Row (w.alloc o) size v n cs := h.below ((Below.refl _ _).alloc (Nat.le_refl _) o)
theorem Row.of_own {base : Nat} {e : TypeId} (h : w.ownsRow base e size v n cs) : Row w size v n cs := by
  refine ⟨h.1, ?_⟩
  rcases h.2 with ⟨rfl, rfl⟩ | ⟨g, cap, cur, rfl, _, hh, h1, h2, _⟩
  · exact ⟨none, 0, rfl, Nat.le_refl _, Nat.zero_le _, fun h => absurd h (by omega)⟩
  · refine ⟨_, cap, rfl, h1, h2, fun _ => ⟨g, 0, rfl, ?_, fun j u hu => ?_⟩⟩
    · rcases Nat.lt_or_ge g w.heap.size with hl | hl
      · exact hl
      · rw [Array.getElem?_eq_none hl] at hh; cases hh
    · have := h.cells (g := g) rfl j u hu
      rw [Nat.zero_add]
      by_cases hj : j = 0
      · subst hj; exact this
      · simpa [Addr.add, hj] using this
theorem Row.nil (w : World) (size : Nat) : Row w size (.slice none 0 0) 0 [] :=
  ⟨by simp, none, 0, rfl, Nat.le_refl _, Nat.zero_le _, fun h => absurd h (by omega)⟩
end
def ints (xs : List Int) : List Value := xs.map (Value.int .i64)
def IntsAt (w : World) (v : Value) (xs : List Int) : Prop := Row w 1 v xs.length (ints xs)
theorem ints_at {xs : List Int} {i : Nat} (h : i < xs.length) : ∃ x, xs[i]? = some x ∧ (ints xs)[i]? = some (.int .i64 x) :=
  ⟨xs[i], List.getElem?_eq_getElem h, by simp [ints, h]⟩
theorem Row.given {w : World} {k : IntKind} {a : Option Addr} {len cap : Nat} {zs : List Int}
    (h : (a = none ∧ len = 0 ∧ cap = 0 ∧ zs = []) ∨
      ∃ x, a = some x ∧ len ≤ cap ∧ cap ≤ maxLen ∧ zs.length = cap ∧ (∀ i, i < zs.length → w.cell? (x.add i) = some (.int k (zs.getD i 0))) ∧ ∀ n ∈ zs, (Lit.int k n).wf = true) :
    ∃ xs : List Int, xs.length = len ∧ (∀ n ∈ xs, (Lit.int k n).wf = true) ∧ Row w 1 (.slice a len cap) len (xs.map (Value.int k)) := by
  rcases h with ⟨rfl, rfl, rfl, rfl⟩ | ⟨x, rfl, h1, h2, h3, h4, h5⟩
  · exact ⟨[], rfl, by simp, Row.nil w 1⟩
  · refine ⟨zs.take len, by simp; omega, fun n hn => h5 n (List.mem_of_mem_take hn), by simp; omega, some x, cap, rfl, h1, h2, fun hp => ?_⟩
    obtain ⟨b, off, spot⟩ := x
    have h0 := h4 0 (by omega)
    have hspot : spot = none := by simpa [Addr.add] using World.cell?_spot h0
    subst hspot
    refine ⟨b, off, rfl, ?_, fun j u hu => ?_⟩
    · rcases Nat.lt_or_ge b w.heap.size with hl | hl
      · exact hl
      · simp [World.cell?, Addr.add, Array.getElem?_eq_none hl] at h0
    · have hj : j < len := by
        obtain ⟨hj, _⟩ := List.getElem?_eq_some_iff.1 hu
        simp at hj; omega
      rw [← Go.WideShapes.add_plain, h4 j (by omega), ← hu]
      simp [List.getElem?_take, hj, List.getD_eq_getElem?_getD, show j < zs.length from by omega]
theorem own_open {w : World} {base : Nat} {e : TypeId} {size n : Nat} {v : Value} {cs : List Value} (h : w.ownsRow base e size v n cs) (hn : 0 < n) :
    ∃ g c, v = .slice (some ⟨g, 0, none⟩) n c ∧ base ≤ g ∧ g < w.heap.size ∧ n ≤ c ∧ c ≤ maxLen := by
  rcases h.2 with ⟨rfl, rfl⟩ | ⟨g, cap, cur, rfl, hb, hh, h1, h2, _⟩
  · omega
  · refine ⟨g, cap, rfl, hb, ?_, h1, h2⟩
    rcases Nat.lt_or_ge g w.heap.size with hl | hl
    · exact hl
    · rw [Array.getElem?_eq_none hl] at hh; cases hh
theorem own_slot {w : World} {base : Nat} {e : TypeId} {size n cap g : Nat} {cs : List Value} (h : w.ownsRow base e size (.slice (some ⟨g, 0, none⟩) n cap) n cs) {j : Nat} (hj : j < n * size) :
    ∃ u, cs[j]? = some u ∧ w.cell? ⟨g, j, none⟩ = some u ∧ w.frozen? ⟨g, j, none⟩ = false := by
  have hl := h.1
  refine ⟨cs[j]'(by omega), List.getElem?_eq_getElem _, ?_, h.frozenAt j⟩
  rw [h.cellAt j hj, List.getElem?_eq_getElem]
theorem own_below {w w' : World} {base : Nat} {e : TypeId} {size n : Nat} {v : Value} {cs : List Value} (h : w.ownsRow base e size v n cs) (hb : Below w.heap.size w w') : w'.ownsRow base e size v n cs := by
  refine h.kept (row := none) ⟨hb.os, hb.tape, hb.output, hb.size, fun k hk _ => hb.block k hk⟩ ?_
  cases hv : v.ownBlock with
  | none => exact .inl rfl
  | some q => exact .inr (by simp)
theorem take_set_succ {α : Type} {cs L : List α} {k : Nat} {u : α} (hk : k < cs.length) (h : cs.take k = L.take k) (hu : L[k]? = some u) : (cs.set k u).take (k + 1) = L.take (k + 1) := by
  apply List.ext_getElem?
  intro j
  have hj := congrArg (fun l => l[j]?) h
  simp only [List.getElem?_take, List.getElem?_set] at hj ⊢
  by_cases h1 : j < k
  · simpa [h1, Nat.lt_succ_of_lt h1, Nat.ne_of_gt h1] using hj
  · by_cases h2 : j = k
    · subst h2; simp [hk, hu]
    · simp [show ¬ j < k + 1 from by omega]
theorem take_snoc {α : Type} {xs : List α} {k : Nat} {x : α} (h : xs[k]? = some x) : xs.take (k + 1) = xs.take k ++ [x] := by
  rw [List.take_add_one, h]; rfl
section
variable {P : Program}
end
theorem blk_cell {w : World} {g : Nat} {cs : Array Value} {t : TypeId} (h : w.heap[g]? = some (.cells cs t (0, 0))) (i : Nat) : w.cell? ⟨g, i, none⟩ = cs[i]? := cell_of_row w g i cs t (0, 0) h
theorem blk_free {w : World} {g : Nat} {cs : Array Value} {t : TypeId} (h : w.heap[g]? = some (.cells cs t (0, 0))) (i : Nat) : w.frozen? ⟨g, i, none⟩ = false := by simp [World.frozen?, h]
end Go.Proofs.Ytdgminjbgjbamaa
namespace Go.Proofs.Ytdgminjbgjbamaa
open Go.RowKit
structure Only (E : Nat → Prop) (w w' : World) : Prop where
  os : w'.os = w.os
  tape : w'.tape = w.tape
  output : w'.output = w.output
  size : w.heap.size ≤ w'.heap.size
  block : ∀ k, k < w.heap.size → ¬ E k → w'.heap[k]? = w.heap[k]?
section
variable {E : Nat → Prop} {a b c : World}
theorem Only.refl (E : Nat → Prop) (w : World) : Only E w w := ⟨rfl, rfl, rfl, Nat.le_refl _, fun _ _ _ => rfl⟩
theorem Only.trans (h : Only E a b) (h' : Only E b c) : Only E a c :=
  ⟨h'.os.trans h.os, h'.tape.trans h.tape, h'.output.trans h.output, Nat.le_trans h.size h'.size, fun k hk he => (h'.block k (Nat.lt_of_lt_of_le hk h.size) he).trans (h.block k hk he)⟩
theorem Only.grown {r : Option Nat} (h : a.grownBy b r) (hr : ∀ k, r = some k → E k) : Only E a b :=
  ⟨h.os, h.tape, h.output, h.size, fun k hk he => h.block k hk fun e => he (hr k e.symm)⟩
theorem Only.drew (E : Nat → Prop) (w : World) : Only E w w.drew := ⟨rfl, rfl, rfl, Nat.le_refl _, fun _ _ _ => rfl⟩
theorem Only.mono {F : Nat → Prop} (h : Only E a b) (hE : ∀ k, E k → F k) : Only F a b := ⟨h.os, h.tape, h.output, h.size, fun k hk he => h.block k hk fun e => he (hE k e)⟩
theorem Only.of_below (E : Nat → Prop) (h : Below a.heap.size a b) : Only E a b := ⟨h.os, h.tape, h.output, h.size, fun k hk _ => h.block k hk⟩
theorem Only.below {B : Nat} {w : World} (h : Below B w a) (h' : Only E a b) (hB : B ≤ a.heap.size) (hE : ∀ k, E k → B ≤ k) : Below B w b :=
  ⟨h'.os.trans h.os, h'.tape.trans h.tape, h'.output.trans h.output, Nat.le_trans h.size h'.size, fun k hk => (h'.block k (Nat.lt_of_lt_of_le hk hB) fun e => by have := hE k e; omega).trans (h.block k hk)⟩
theorem Only.grownBy {R : Nat} (h : Only (· = R) a b) : a.grownBy b (some R) := ⟨h.os, h.tape, h.output, h.size, fun k hk hn => h.block k hk fun e => hn (by rw [e])⟩
end
end Go.Proofs.Ytdgminjbgjbamaa
namespace Go.Proofs.Ytdgminjbgjbamaa
open Go.RowKit Go.Maps
theorem set_keyed : Keyed Try.prog 3 := int_keyed Try.underlying3
def SetAt (w : World) (b n : Nat) (S : Nat → Bool) : Prop := ∃ D : DataW Unit, w.ownsMap Try.prog 3 (plainElem Try.prog 4) b n D ∧ IsMap D ∧ (∀ x : Nat, D.atKey (.int .i64 (x : Int)) (.lit (.bool false)) = .lit (.bool (S x))) ∧ (∀ kl, Maps.has D kl = true → ∃ x : Nat, kl = .int .i64 (x : Int) ∧ S x = true ∧ (x : Int) ≤ 9223372036854775807) ∧ ∀ x : Nat, S x = true → Maps.has D (.int .i64 (x : Int)) = true
theorem SetAt.lt {w : World} {b n : Nat} {S : Nat → Bool} (h : SetAt w b n S) : b < w.heap.size := by
  obtain ⟨D, h1, _⟩ := h
  exact h1.lt
theorem SetAt.only {E : Nat → Prop} {w w' : World} {b n : Nat} {S : Nat → Bool} (h : SetAt w b n S) (ho : Only E w w') (hE : ¬ E b) : SetAt w' b n S := by
  have hl := h.lt
  obtain ⟨D, ⟨es, clock, h1, h2, h3, h4⟩, h5⟩ := h
  exact ⟨D, ⟨es, clock, (ho.block b hl hE).trans h1, h2, h3, h4⟩, h5⟩
theorem SetAt.below {w w' : World} {b n : Nat} {S : Nat → Bool} (h : SetAt w b n S) (hb : Below w.heap.size w w') : SetAt w' b n S :=
  h.only (E := fun _ => False) ⟨hb.os, hb.tape, hb.output, hb.size, fun k hk _ => hb.block k hk⟩ id
theorem SetAt.congr {w : World} {b n : Nat} {S S' : Nat → Bool} (h : SetAt w b n S) (he : ∀ x, S x = S' x) : SetAt w b n S' := by
  rwa [← funext he]
theorem setAt_made (w : World) : SetAt (w.alloc (.map #[] 0)) w.heap.size 0 (fun _ => false) :=
  ⟨.map [], World.ownsMap_made w _ _ _, isMap_empty, fun x => rfl, fun kl h => (by cases h), fun x h => (by cases h)⟩
theorem i64_wf {x : Nat} (h : (x : Int) ≤ 9223372036854775807) : (Lit.int .i64 (x : Int)).wf = true := by
  simp [Lit.wf, IntKind.min, IntKind.max, IntKind.signed, IntKind.bits]
  omega
theorem i64_ne {x y : Nat} (h : x ≠ y) : Lit.int .i64 (x : Int) ≠ Lit.int .i64 (y : Int) := by
  intro e
  injection e with e1 e2
  exact h (by omega)
section
variable (w : World) {ops : Array Oper} {rest : List Oper} {o : Oper} {a : Act} {Q : Exit → Act → World → Prop}
theorem zero_bool (w : World) : (zeroValue 4).run Try.prog w = .ok (.bool false) w := by kernel_rfl
theorem wpList_add_set (hg : o.guard = none) (m x v : Operand) (hop : o.op = Op.mapUpdate 107 m x v ∨ o.op = Op.insert 107 m x v) (b n : Nat) (S : Nat → Bool) (hm : a.eval m = .map (some b)) (h : SetAt w b n S) (hn : n ≤ 1000000) (k : Nat) (hk : (k : Int) ≤ 9223372036854775807) (hx : a.eval x = .int .i64 (k : Int)) (hv : a.eval v = .bool true)
    (hK : ∀ w', SetAt w' b (n + 1) (fun z => S z || z == k) → w.grownBy w' (some b) → wpList Try.prog ops Q rest (a.put o.dst undef) w') : wpList Try.prog ops Q (o :: rest) a w := by
  refine wpList_plain hg fun K' hK' => ?_
  obtain ⟨D, h1, h2, h3, h4, h5⟩ := h
  have hkey := keyOf_int_mk (P := Try.prog) Try.underlying3 (i64_wf hk)
  obtain ⟨w', hrun, r1, r2⟩ := h1.update set_keyed Try.underlying107 (by unfold maxLen; omega) hkey (plainElem_bool Try.underlying4 true)
  have hlit : WideAt.IsKeyLit (.int .i64 (k : Int)) := set_keyed.key hkey
  unfold Oper.wp
  have hq : SetAt w' b (n + 1) (fun z => S z || z == k) := by
    refine ⟨_, r1, h2.put _ _, fun x => ?_, fun kl hh => ?_, fun x hS => ?_⟩
    · by_cases hxk : x = k
      · subst hxk
        rw [atKey_put_same h2 hlit]
        simp
      · rw [atKey_put_other (i64_ne hxk), h3 x]
        have : (x == k) = false := by simpa using hxk
        simp [this]
    · by_cases hkl : kl = .int .i64 (k : Int)
      · exact ⟨k, hkl, by simp, hk⟩
      · rw [has_put_other hkl] at hh
        obtain ⟨x, e1, e2, e3⟩ := h4 kl hh
        exact ⟨x, e1, by simp [e2], e3⟩
    · by_cases hxk : x = k
      · subst hxk
        exact has_put_same h2 hlit _
      · rw [has_put_other (i64_ne hxk)]
        have h6 : (x == k) = false := by simpa using hxk
        simp [h6] at hS
        exact h5 x hS
  have hw2 := hK w' hq r2
  rcases hop with hop | hop
  · simp [execOp, hop, hm, hx, hv, hrun, Result.andThen]
    exact hK' _ _ hw2
  · simp [execOp, hop, hm, hx, hv, hrun, Result.andThen]
    exact hK' _ _ hw2
end
end Go.Proofs.Ytdgminjbgjbamaa
namespace Go.Proofs.Ytdgminjbgjbamaa
open Go.RowKit Go.Maps
theorem gmap_laidOut : laidOutB Try.prog = true := by kernel_rfl
theorem gmap_row : (72 : TypeId) < Try.prog.types.size := of_decide_eq_true (by kernel_rfl)
theorem gmap_deep : Try.prog.keyTypeAt 2 72 = true := by kernel_rfl
theorem gmap_deepT : Try.prog.keyType 72 = true := by kernel_rfl
theorem gmap_wide : (match Try.prog.underlying 72 with | some (.array _ _) | some (.struct _) => true | _ => false) = true := by kernel_rfl
theorem gmap_keyed : Keyed Try.prog 72 := Keyed.of_law (deep_law_laid gmap_laidOut (m := 2) (by omega) gmap_row gmap_deep gmap_wide)
theorem gmap_cells : Try.prog.cellsOf 72 = 2 := by kernel_rfl
theorem gmap_cellsI : Try.prog.cellsOf 3 = 1 := by kernel_rfl
def gkey (x y : Nat) : Value := .agg #[.int .i64 (x : Int), .int .i64 (y : Int)]
theorem gkey_some {x y : Nat} (hx : (x : Int) ≤ 9223372036854775807) (hy : (y : Int) ≤ 9223372036854775807) : ∃ l, keyOf Try.prog 72 (gkey x y) = some l := by
  obtain ⟨m, hm⟩ : ∃ m, Try.prog.types.size = m + 1 := ⟨_, (Nat.succ_pred_eq_of_pos (Nat.lt_of_le_of_lt (Nat.zero_le _) gmap_row)).symm⟩
  have h2 : (gkey x y).formed Try.prog 72 = true := by
    simp [gkey, Value.formed, Try.underlying72, gmap_cells]
  unfold keyOf
  rw [Try.underlying72]
  simp only [gmap_deepT, h2, Bool.and_self, if_true, hm]
  simp [Program.keyLits, gkey, Try.underlying72, Try.underlying3, Value.cells, gmap_cells, gmap_cellsI, i64_wf hx, i64_wf hy]
theorem gkey_inj {x y x' y' : Nat} (h : gkey x y = gkey x' y') : x = x' ∧ y = y' := by
  unfold gkey at h
  simp at h
  omega
theorem gkey_ne {x y x' y' : Nat} {l l' : Lit} (h : keyOf Try.prog 72 (gkey x y) = some l) (h' : keyOf Try.prog 72 (gkey x' y') = some l') (hne : ¬ (x = x' ∧ y = y')) : l ≠ l' := by
  intro e
  subst e
  exact hne (gkey_inj (gmap_keyed.inj h h'))
def GAt (w : World) (b n : Nat) (f : Nat → Nat → Option Nat) : Prop := ∃ D : DataW Unit, w.ownsMap Try.prog 72 (plainElem Try.prog 3) b n D ∧ IsMap D ∧ ∀ x y l, keyOf Try.prog 72 (gkey x y) = some l → Maps.has D l = (f x y).isSome ∧ D.atKey l (.lit (.int .i64 0)) = .lit (.int .i64 (((f x y).getD 0 : Nat) : Int))
theorem GAt.lt {w : World} {b n : Nat} {f : Nat → Nat → Option Nat} (h : GAt w b n f) : b < w.heap.size := by
  obtain ⟨D, h1, _⟩ := h
  exact h1.lt
theorem GAt.only {E : Nat → Prop} {w w' : World} {b n : Nat} {f : Nat → Nat → Option Nat} (h : GAt w b n f) (ho : Only E w w') (hE : ¬ E b) : GAt w' b n f := by
  have hl := h.lt
  obtain ⟨D, ⟨es, clock, h1, h2, h3, h4⟩, h5⟩ := h
  exact ⟨D, ⟨es, clock, (ho.block b hl hE).trans h1, h2, h3, h4⟩, h5⟩
theorem gAt_made (w : World) : GAt (w.alloc (.map #[] 0)) w.heap.size 0 (fun _ _ => none) :=
  ⟨.map [], World.ownsMap_made w _ _ _, isMap_empty, fun x y l h => ⟨rfl, rfl⟩⟩
section
variable (w : World) {ops : Array Oper} {rest : List Oper} {o : Oper} {a : Act} {Q : Exit → Act → World → Prop}
theorem zero_int (w : World) : (zeroValue 3).run Try.prog w = .ok (.int .i64 0) w := by kernel_rfl
theorem GAt.look {w : World} {b n : Nat} {f : Nat → Nat → Option Nat} (h : GAt w b n f) {x y : Nat} (hx : (x : Int) ≤ 9223372036854775807) (hy : (y : Int) ≤ 9223372036854775807) :
    (Instr.lookup 93 (.map (some b)) (gkey x y) true).run Try.prog w = .ok (.tuple #[.int .i64 (((f x y).getD 0 : Nat) : Int), .bool (f x y).isSome]) w := by
  obtain ⟨D, ⟨es, clock, hb, F, hs, hD⟩, h2, h3⟩ := h
  obtain ⟨l, hl⟩ := gkey_some hx hy
  obtain ⟨h4, h5⟩ := h3 x y l hl
  rcases Maps.fit_look true gmap_keyed Try.underlying93 (zero_int w) hb F hl with ⟨hrun, _, hat⟩ | ⟨e0, y0, hm0, _, hrun, hRv, hat, _⟩
  · rw [hrun]
    have e1 : Maps.has D l = false := by subst hD; exact has_false_of_atKey hat
    rw [e1] at h4
    cases hf : f x y with
    | none => simp
    | some v => rw [hf] at h4; simp at h4
  · rw [hrun]
    obtain ⟨c, e2, e3, e4⟩ := plainElem_int_inv Try.underlying3 hRv
    have e1 : Maps.has D l = true := by subst hD; exact has_true_of_atKey hat
    rw [e1] at h4
    have e5 := hat (.lit (.int .i64 0))
    rw [← hD, h5, e3] at e5
    injection e5 with e6
    injection e6 with e7 e8
    rw [e2, ← e8, ← h4]
    simp
theorem GAt.add {w : World} {b n : Nat} {f : Nat → Nat → Option Nat} (h : GAt w b n f) (hn : n ≤ 1000000) {x y v : Nat} (hx : (x : Int) ≤ 9223372036854775807) (hy : (y : Int) ≤ 9223372036854775807) (hv : (v : Int) ≤ 9223372036854775807) :
    ∃ w', (Instr.mapUpdate 93 (.map (some b)) (gkey x y) (.int .i64 (v : Int))).run Try.prog w = .ok () w' ∧ GAt w' b (n + 1) (fun x' y' => if x' = x ∧ y' = y then some v else f x' y') ∧ w.grownBy w' (some b) := by
  obtain ⟨D, h1, h2, h3⟩ := h
  obtain ⟨l, hl⟩ := gkey_some hx hy
  obtain ⟨w', hrun, r1, r2⟩ := h1.update gmap_keyed Try.underlying93 (by unfold maxLen; omega) hl (plainElem_int Try.underlying3 (i64_wf hv))
  have hlit : WideAt.IsKeyLit l := gmap_keyed.key hl
  refine ⟨w', hrun, ⟨_, r1, h2.put _ _, fun x' y' l' hl' => ?_⟩, r2⟩
  by_cases e : x' = x ∧ y' = y
  · obtain ⟨rfl, rfl⟩ := e
    rw [hl] at hl'
    injection hl' with hl'
    subst hl'
    rw [has_put_same h2 hlit, atKey_put_same h2 hlit]
    simp
  · have hne := gkey_ne hl' hl e
    dsimp only
    rw [has_put_other hne, atKey_put_other hne, if_neg e]
    exact h3 x' y' l' hl'
end
end Go.Proofs.Ytdgminjbgjbamaa
namespace Go.Proofs.Ytdgminjbgjbamaa
open Go.RowKit
section
variable {P : Program}
theorem run_append_row_at (w : World) (base : Nat) (t ty e : TypeId) (i : TypeInfo) (z : Value) (size bytes : Nat) (ht : P.underlying t = some (.slice e)) (hi : P.info? e = some i) (hz : i.zero = some z)
    (hsize : i.size = size) (hby : i.bytes = bytes) (hzs : z.cells.size = size) (hsz : 0 < size)
    (v : Value) (n : Nat) (xs : List Value) (hown : w.ownsRow base e size v n xs) (sv : Value) (m : Nat) (news : List Value) (hr : Row w size sv m news) (h1 : ∀ u ∈ news, u.oneCell' = true)
    (h63 : n + m ≤ maxLen) (hbytes : (n + m) * bytes ≤ 140737488355328) (hbase : base ≤ w.heap.size) :
    ∃ v' w', (Builtin.append_ #[t, t] ty #[v, sv]).run P w = .ok v' w' ∧ w'.ownsRow base e size v' (n + m) (xs ++ news) ∧ w.grownBy w' v.ownBlock ∧ (v'.ownBlock = v.ownBlock ∨ v'.ownBlock = some w.heap.size) := by
  obtain ⟨hl, A, c, rfl, hc1, hc2, hcell⟩ := hr
  cases A with
  | none =>
    have hm : m = 0 := by
      rcases Nat.eq_zero_or_pos m with h0 | h0
      · exact h0
      · obtain ⟨b, o, h, _⟩ := hcell h0
        cases h
    subst hm
    have hn : news = [] := List.eq_nil_of_length_eq_zero (by simpa using hl)
    subst hn
    refine ⟨v, w, ?_, by simpa using hown, World.grownBy.refl w _, .inl rfl⟩
    rcases hown.2 with ⟨rfl, rfl⟩ | ⟨g, cap, cur, rfl, _, _, hnc, _⟩
    · simp [Builtin.append_, run_underlying ht, sizeOf, typeInfo, hi, Builtin.lenOf, Builtin.firstCells]
    · simp [Builtin.append_, run_underlying ht, sizeOf, typeInfo, hi, Builtin.lenOf, Builtin.firstCells, hnc, storeCells]
  | some ad =>
    obtain ⟨v', w', hrun, hown', hgr, _, hat⟩ := run_append_own_at (P := P) w base t ty e i z size bytes ht hi hz hsize hby hzs hsz v n xs hown ad m c news hl (fun j u hj => by
      have hm : 0 < m := by
        obtain ⟨hj', _⟩ := List.getElem?_eq_some_iff.1 hj
        rcases Nat.eq_zero_or_pos m with h0 | h0
        · subst h0; omega
        · exact h0
      obtain ⟨b, o, hA, _, hc⟩ := hcell hm
      obtain rfl := Option.some.inj hA
      rw [Go.WideShapes.add_plain]
      exact hc j u hj) h1 h63 hbytes hbase
    exact ⟨v', w', hrun, hown', hgr, hat⟩
theorem wpList_append_at {w : World} {ops : Array Oper} {rest : List Oper} {o : Oper} {a : Act} {Q : Exit → Act → World → Prop} (hgd : o.guard = none) (s x : Operand) (t : TypeId)
    (ho : o.op = .call { callee := .builtin .append, args := #[s, x], argTypes := #[t, t] })
    (base : Nat) (e : TypeId) (i : TypeInfo) (z : Value) (size bytes : Nat) (ht : P.underlying t = some (.slice e)) (hi : P.info? e = some i) (hz : i.zero = some z)
    (hsize : i.size = size) (hby : i.bytes = bytes) (hzs : z.cells.size = size) (hsz : 0 < size)
    (v : Value) (n : Nat) (xs : List Value) (hs : a.eval s = v) (hown : w.ownsRow base e size v n xs) (sv : Value) (m : Nat) (news : List Value) (hx : a.eval x = sv) (hr : Row w size sv m news) (h1 : ∀ u ∈ news, u.oneCell' = true)
    (h63 : n + m ≤ maxLen) (hbytes : (n + m) * bytes ≤ 140737488355328) (hbase : base ≤ w.heap.size)
    (h : ∀ v' w', w'.ownsRow base e size v' (n + m) (xs ++ news) → w.grownBy w' v.ownBlock → (v'.ownBlock = v.ownBlock ∨ v'.ownBlock = some w.heap.size) → wpList P ops Q rest (a.put o.dst v') w') : wpList P ops Q (o :: rest) a w := by
  obtain ⟨v', w', hrun, h2, h3, h4⟩ := run_append_row_at (P := P) w base t o.type e i z size bytes ht hi hz hsize hby hzs hsz v n xs hown sv m news hr h1 h63 hbytes hbase
  refine wpList_plain hgd fun K hK => ?_
  unfold Oper.wp execOp
  simp only [ho, resolve, invoke, builtin, Sem.run_bind, Sem.run_pure, Result.andThen_ok, List.map_toArray, List.map_cons, List.map_nil, hs, hx, hrun]
  exact hK _ _ (h v' w' h2 h3 h4)
end
theorem own_mono {w : World} {base base' n size : Nat} {e : TypeId} {v : Value} {xs : List Value} (h : w.ownsRow base e size v n xs) (hb : base' ≤ base) : w.ownsRow base' e size v n xs :=
  ⟨h.1, h.2.imp id fun ⟨g, cap, cur, h1, h2, h3⟩ => ⟨g, cap, cur, h1, Nat.le_trans hb h2, h3⟩⟩
theorem own_kept {w w' : World} {base n size : Nat} {e : TypeId} {v : Value} {xs : List Value} {row : Option Nat} (h : w.ownsRow base e size v n xs) (hg : w.grownBy w' row) (hne : ∀ g, v.ownBlock = some g → row ≠ some g) : w'.ownsRow base e size v n xs :=
  h.kept hg (by
    cases hv : v.ownBlock with
    | none => exact .inl rfl
    | some g => exact .inr fun e => hne g hv e.symm)
end Go.Proofs.Ytdgminjbgjbamaa
namespace Go.Proofs.Ytdgminjbgjbamaa
open Go.RowKit
def runI (k m : Nat) : List Value := (List.range m).map fun i => Value.int .i64 ((k + i : Nat) : Int)
end Go.Proofs.Ytdgminjbgjbamaa
namespace Go.Proofs.Ytdgminjbgjbamaa
open Go.RowKit
section
variable {α : Type} {enc : List α → List Value} {w w' : World} {v : Value} {xss : List (List α)}
def SSAt (enc : List α → List Value) (w : World) (v : Value) (xss : List (List α)) : Prop :=
  ∃ vs : List Value, vs.length = xss.length ∧ Row w 1 v xss.length vs ∧ ∀ (i : Nat) (x : List α) (u : Value), xss[i]? = some x → vs[i]? = some u → Row w 1 u x.length (enc x)
theorem SSAt.shape (h : SSAt enc w v xss) : ∃ A c, v = .slice A xss.length c ∧ xss.length ≤ c ∧ c ≤ maxLen := by
  obtain ⟨vs, _, h2, _⟩ := h
  exact h2.shape
theorem ss_open {wr : World} {A : Option Addr} {n c : Nat} (h : SSAt enc w (.slice A n c) xss) (hb : Below w.heap.size w wr) {i : Nat} {x : List α} (hx : xss[i]? = some x) :
    ∃ b o B m, A = some ⟨b, o, none⟩ ∧ b < w.heap.size ∧ wr.cell? ⟨b, o + i, none⟩ = some (.slice B x.length m) ∧ x.length ≤ m ∧ m ≤ maxLen ∧ Row wr 1 (.slice B x.length m) x.length (enc x) := by
  obtain ⟨vs, h1, h2, h3⟩ := h
  obtain ⟨hi, _⟩ := List.getElem?_eq_some_iff.1 hx
  obtain ⟨b, o, c', hv, _, _, hbl, hcell⟩ := h2.open (by omega)
  obtain ⟨rfl, _⟩ : A = some ⟨b, o, none⟩ ∧ True := by injection hv with e1; exact ⟨e1, trivial⟩
  obtain ⟨u, hu⟩ : ∃ u, vs[i]? = some u := ⟨vs[i]'(by omega), List.getElem?_eq_getElem _⟩
  have hr := (h3 i x u hx hu).below hb
  obtain ⟨B, m, rfl, hm1, hm2⟩ := hr.shape
  exact ⟨b, o, B, m, rfl, hbl, (hb.cell (p := ⟨b, _, none⟩) hbl).trans (hcell _ _ hu), hm1, hm2, hr⟩
def Apart (u v : Value) : Prop := ∀ g, u.ownBlock = some g → v.ownBlock ≠ some g
theorem Apart.symm {u v : Value} (h : Apart u v) : Apart v u := fun g hg e => h g e hg
def OwnSS (enc : List α → List Value) (tO ti : TypeId) (B T : Nat) (w : World) (v : Value) (xss : List (List α)) : Prop :=
  ∃ vs : List Value, vs.length = xss.length ∧ w.ownsRow B tO 1 v xss.length vs ∧ (∀ (i : Nat) (x : List α) (u : Value), xss[i]? = some x → vs[i]? = some u → w.ownsRow B ti 1 u x.length (enc x)) ∧
    vs.Pairwise Apart ∧ (∀ u ∈ vs, Apart u v) ∧ (∀ g, v.ownBlock = some g → g < T) ∧ ∀ u ∈ vs, ∀ g, u.ownBlock = some g → g < T
variable {tO ti : TypeId} {B T : Nat}
theorem OwnSS.at (h : OwnSS enc tO ti B T w v xss) : SSAt enc w v xss := by
  obtain ⟨vs, h1, h2, h3, _⟩ := h
  exact ⟨vs, h1, Row.of_own h2, fun i x u hx hu => Row.of_own (h3 i x u hx hu)⟩
theorem OwnSS.nil (enc : List α → List Value) (tO ti : TypeId) (B T : Nat) (w : World) : OwnSS enc tO ti B T w (.slice none 0 0) [] :=
  ⟨[], rfl, World.ownsRow_nil _ _ _ _, by simp, List.Pairwise.nil, by simp, by simp [Value.ownBlock], by simp⟩
theorem OwnSS.mono {B' T' : Nat} (h : OwnSS enc tO ti B T w v xss) (hB : B' ≤ B) (hT : T ≤ T') : OwnSS enc tO ti B' T' w v xss := by
  obtain ⟨vs, h1, h2, h3, h4, h5, h6, h7⟩ := h
  exact ⟨vs, h1, own_mono h2 hB, fun i x u hx hu => own_mono (h3 i x u hx hu) hB, h4, h5, fun g hg => Nat.lt_of_lt_of_le (h6 g hg) hT, fun u hu g hg => Nat.lt_of_lt_of_le (h7 u hu g hg) hT⟩
theorem own_only {E : Nat → Prop} {base n size : Nat} {e : TypeId} {xs : List Value} (h : w.ownsRow base e size v n xs) (ho : Only E w w') (hE : ∀ g, v.ownBlock = some g → ¬ E g) : w'.ownsRow base e size v n xs := by
  refine ⟨h.1, ?_⟩
  rcases h.2 with h2 | ⟨g, cap, cur, rfl, hb, hh, h3⟩
  · exact .inl h2
  · refine .inr ⟨g, cap, cur, rfl, hb, ?_, h3⟩
    rw [ho.block g ?_ (hE g rfl)]
    · exact hh
    · rcases Nat.lt_or_ge g w.heap.size with hl | hl
      · exact hl
      · rw [Array.getElem?_eq_none hl] at hh; cases hh
theorem OwnSS.only {E : Nat → Prop} (h : OwnSS enc tO ti B T w v xss) (ho : Only E w w') (hE : ∀ g, B ≤ g → g < T → ¬ E g) : OwnSS enc tO ti B T w' v xss := by
  obtain ⟨vs, h1, h2, h3, h4, h5, h6, h7⟩ := h
  refine ⟨vs, h1, own_only h2 ho fun g hg => hE g (h2.lt g hg).1 (h6 g hg), fun i x u hx hu => own_only (h3 i x u hx hu) ho fun g hg => hE g ((h3 i x u hx hu).lt g hg).1 (h7 u (List.mem_of_getElem? hu) g hg), h4, h5, h6, h7⟩
end
def runs (k : Nat) : List Nat → List (List Value)
  | [] => []
  | n :: ns => runI k n :: runs (k + n) ns
theorem set_mid {α : Type} (A : List α) (z x : α) (m : Nat) (h : 0 < m) : (A ++ List.replicate m z).set A.length x = (A ++ [x]) ++ List.replicate (m - 1) z := by
  obtain ⟨k, rfl⟩ : ∃ k, m = k + 1 := ⟨m - 1, by omega⟩
  rw [List.replicate_succ, List.set_append_right _ _ (Nat.le_refl _), Nat.sub_self]
  simp
theorem set_mid_at {α : Type} (A : List α) (z x : α) (m k : Nat) (hk : k = A.length) (h : 0 < m) : (A ++ List.replicate m z).set k x = (A ++ [x]) ++ List.replicate (m - 1) z := by
  subst hk
  exact set_mid A z x m h
theorem made_one (z : Value) (n : Nat) : madeCells #[z] n = (List.replicate n z).toArray := by
  apply Array.ext
  · simp [madeCells]
  · intro i h1 h2
    simp [madeCells]
    have : i % 1 = 0 := Nat.mod_one i
    simp [this]
def total {α : Type} (xss : List (List α)) : Nat := (xss.map List.length).sum
end Go.Proofs.Ytdgminjbgjbamaa
namespace Go.Proofs.Ytdgminjbgjbamaa
open Go.RowKit
section
variable {α : Type} {enc : List α → List Value} {w w' : World} {v : Value} {xss : List (List α)}
def OwnSE (enc : List α → List Value) (tO ti : TypeId) (B : Nat) (E : Nat → Prop) (w : World) (v : Value) (xss : List (List α)) : Prop :=
  ∃ vs : List Value, vs.length = xss.length ∧ w.ownsRow B tO 1 v xss.length vs ∧ (∀ (i : Nat) (x : List α) (u : Value), xss[i]? = some x → vs[i]? = some u → w.ownsRow B ti 1 u x.length (enc x)) ∧
    vs.Pairwise Apart ∧ (∀ u ∈ vs, Apart u v) ∧ (∀ g, v.ownBlock = some g → E g) ∧ ∀ u ∈ vs, ∀ g, u.ownBlock = some g → E g
variable {tO ti : TypeId} {B : Nat} {E : Nat → Prop}
theorem OwnSE.nil (enc : List α → List Value) (tO ti : TypeId) (B : Nat) (E : Nat → Prop) (w : World) : OwnSE enc tO ti B E w (.slice none 0 0) [] :=
  ⟨[], rfl, World.ownsRow_nil _ _ _ _, by simp, List.Pairwise.nil, by simp, by simp [Value.ownBlock], by simp⟩
theorem OwnSE.below (h : OwnSE enc tO ti B E w v xss) (hb : Below w.heap.size w w') : OwnSE enc tO ti B E w' v xss := by
  obtain ⟨vs, h1, h2, h3, h4⟩ := h
  exact ⟨vs, h1, own_below h2 hb, fun i x u hx hu => own_below (h3 i x u hx hu) hb, h4⟩
theorem OwnSE.mono {B' : Nat} {E' : Nat → Prop} (h : OwnSE enc tO ti B E w v xss) (hB : B' ≤ B) (hT : ∀ g, E g → E' g) : OwnSE enc tO ti B' E' w v xss := by
  obtain ⟨vs, h1, h2, h3, h4, h5, h6, h7⟩ := h
  exact ⟨vs, h1, own_mono h2 hB, fun i x u hx hu => own_mono (h3 i x u hx hu) hB, h4, h5, fun g hg => hT g (h6 g hg), fun u hu g hg => hT g (h7 u hu g hg)⟩
theorem OwnSE.snoc {v2 u : Value} {x : List α} {vs : List Value} (h1 : vs.length = xss.length) (h2 : w.ownsRow B tO 1 v2 (xss.length + 1) (vs ++ [u])) (h3 : ∀ (i : Nat) (x : List α) (u : Value), xss[i]? = some x → vs[i]? = some u → w.ownsRow B ti 1 u x.length (enc x))
    (hu : w.ownsRow B ti 1 u x.length (enc x)) (h4 : vs.Pairwise Apart) (h5 : ∀ z ∈ vs, Apart z v2) (h6 : ∀ z ∈ vs, Apart z u) (h7 : Apart u v2) (t2 : ∀ g, v2.ownBlock = some g → E g) (t1 : ∀ z ∈ vs, ∀ g, z.ownBlock = some g → E g) (t0 : ∀ g, u.ownBlock = some g → E g) :
    OwnSE enc tO ti B E w v2 (xss ++ [x]) := by
  refine ⟨vs ++ [u], by simp [h1], by simpa using h2, fun i x' u' hx' hu' => ?_, ?_, ?_, t2, ?_⟩
  · rcases Nat.lt_or_ge i xss.length with hi | hi
    · rw [List.getElem?_append_left hi] at hx'
      rw [List.getElem?_append_left (by omega)] at hu'
      exact h3 i _ _ hx' hu'
    · rw [List.getElem?_append_right hi] at hx'
      rw [List.getElem?_append_right (by omega), h1] at hu'
      rcases hj : i - xss.length with _ | j
      · rw [hj] at hx' hu'
        simp at hx' hu'
        subst hx' hu'
        exact hu
      · rw [hj] at hx'
        simp at hx'
  · rw [List.pairwise_append]
    exact ⟨h4, by simp, fun a ha b hb => by rw [List.mem_singleton.1 hb]; exact h6 a ha⟩
  · intro z hz
    rcases List.mem_append.1 hz with h | h
    · exact h5 z h
    · rw [List.mem_singleton.1 h]; exact h7
  · intro z hz
    rcases List.mem_append.1 hz with h | h
    · exact t1 z h
    · rw [List.mem_singleton.1 h]; exact t0
end
theorem se_append {α : Type} {enc : List α → List Value} {tO ti : TypeId} {B : Nat} {E : Nat → Prop} {w w' : World} {v v' u : Value} {x : List α} {xss : List (List α)} {vs : List Value}
    (q1 : vs.length = xss.length) (q3 : ∀ (i : Nat) (x : List α) (u : Value), xss[i]? = some x → vs[i]? = some u → w.ownsRow B ti 1 u x.length (enc x)) (q4 : vs.Pairwise Apart) (q5 : ∀ u ∈ vs, Apart u v) (q6 : ∀ g, v.ownBlock = some g → E g) (q7 : ∀ u ∈ vs, ∀ g, u.ownBlock = some g → E g)
    (hu : w.ownsRow B ti 1 u x.length (enc x)) (hne : ∀ g, u.ownBlock = some g → ¬ E g) (hown : w'.ownsRow B tO 1 v' (xss.length + 1) (vs ++ [u])) (hg : w.grownBy w' v.ownBlock) (hat : v'.ownBlock = v.ownBlock ∨ v'.ownBlock = some w.heap.size) :
    OwnSE enc tO ti B (fun g => E g ∨ u.ownBlock = some g ∨ v'.ownBlock = some g) w' v' (xss ++ [x]) := by
  have hvs : ∀ z ∈ vs, ∀ g, z.ownBlock = some g → g < w.heap.size := fun z hz g hg => by
    obtain ⟨i, hi, rfl⟩ := List.mem_iff_getElem.1 hz
    exact ((q3 i _ _ (List.getElem?_eq_getElem (by omega)) (List.getElem?_eq_getElem hi)).lt g hg).2
  have huv : Apart u v' := fun g h1 h2 => by
    rcases hat with e | e
    · rw [e] at h2
      exact hne g h1 (q6 g h2)
    · rw [e] at h2
      have h3 := (hu.lt g h1).2
      have h4 := Option.some.inj h2
      omega
  have hzv : ∀ z ∈ vs, Apart z v' := fun z hz g h1 h2 => by
    rcases hat with e | e
    · rw [e] at h2
      exact q5 z hz g h1 h2
    · rw [e] at h2
      have h3 := hvs z hz g h1
      have h4 := Option.some.inj h2
      omega
  refine OwnSE.snoc (vs := vs) q1 hown (fun i x' u' hx hu' => own_kept (q3 i x' u' hx hu') hg fun g h1 h2 => q5 u' (List.mem_of_getElem? hu') g h1 h2) (own_kept hu hg fun g h1 h2 => hne g h1 (q6 g h2)) q4 hzv (fun z hz g h1 h2 => hne g h2 (q7 z hz g h1)) huv (fun g h => .inr (.inr h)) (fun z hz g h => .inl (q7 z hz g h)) (fun g h => .inr (.inl h))
end Go.Proofs.Ytdgminjbgjbamaa
namespace Go.Proofs.Ytdgminjbgjbamaa
theorem ofInt64 (a : Nat) (ha : a < 18446744073709551616) : (BitVec.ofInt 64 (a : Int)).toNat = a := by
  rw [BitVec.ofInt_natCast, BitVec.toNat_ofNat]; exact Nat.mod_eq_of_lt (by omega)
theorem i64_and_nat (a b : Nat) (ha : a < 9223372036854775808) (hb : b < 9223372036854775808) : bits .and .i64 (a : Int) (b : Int) = ((a &&& b : Nat) : Int) := by
  have hx : a &&& b < 2 ^ 63 := Nat.and_lt_two_pow _ (by omega)
  show IntKind.i64.wrap ((BitVec.ofInt 64 (a : Int) &&& BitVec.ofInt 64 (b : Int)).toNat : Int) = _
  rw [BitVec.toNat_and, ofInt64 a (by omega), ofInt64 b (by omega), IntWalk.i64_in _ (by omega)]
theorem i64_or_nat (a b : Nat) (ha : a < 9223372036854775808) (hb : b < 9223372036854775808) : bits .or .i64 (a : Int) (b : Int) = ((a ||| b : Nat) : Int) := by
  have hx : a ||| b < 2 ^ 63 := Nat.or_lt_two_pow (by omega) (by omega)
  show IntKind.i64.wrap ((BitVec.ofInt 64 (a : Int) ||| BitVec.ofInt 64 (b : Int)).toNat : Int) = _
  rw [BitVec.toNat_or, ofInt64 a (by omega), ofInt64 b (by omega), IntWalk.i64_in _ (by omega)]
theorem i64_xor_nat (a b : Nat) (ha : a < 9223372036854775808) (hb : b < 9223372036854775808) : bits .xor .i64 (a : Int) (b : Int) = ((a ^^^ b : Nat) : Int) := by
  have hx : a ^^^ b < 2 ^ 63 := Nat.xor_lt_two_pow (by omega) (by omega)
  show IntKind.i64.wrap ((BitVec.ofInt 64 (a : Int) ^^^ BitVec.ofInt 64 (b : Int)).toNat : Int) = _
  rw [BitVec.toNat_xor, ofInt64 a (by omega), ofInt64 b (by omega), IntWalk.i64_in _ (by omega)]
theorem i64_xor (a b : Int) (h1 : 0 ≤ a) (h2 : a < 9223372036854775808) (h3 : 0 ≤ b) (h4 : b < 9223372036854775808) : bits .xor .i64 a b = ((a.toNat ^^^ b.toNat : Nat) : Int) := by
  obtain ⟨A, rfl⟩ := Int.eq_ofNat_of_zero_le h1
  obtain ⟨B, rfl⟩ := Int.eq_ofNat_of_zero_le h3
  simpa using i64_xor_nat A B (by omega) (by omega)
theorem two_pow (k : Nat) : (2 : Int) ^ k = ((2 ^ k : Nat) : Int) := (Int.natCast_pow 2 k).symm
theorem ret_int {k : IntKind} {a b : Int} (h : a = b) : Ending.returned (.int k a) = .returned (.int k b) := by rw [h]
theorem ret_bool {a b : Bool} (h : a = b) : Ending.returned (.bool a) = .returned (.bool b) := by rw [h]
end Go.Proofs.Ytdgminjbgjbamaa
namespace Go.Proofs.Ytdgminjbgjbamaa
open Go.RowKit
def cubes (ks : List (Int × Int)) : List Value := ks.flatMap fun k => [.int .i64 k.1, .int .i64 k.2]
theorem cubes_append (a b : List (Int × Int)) : cubes (a ++ b) = cubes a ++ cubes b := by simp [cubes]
theorem cubes_get {ks : List (Int × Int)} {i : Nat} {k : Int × Int} (h : ks[i]? = some k) : (cubes ks)[i * 2]? = some (.int .i64 k.1) ∧ (cubes ks)[i * 2 + 1]? = some (.int .i64 k.2) := by
  induction ks generalizing i with
  | nil => simp at h
  | cons a ks ih =>
    cases i with
    | zero =>
      have : a = k := by simpa using h
      subst this
      simp [cubes]
    | succ i =>
      have := ih (i := i) (by simpa using h)
      have e : (i + 1) * 2 = i * 2 + 1 + 1 := by omega
      rw [e]
      simpa [cubes] using this
def CubesAt (w : World) (v : Value) (ks : List (Int × Int)) : Prop := Row w 2 v ks.length (cubes ks)
theorem at_some {α : Type} {xs : List α} {i : Nat} (h : i < xs.length) : ∃ x, xs[i]? = some x := ⟨xs[i], List.getElem?_eq_getElem h⟩
theorem cubes_open {w wr : World} {A : Option Addr} {n c : Nat} {ks : List (Int × Int)} (h : Row w 2 (.slice A n c) n (cubes ks)) (hb : Below w.heap.size w wr) {i : Nat} (hn : n = ks.length) (hi : i < ks.length) :
    ∃ b o k, A = some ⟨b, o, none⟩ ∧ b < w.heap.size ∧ Hid (ks[i]? = some k) ∧ wr.cell? ⟨b, o + i * 2, none⟩ = some (.int .i64 k.1) ∧ wr.cell? ⟨b, o + i * 2 + 1, none⟩ = some (.int .i64 k.2) := by
  subst hn
  obtain ⟨b, o, c', hv, _, _, hbl, hcell⟩ := h.open (by omega)
  obtain ⟨rfl, _⟩ : A = some ⟨b, o, none⟩ ∧ True := by injection hv with e1; exact ⟨e1, trivial⟩
  obtain ⟨k, hk⟩ := at_some hi
  obtain ⟨h1, h2⟩ := cubes_get hk
  refine ⟨b, o, k, rfl, hbl, Lib.hid hk, (hb.cell (p := ⟨b, _, none⟩) hbl).trans (hcell _ _ h1), ?_⟩
  rw [Nat.add_assoc]
  exact (hb.cell (p := ⟨b, _, none⟩) hbl).trans (hcell _ _ h2)
theorem run_make_any {P : Program} (t e : TypeId) (z : Value) (size bytes : Nat) (ht : P.underlying t = some (.slice e)) (hinfo : (P.info? e).map (fun i => (i.zero, i.size, i.bytes)) = some (some z, size, bytes))
    (kl kc : IntKind) (n : Nat) (hbytes : bytes * n ≤ 281474976710656) (h63 : n ≤ 9223372036854775807) (w : World) :
    (Instr.makeSlice t (.int kl (n : Int)) (.int kc (n : Int))).run P w = .ok (.slice (some ⟨w.heap.size, 0, none⟩) n n) (w.alloc (.cells (madeCells z.cells (n * size)) e)) := by
  obtain ⟨i, hi, hzz⟩ := Option.map_eq_some_iff.1 hinfo
  simp only [Prod.mk.injEq] at hzz
  obtain ⟨hz, hs, hb⟩ := hzz
  have hb' : (i.bytes : Int) * (n : Int) ≤ 281474976710656 := by
    have h : ((i.bytes * n : Nat) : Int) ≤ 281474976710656 := by rw [hb]; omega
    rwa [Int.natCast_mul] at h
  have hr := run_make (P := P) w t e i z ht hi hz kl kc n n (by omega) (Int.le_refl _) hb' (by omega)
  simp only [Int.toNat_natCast, hs] at hr
  exact hr
def bools (xs : List Bool) : List Value := xs.map Value.bool
def BoolsAt (w : World) (v : Value) (xs : List Bool) : Prop := Row w 1 v xs.length (bools xs)
theorem bools_length (xs : List Bool) : (bools xs).length = xs.length := List.length_map _
theorem bools_at {xs : List Bool} {i : Nat} (h : i < xs.length) : ∃ x, xs[i]? = some x ∧ (bools xs)[i]? = some (.bool x) :=
  ⟨xs[i], List.getElem?_eq_getElem h, by simp [bools, h]⟩
end Go.Proofs.Ytdgminjbgjbamaa
namespace Go.Proofs.Ytdgminjbgjbamaa
open Go.RowKit
theorem info_int : (Try.prog.info? 3).map (fun i => (i.zero, i.size, i.bytes)) = some (some (.int .i64 0), 1, 8) := by kernel_rfl
end Go.Proofs.Ytdgminjbgjbamaa
namespace Go.Proofs.Ytdgminjbgjbamaa
open Go.RowKit
def MarkedInts (B : Nat) (v : Value) (n k : Nat) (w : World) (e : Ending) (w' : World) : Prop :=
  e = .returned (.int .i64 ((k + n : Nat) : Int)) ∧ w'.ownsRow B 3 1 v n (runI k n) ∧ w.grownBy w' v.ownBlock
end Go.Proofs.Ytdgminjbgjbamaa
namespace Go.Proofs.Ytdgminjbgjbamaa
open Go.RowKit
def GW (w : World) := { w' : World // Below w.heap.size w w' }
instance (w : World) : Nonempty (GW w) := ⟨⟨w, Below.refl _ _⟩⟩
def gw {w : World} (n : GW w) : World := n.1
theorem gw_below {w : World} (n : GW w) : Below w.heap.size w (gw n) := n.2
theorem gw_cell {w : World} {p : Addr} {v : Value} (h : w.cell? p = some v) (hp : p.block < w.heap.size) : ∀ n : GW w, (gw n).cell? p = some v := fun n => ((gw_below n).cell hp).trans h
theorem wp_region_grow {P : Program} {id : Nat} {Q : Exit → Act → World → Prop} {a : Act} {w : World} {l : List Oper} (hm : P.follows .mixedOrders = true) (hB : Region.lexB .any l.toArray = true)
    (h : wpQuiet P l.toArray (fun w' => ∃ n : GW w, w' = gw n) (fun a' => ∀ w', (∃ n : GW w, w' = gw n) → Q .normal a' w') l a) : (Code.region id l.toArray true).wp P Q a w :=
  wp_region_quiet (C := fun w' => ∃ n : GW w, w' = gw n) hm hB ⟨⟨{ w with drawn := w.drawn + 1 }, ⟨rfl, rfl, rfl, Nat.le_refl _, fun _ _ => rfl⟩⟩, rfl⟩ (by simpa using h)
theorem grow_call {P : Program} {f : FuncId} {args : Array Value} {w : World} {n : GW w} {v : Value}
    (h : Calls P f args (gw n) fun e w'' => e = .returned v ∧ Below (gw n).heap.size (gw n) w'') : Calls P f args (gw n) fun e w'' => e = .returned v ∧ ∃ m : GW w, w'' = gw m :=
  h.mono fun _ w'' ⟨he, hb⟩ => ⟨he, ⟨w'', (gw_below n).trans (hb.mono (gw_below n).size)⟩, rfl⟩
theorem grow_same {P : Program} {f : FuncId} {args : Array Value} {w : World} {n : GW w} {v : Value}
    (h : Calls P f args (gw n) fun e w'' => e = .returned v ∧ gw n = w'') : Calls P f args (gw n) fun e w'' => e = .returned v ∧ ∃ m : GW w, w'' = gw m :=
  h.mono fun _ w'' ⟨he, hb⟩ => ⟨he, n, hb.symm⟩
end Go.Proofs.Ytdgminjbgjbamaa
namespace Go.Proofs.Ytdgminjbgjbamaa
open Go.RowKit
def OwnIntSS (B T : Nat) (w : World) (v : Value) (xss : List (List Int)) : Prop := OwnSS ints 23 3 B T w v xss
end Go.Proofs.Ytdgminjbgjbamaa