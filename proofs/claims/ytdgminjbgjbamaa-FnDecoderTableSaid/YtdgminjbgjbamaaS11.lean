import Derived.Test.YtdgminjbgjbamaaS10
import Derived.Deep.RegionLaw
import Derived.Lib.SliceRun
import Derived.Deep.MidRow
import Derived.Test.YtdgminjbgjbamaaS02
set_option linter.unusedVariables false
set_option linter.unusedSimpArgs false
namespace Go.Proofs.Ytdgminjbgjbamaa
open Go.RowKit
set_option maxRecDepth 100000
theorem own_of_cells {w : World} {g n cap B size : Nat} {e : TypeId} {xs : List Value} {cur : Array Value} (hl : xs.length = n * size) (hh : w.heap[g]? = some (.cells cur e (0, 0))) (hs : cur.size = cap * size)
    (hc : ∀ j u, xs[j]? = some u → w.cell? ⟨g, j, none⟩ = some u) (hn : n ≤ cap) (hm : cap ≤ maxLen) (hB : B ≤ g) : w.ownsRow B e size (.slice (some ⟨g, 0, none⟩) n cap) n xs := by
  refine ⟨hl, .inr ⟨g, cap, cur, rfl, hB, hh, hn, hm, hs, ?_⟩⟩
  apply List.ext_getElem?
  intro j
  rw [List.getElem?_take]
  have hlen : n * size ≤ cur.size := by rw [hs]; exact Nat.mul_le_mul_right _ hn
  by_cases hj : j < n * size
  · rw [if_pos hj]
    have hx : xs[j]? = some (xs[j]'(by omega)) := List.getElem?_eq_getElem (by omega)
    have := hc j _ hx
    rw [cell_of_row w g j cur e (0, 0) hh] at this
    rw [hx, ← this]
    simp
  · rw [if_neg hj, List.getElem?_eq_none (by omega)]
theorem shape_setCells {e : TypeId} {g : Nat} : ∀ (vs : List Value) (o : Nat) (w : World) (cur : Array Value), w.heap[g]? = some (.cells cur e (0, 0)) → ∃ cur' : Array Value, (w.setCells g o vs).heap[g]? = some (.cells cur' e (0, 0)) ∧ cur'.size = cur.size
  | [], o, w, cur, h => ⟨cur, h, rfl⟩
  | v :: vs, o, w, cur, h => by
    obtain ⟨cur', h1, h2⟩ := shape_setCells vs (o + 1) (w.setCell ⟨g, o, none⟩ v) _ (heap_setCell_same w g o cur e v h)
    exact ⟨cur', h1, by rw [h2]; simp⟩
theorem cubes_drop (ks : List (Int × Int)) : ∀ i, cubes (ks.drop i) = (cubes ks).drop (i * 2) := by
  induction ks with
  | nil => intro i; simp [cubes]
  | cons k ks ih =>
    intro i
    cases i with
    | zero => simp
    | succ i =>
      rw [List.drop_succ_cons, ih i, show (i + 1) * 2 = i * 2 + 1 + 1 from by omega]
      simp [cubes]
theorem cubes_take (ks : List (Int × Int)) : ∀ i, cubes (ks.take i) = (cubes ks).take (i * 2) := by
  induction ks with
  | nil => intro i; simp [cubes]
  | cons k ks ih =>
    intro i
    cases i with
    | zero => simp [cubes]
    | succ i =>
      rw [List.take_succ_cons, show (i + 1) * 2 = i * 2 + 1 + 1 from by omega]
      have := ih i
      simp [cubes] at this ⊢
      exact this
theorem zero_cube (w : World) : (zeroValue 53).run Try.prog w = .ok (.agg #[.int .i64 0, .int .i64 0]) w := by kernel_rfl
theorem run_clear_pair (w : World) (g off c : Nat) (ty : TypeId) (cur : Array Value) (hh : w.heap[g]? = some (.cells cur 53 (0, 0))) (hf : off + 2 ≤ cur.size) :
    (Builtin.clear_ #[49] ty #[.slice (some ⟨g, off, none⟩) 1 c]).run Try.prog w = .ok (.tuple #[]) (w.setRow g (cur.toList.take off ++ [Value.int .i64 0, Value.int .i64 0] ++ cur.toList.drop (off + 2)).toArray) := by
  have hst := run_storeCells_at Try.prog g off 53 [.int .i64 0, .int .i64 0] 0 cur w hh (by simpa using hf) (by simp [Value.oneCell'])
  simp only [Nat.add_zero] at hst
  have hz : Builtin.zeroCells (Value.agg #[.int .i64 0, .int .i64 0]).cells 1 = #[.int .i64 0, .int .i64 0] := by kernel_rfl
  simp [Builtin.clear_, run_underlying Try.underlying49, zero_cube, hz, hst]
theorem erase_cells {ks : List (Int × Int)} {i j : Nat} {u : Value} (hi : i < ks.length) (h : (cubes (ks.eraseIdx i))[j]? = some u) : (j < i * 2 ∧ (cubes ks)[j]? = some u) ∨ (i * 2 ≤ j ∧ (cubes (ks.drop (i + 1)))[j - i * 2]? = some u) := by
  rw [List.eraseIdx_eq_take_drop_succ, cubes_append, List.getElem?_append] at h
  have hl : (cubes (ks.take i)).length = i * 2 := by rw [cubes_length]; simp; omega
  rw [hl] at h
  split at h
  · rename_i hlt
    refine .inl ⟨hlt, ?_⟩
    rw [cubes_take, List.getElem?_take, if_pos hlt] at h
    exact h
  · rename_i hge
    exact .inr ⟨by omega, h⟩
theorem grown_setCell (w : World) (g o : Nat) (v : Value) : w.grownBy (w.setCell ⟨g, o, none⟩ v) (some g) :=
  ⟨rfl, rfl, rfl, by simp [World.setCell], fun k _ hk => heap_setCell_other w ⟨g, o, none⟩ k _ (fun e => hk (by simp [e]))⟩
theorem grown_comp {a b c : World} {r : Option Nat} (h : a.grownBy b r) (h' : b.grownBy c r) : a.grownBy c r :=
  ⟨h'.os.trans h.os, h'.tape.trans h.tape, h'.output.trans h.output, Nat.le_trans h.size h'.size,
    fun k hk hr => (h'.block k (Nat.lt_of_lt_of_le hk h.size) hr).trans (h.block k hk hr)⟩
theorem grown_setCells (g : Nat) : ∀ (vs : List Value) (o : Nat) (w : World), w.grownBy (w.setCells g o vs) (some g)
  | [], _, w => World.grownBy.refl w _
  | v :: vs, o, w => grown_comp (grown_setCell w g o v) (grown_setCells g vs (o + 1) _)
theorem grown_setRow (w : World) (g : Nat) (cs : Array Value) : w.grownBy (w.setRow g cs) (some g) :=
  ⟨rfl, rfl, rfl, by simp [World.setRow], fun k _ hk => setRow_other w g k cs (fun e => hk (by simp [e]))⟩
/-- What deleting comes to. -/
def Deleted (B g : Nat) (ks : List (Int × Int)) (i : Nat) (w : World) (e : Ending) (w' : World) : Prop :=
  ∃ v, e = .returned v ∧ w'.ownsRow B 53 2 v (ks.eraseIdx i).length (cubes (ks.eraseIdx i)) ∧ w.grownBy w' (some g)
theorem delete_any (B g cap : Nat) (ks : List (Int × Int)) (i : Nat) (w : World) (h : w.ownsRow B 53 2 (.slice (some ⟨g, 0, none⟩) ks.length cap) ks.length (cubes ks)) (hi : i < ks.length) (hl : ks.length ≤ 1000) :
    Calls Try.prog 75 #[.slice (some ⟨g, 0, none⟩) ks.length cap, .int .i64 i, .int .i64 ((i : Int) + 1)] w (Deleted B g ks i w) := by
  obtain ⟨i0, hi0, hz0, hz1, hz2⟩ := info_parts info_cube
  obtain ⟨cur, hh, hcs, hncap, hcm, hBg⟩ : ∃ cur, w.heap[g]? = some (.cells cur 53 (0, 0)) ∧ cur.size = cap * 2 ∧ ks.length ≤ cap ∧ cap ≤ maxLen ∧ B ≤ g := by
    rcases h.2 with ⟨h1, _⟩ | ⟨g', cap', cur, hv, hb, hh, h1, h2, h3, _⟩
    · cases h1
    · injection hv with e1 _ e3
      injection e1 with e1
      injection e1 with e1
      subst e1 e3
      exact ⟨cur, hh, h3, h1, h2, hb⟩
  have hcell : ∀ j u, (cubes ks)[j]? = some u → w.cell? ⟨g, j, none⟩ = some u := by
    intro j u hu
    have := h.cells (g := g) rfl j u hu
    rwa [Go.WideShapes.add_plain, Nat.zero_add] at this
  have hsome : ∀ j, j < cap * 2 → (w.cell? ⟨g, j, none⟩).isSome = true := by
    intro j hj
    rw [cell_of_row w g j cur _ (0, 0) hh]
    simp [hcs, hj]
  have hfree : ∀ j, w.frozen? ⟨g, j, none⟩ = false := blk_free hh
  obtain ⟨news, hnews⟩ : ∃ news, news = cubes (ks.drop (i + 1)) := ⟨_, rfl⟩
  have hnl : news.length = (ks.length - (i + 1)) * 2 := by rw [hnews, cubes_length]; simp
  have hnc : ∀ j u, news[j]? = some u → w.cell? ⟨g, (i + 1) * 2 + j, none⟩ = some u := by
    intro j u hu
    rw [hnews, cubes_drop, List.getElem?_drop] at hu
    exact hcell _ _ hu
  obtain ⟨A, hA, hAn⟩ : ∃ A : Addr, (if cap = i + 1 then some (⟨g, 0, none⟩ : Addr) else some ⟨g, (i + 1) * 2, none⟩) = some A ∧ Hid (∀ j u, news[j]? = some u → w.drew.cell? (A.add j) = some u) := by
    by_cases hc : cap = i + 1
    · refine ⟨⟨g, 0, none⟩, by simp [hc], Lib.hid fun j u hu => ?_⟩
      have : news.length = 0 := by omega
      rw [List.length_eq_zero_iff.1 this] at hu
      simp at hu
    · refine ⟨⟨g, (i + 1) * 2, none⟩, by simp [hc], Lib.hid fun j u hu => ?_⟩
      rw [Addr.add_lit]
      exact hnc j u hu
  have s1 : Hid (news.length = (ks.length - (i + 1)) * 2) := Lib.hid hnl
  have s2 : Hid (∀ u ∈ news, u.oneCell' = true) := Lib.hid (by rw [hnews]; exact cubes_one _)
  have s3 : Hid (∀ j, j < news.length → (w.drew.cell? ⟨g, 0 + i * 2 + j, none⟩).isSome = true ∧ w.drew.frozen? ⟨g, 0 + i * 2 + j, none⟩ = false) := Lib.hid fun j hj => by
    rw [hnl] at hj
    rw [Nat.zero_add]
    exact ⟨hsome _ (by omega), hfree _⟩
  have hic : i ≤ cap := by omega
  have hwr : IntKind.i64.wrap ((i : Int) + 1) = (i : Int) + 1 := IntWalk.i64_in _ (by omega)
  have hp0 : (0 : Int) ≤ (i : Int) + 1 := by omega
  have hp1 : (i : Int) + 1 ≤ (ks.length : Int) := by omega
  have hp2 : ((i : Int) + 1).toNat = i + 1 := by omega
  have hp3 : i + (ks.length - (i + 1)) ≤ cap := by omega
  have hcm' : cap ≤ 9223372036854775807 := by unfold maxLen at hcm; omega
  have HN := Lib.hid hnews
  have HW := Lib.hid (And.intro hh (And.intro hcell (And.intro hsome hfree)))
  have HS := Lib.hid hcs
  have HC := Lib.hid hcm
  clear hh hcell hsome hfree hnl hnc hnews h hcs hcm
  go_enter Try.func75, Try.ntmps75
  go_wp2_with fail
  go_region_law (refine step_append_room rfl (.tmp 22) (.tmp 25) 49 rfl 53 i0 2 Try.underlying49 hi0 hz1 g 0 i cap (by simp [Act.eval, Act.put]) A (ks.length - (i + 1)) (cap - (i + 1)) news (by simp [Act.eval, Act.put]) s1.out hAn.out s2.out (by omega) s3.out ?_)
  obtain ⟨cur1, hh1, hs1⟩ := shape_setCells news (i * 2) w.drew cur HW.out.1
  have hc1 : ∀ j u, (cubes (ks.eraseIdx i))[j]? = some u → (w.drew.setCells g (i * 2) news).cell? ⟨g, j, none⟩ = some u := by
    intro j u hu
    rcases erase_cells hi hu with ⟨h1, h2⟩ | ⟨h1, h2⟩
    · rw [World.cell?_setCells_out g news (i * 2) w.drew ⟨g, j, none⟩ (fun _ _ => by simp only; omega)]
      exact HW.out.2.1 j u h2
    · rw [← HN.out] at h2
      obtain ⟨h3, h4⟩ := List.getElem?_eq_some_iff.1 h2
      have := World.cell?_setCells_in g news (i * 2) w.drew (fun q hq => by have := (s3.out q hq).1; rwa [Nat.zero_add] at this) (j - i * 2) h3
      rw [show i * 2 + (j - i * 2) = j from by omega] at this
      rw [this, ← h4]
  have hg0 : w.grownBy w.drew (some g) := ⟨rfl, rfl, rfl, Nat.le_refl _, fun _ _ _ => rfl⟩
  have hg1 := grown_comp hg0 (grown_setCells g news (i * 2) w.drew)
  generalize w.drew.setCells g (i * 2) news = W1 at *
  have hQ : i + (ks.length - (i + 1)) + 1 = ks.length := by omega
  have hlen : (ks.eraseIdx i).length = i + (ks.length - (i + 1)) := by rw [List.length_eraseIdx_of_lt hi]; omega
  generalize i + (ks.length - (i + 1)) = Q at *
  have hQ1 : ks.length - Q = 1 := by omega
  have hQ2 : Q ≤ ks.length := by omega
  have hcs1 : cur1.size = cap * 2 := hs1.trans HS.out
  have hclr := fun c ty => run_clear_pair W1 g (Q * 2) c ty cur1 hh1 (by rw [hcs1]; omega)
  have HQ := Lib.hid hQ
  have HL := Lib.hid hlen
  have H1 := Lib.hid (And.intro hh1 (And.intro hc1 (And.intro hg1 hcs1)))
  clear hQ hlen hh1 hs1 hc1 hg1 hg0 hcs1 hA
  go_wp2_with fail
  go_ret
  obtain ⟨hh1, hc1, hg1, hcs1⟩ := H1.out
  refine ⟨_, rfl, ?_, grown_comp hg1 (grown_setRow _ _ _)⟩
  rw [HL.out]
  refine own_of_cells (by rw [cubes_length, HL.out]) (setRow_heap W1 g cur1 _ _ _ hh1) ?_ (fun j u hu => ?_) (by omega) HC.out hBg
  · simp [hcs1]
    omega
  · have hj : j < Q * 2 := by
      obtain ⟨hj, _⟩ := List.getElem?_eq_some_iff.1 hu
      rw [cubes_length, HL.out] at hj
      exact hj
    have h0 := hc1 j u hu
    rw [cell_of_row W1 g j cur1 _ (0, 0) hh1] at h0
    rw [cell_of_row _ g j _ _ (0, 0) (setRow_heap W1 g cur1 _ _ _ hh1), ← h0]
    have hjc : j < cur1.size := by omega
    simp [List.getElem?_append, hj, hjc, show j < min (Q * 2) cur1.size by omega]
end Go.Proofs.Ytdgminjbgjbamaa

namespace Go.Proofs.Ytdgminjbgjbamaa
open Go.RowKit
namespace Two
theorem istep_length (t n : Nat) (out : List (Nat × Nat)) (k : Nat × Nat) : (istep t n out k).length ≤ out.length + 1 := by
  unfold istep
  split <;> simp
end Two
def ImplOut (T N : Nat) (w : World) (e : Ending) (w' : World) : Prop :=
  ∃ v, e = .returned v ∧ w'.ownsRow w.heap.size 53 2 v (Two.implicants T N).length (cubes ((Two.implicants T N).map intK)) ∧ Below w.heap.size w w'
end Go.Proofs.Ytdgminjbgjbamaa

namespace Go.Proofs.Ytdgminjbgjbamaa
open Go.RowKit
theorem own_apart {w : World} {b1 b2 n m : Nat} {e : TypeId} {size : Nat} {v u : Value} {xs ys : List Value} (h : w.ownsRow b1 e size v n xs) (h' : ∀ g, u.ownBlock = some g → g < b1) : ∀ g, v.ownBlock = some g → u.ownBlock ≠ some g := by
  intro g hg hu
  have := own_ge h g hg
  have := h' g hu
  omega
theorem getD_of {α : Type} {l : List α} {i : Nat} {x d : α} (h : l[i]? = some x) : l.getD i d = x := by rw [List.getD_eq_getElem?_getD, h]; rfl
end Go.Proofs.Ytdgminjbgjbamaa

namespace Go.Proofs.Ytdgminjbgjbamaa
open Go.RowKit
def ClonedCubes (n : Nat) (cs : List Value) (w : World) (e : Ending) (w' : World) : Prop :=
  ∃ v', e = .returned v' ∧ w'.ownsRow w.heap.size 53 2 v' n cs ∧ Below w.heap.size w w'
theorem clone_any (B : Nat) (v : Value) (ks : List (Int × Int)) (w : World) (h : w.ownsRow B 53 2 v ks.length (cubes ks)) (hn : ks.length ≤ 1000) :
    Calls Try.prog 76 #[v] w (ClonedCubes ks.length (cubes ks) w) := by
  have he := fun (w : World) (a : Option Addr) (n c : Nat) => Lib.run_eql_slice_nil (P := Try.prog) w 49 53 a n c 0 0 Try.underlying49
  rcases h.2 with ⟨rfl, h0⟩ | ⟨g, cap, cur, rfl, hb, hh, h1, h2, h3, h4⟩
  · have hk : ks = [] := List.eq_nil_of_length_eq_zero h0
    subst hk
    clear h
    go_enter Try.func76, Try.ntmps76
    go_wp2_with fail
    go_ret
    exact ⟨_, rfl, World.ownsRow_nil _ _ _ _, Below.refl _ _⟩
  · have hr := Lib.hid (Row.of_own h)
    have Hown0 := Lib.hid (World.ownsRow_lit (base := w.heap.size) (e := 53) (size := 2) w #[] 0 (Nat.le_refl _) (by unfold maxLen; omega) rfl)
    clear hh h4 h
    go_enter Try.func76, Try.ntmps76
    go_wp2_with (at_builtin; refine append_cubes rfl (.tmp 5) (.tmp 6) rfl w.heap.size _ 0 _ rfl Hown0.out _ ks.length (cubes ks) rfl (hr.out.alloc _) (cubes_one _) (by omega) (by simp) ?_; intro v5 w5 hown5 hg5; have Ho5 := Lib.hid hown5; have Hg5 := Lib.hid hg5; clear hown5 hg5)
    go_ret
    refine ⟨_, rfl, ?_, ((Below.refl _ _).alloc (Nat.le_refl _) _).grown Hg5.out (by simp) (own_ge Hown0.out)⟩
    have := Ho5.out
    simpa using this
def Dropped (ks : List (Int × Int)) (i : Nat) (w : World) (e : Ending) (w' : World) : Prop :=
  ∃ v', e = .returned v' ∧ w'.ownsRow w.heap.size 53 2 v' (ks.eraseIdx i).length (cubes (ks.eraseIdx i)) ∧ Below w.heap.size w w'
end Go.Proofs.Ytdgminjbgjbamaa

namespace Go.Proofs.Ytdgminjbgjbamaa
open Go.RowKit
theorem natK_intK (k : Nat × Nat) : natK (intK k) = k := rfl
theorem map_natK (L : List (Nat × Nat)) : (L.map intK).map natK = L := by
  rw [List.map_map]
  exact List.map_id _
theorem okI_of {N : Nat} {k : Nat × Nat} (hN : N ≤ 4) (h1 : k.1 < 2 ^ N) (h2 : Two.fine k = true) : okI N (intK k) = true := by
  have h3 : 2 ^ N ≤ 16 := Nat.pow_le_pow_right (show 0 < 2 by decide) hN
  have hle : k.2 ≤ k.1 := by
    have h4 : k.2 &&& k.1 = k.2 := by unfold Two.fine at h2; rwa [beq_iff_eq] at h2
    rw [← h4]
    exact Nat.and_le_right
  unfold okI intK
  simp only
  rw [Bool.and_eq_true, decide_eq_true_eq, andNot_nat k.2 k.1 (by omega) (by omega)]
  refine ⟨⟨by omega, by rw [two_pow]; omega⟩, h2⟩
theorem cover_nat {N : Nat} {L : List (Nat × Nat)} (hN : N ≤ 4) (hl : L.length ≤ 100) (h : ∀ k ∈ L, k.1 < 2 ^ N ∧ Two.fine k = true) : coverI N (L.map intK) = (Two.tableOf L N : Int) := by
  have hall : (L.map intK).all (okI N) = true := by
    rw [List.all_eq_true]
    intro k hk
    obtain ⟨k', hk', rfl⟩ := List.mem_map.1 hk
    exact okI_of hN (h k' hk').1 (h k' hk').2
  rw [coverI, if_pos ⟨by omega, by omega, by simpa using hl⟩]
  rw [show ((N : Int).toNat) = N from rfl, covFrom_all hall, map_natK]
theorem erase_map (L : List (Nat × Nat)) : ∀ i, (L.map intK).eraseIdx i = (L.eraseIdx i).map intK := by
  induction L with
  | nil => intro i; rfl
  | cons k L ih =>
    intro i
    cases i with
    | zero => rfl
    | succ i => simp [List.eraseIdx_cons_succ, ih i]
/-- What MinimizeTable returns. -/
def minimalI (t n : Int) : List (Nat × Nat) := if fitsT t n then Two.minimal t.toNat n.toNat else []
def MinOut (t n : Int) (w : World) (e : Ending) (w' : World) : Prop :=
  ∃ v, e = .returned v ∧ w'.ownsRow w.heap.size 53 2 v (minimalI t n).length (cubes ((minimalI t n).map intK)) ∧ Below w.heap.size w w'
theorem mem_primes_bd {T N : Nat} (hN : N ≤ 4) {k : Nat × Nat} (h : k ∈ Two.primes T N) : k.1 < 2 ^ N ∧ Two.fine k = true ∧ k.1 < 65536 := by
  have h1 := Two.mem_implicants.1 (Two.mem_primes.1 h).1
  have h2 : 2 ^ N ≤ 16 := Nat.pow_le_pow_right (show 0 < 2 by decide) hN
  exact ⟨h1.1, h1.2.2.1, by omega⟩
end Go.Proofs.Ytdgminjbgjbamaa

namespace Go.Proofs.Ytdgminjbgjbamaa
open Go.RowKit
theorem minF_step {T N i : Nat} (L : List (Nat × Nat)) : Two.minF T N L (i + 1) = Two.minF T N (if Two.covers (L.eraseIdx i) T N then L.eraseIdx i else L) i := rfl
theorem implMin_any (t n : Int) (w : World) : Calls Try.prog 29 #[.int .i64 t, .int .i64 n] w (MinOut t n w) := by
  cases hf : fitsT t n
  · have hp : primesI t n = [] := by unfold primesI; rw [hf]; rfl
    have hm : minimalI t n = [] := by unfold minimalI; rw [hf]; rfl
    have Hp := Lib.hid hp
    have Hm := Lib.hid hm
    clear hp hm hf
    go_enter Try.func29, Try.ntmps29
    go_wp2_with fail
    refine (implPrimes_any t n _).mono ?_
    rintro e w1 ⟨v, rfl, hown, hb⟩
    rw [Hp.out] at hown
    obtain ⟨A, c, hv, hc, hcm⟩ := (Row.of_own hown).shape
    have HO := Lib.hid hown
    have HB := Lib.hid hb
    clear hown hb
    subst hv
    go_wp2_with fail
    go_loop [5, 6] (fun v i => v = .slice A 0 c ∧ i = .int .i64 (-1)) (fun _ _ => 0)
    case atStart => exact ⟨rfl, rfl⟩
    case round =>
      obtain ⟨rfl, rfl⟩ := hrel
      go_wp2_with fail
      go_ret
      exact ⟨_, rfl, by rw [Hm.out]; exact HO.out, HB.out⟩
  · obtain ⟨T, N, rfl, rfl, hN, hT2, hT⟩ := fitsT_nat hf
    have hp : primesI T N = Two.primes T N := by unfold primesI; rw [hf]; rfl
    have hm : minimalI T N = Two.minF T N (Two.primes T N) (Two.primes T N).length := by unfold minimalI; rw [hf]; rfl
    have Hp := Lib.hid hp
    have Hm := Lib.hid hm
    have HT2 := Lib.hid hT2
    have hlen := Two.primes_length (t := T) hN
    have Hmem : Hid (∀ k ∈ Two.primes T N, k.1 < 2 ^ N ∧ Two.fine k = true ∧ k.1 < 65536) := Lib.hid fun k hk => mem_primes_bd hN hk
    have Hwi : Hid (∀ k ∈ Two.primes T N, Two.within k T N = true) := Lib.hid (Two.primes_within T N)
    clear hp hm hf hT2
    go_enter Try.func29, Try.ntmps29
    go_wp2_with fail
    refine (implPrimes_any T N _).mono ?_
    rintro e w1 ⟨v, rfl, hown, hb⟩
    rw [Hp.out] at hown
    generalize Two.primes T N = Pr at *
    obtain ⟨A, c, hv, hc, hcm⟩ := (Row.of_own hown).shape
    have HO := Lib.hid hown
    have HB := Lib.hid hb
    clear hown hb
    subst hv
    unfold maxLen at hcm
    go_wp2_with fail
    go_loopw [5, 6] (fun v i wr => ∃ (j : Nat) (L : List (Nat × Nat)), j ≤ L.length ∧ L.length ≤ 81 ∧ i = .int .i64 ((j : Int) - 1) ∧ Hid (minimalI T N = Two.minF T N L j) ∧ Hid (∀ k ∈ L, k ∈ Pr) ∧ wr.ownsRow w.heap.size 53 2 v L.length (cubes (L.map intK)) ∧ Below w.heap.size w wr) (fun _ i _ => (intOf i + 1).toNat)
    case atStart => exact ⟨Pr.length, Pr, Nat.le_refl _, hlen, rfl, Hm, Lib.hid fun _ h => h, HO.out, HB.out⟩
    case round =>
      obtain ⟨j, L, hj, hL, rfl, hres, hsub, hown, hb⟩ := hrel
      have Hb := Lib.hid hb
      have Hown := Lib.hid hown
      have hz := hb.size
      clear hb hown HO HB
      by_cases hj0 : 0 < j
      · obtain ⟨i, rfl⟩ : ∃ i, j = i + 1 := ⟨j - 1, by omega⟩
        have hji : (((i + 1 : Nat) : Int) - 1) = (i : Int) := by omega
        rw [hji]
        clear hji
        have hlm : (L.map intK).length = L.length := List.length_map _
        have Hlm := Lib.hid hlm
        obtain ⟨A2, c2, hv2, hc2, hcm2⟩ := (Row.of_own Hown.out).shape
        subst hv2
        unfold maxLen at hcm2
        go_wp2_with fail
        have hcl := clone_any w.heap.size _ (L.map intK) wr (by rw [hlm]; exact Hown.out) (by rw [hlm]; omega)
        refine hcl.mono ?_
        rintro e w2 ⟨v2, rfl, hown2, hb2⟩
        clear hcl
        obtain ⟨g, cap, hv, hgb, hgl, hnc, hcm3⟩ := own_open hown2 (by omega)
        subst hv
        rw [hlm] at hown2
        have Ho2 := Lib.hid hown2
        have HoL2 := Lib.hid (own_below Hown.out hb2)
        have Hb2 := Lib.hid (Hb.out.trans (hb2.mono hz))
        clear hown2 hb2 hlm
        go_wp2_with fail
        have hdel := delete_any wr.heap.size g cap (L.map intK) i w2 (by rw [Hlm.out]; exact Ho2.out) (by rw [Hlm.out]; omega) (by rw [Hlm.out]; omega)
        rw [Hlm.out] at hdel
        refine hdel.mono ?_
        rintro e w3 ⟨v3, rfl, hown3, hg3⟩
        clear hdel
        rw [erase_map, List.length_map] at hown3
        have Ho3 := Lib.hid (own_mono hown3 hz)
        have HoL3 := Lib.hid (own_kept HoL2.out hg3 (fun q hq h => by
          have h1 := (Hown.out.lt q hq).2
          have h2 := Option.some.inj h
          omega))
        have Hb3 := Lib.hid (Hb2.out.grown hg3 Hb2.out.size (fun k hk => by have h2 := Option.some.inj hk; omega))
        have hz3 := Hb3.out.size
        clear hown3 hg3 Ho2 HoL2 Hb2 Hown Hb
        have hsub' : ∀ k ∈ L.eraseIdx i, k ∈ Pr := fun k hk => hsub.out k (List.mem_of_mem_eraseIdx hk)
        have hlen' : (L.eraseIdx i).length = i + (L.length - (i + 1)) := by rw [List.length_eraseIdx_of_lt (by omega)]; omega
        have hcov : coverI N ((L.eraseIdx i).map intK) = (Two.tableOf (L.eraseIdx i) N : Int) := cover_nat hN (by omega) (fun k hk => ⟨(Hmem.out k (hsub' k hk)).1, (Hmem.out k (hsub' k hk)).2.1⟩)
        have hiff := Two.table_covers (l := L.eraseIdx i) HT2.out (fun k hk => Hwi.out k (hsub' k hk))
        have hstep := minF_step (T := T) (N := N) (i := i) L
        have Hsub' := Lib.hid hsub'
        have Hlen' := Lib.hid hlen'
        have hcc := implCover_any v3 ((L.eraseIdx i).map intK) N w3 (cubesN_own Ho3.out) (fun k hk => by
          obtain ⟨k', hk', rfl⟩ := List.mem_map.1 hk
          obtain ⟨h1, h2, h3⟩ := Hmem.out k' (Hsub'.out k' hk')
          have hle : k'.2 ≤ k'.1 := by
            have h4 : k'.2 &&& k'.1 = k'.2 := by unfold Two.fine at h2; rwa [beq_iff_eq] at h2
            rw [← h4]
            exact Nat.and_le_right
          unfold WfK intK
          simp only
          omega)
        clear hsub' hlen'
        cases hc : Two.covers (L.eraseIdx i) T N
        · rw [hc, if_neg (by simp)] at hstep
          rw [hcov] at hcc
          have hne : ((Two.tableOf (L.eraseIdx i) N : Int) == (T : Int)) = false := by
            rw [beq_eq_false_iff_ne]
            intro e
            have := hiff.1 (Int.ofNat.inj e)
            rw [hc] at this
            cases this
          have Hst := Lib.hid hstep
          generalize (Two.tableOf (L.eraseIdx i) N : Int) = R at *
          clear hcov hiff hstep hc
          go_wp2_with fail
          refine hcc.mono ?_
          rintro e w4 ⟨rfl, hb4⟩
          have HoL4 := Lib.hid (own_below HoL3.out hb4)
          have Hb4 := Lib.hid (Hb3.out.trans (hb4.mono hz3))
          clear hcc hb4 Ho3 HoL3 Hb3
          go_wp2_with fail
          go_roundw
          case rel => exact ⟨i, L, by omega, hL, rfl, Lib.hid (by rw [hres.out, Hst.out]), hsub, HoL4.out, Hb4.out⟩
          case measure => simp [intOf] <;> omega
        · rw [hc, if_pos rfl] at hstep
          rw [hcov, hiff.2 hc] at hcc
          have Hst := Lib.hid hstep
          clear hcov hiff hstep hc
          go_wp2_with fail
          refine hcc.mono ?_
          rintro e w4 ⟨rfl, hb4⟩
          have Ho4 := Lib.hid (own_below Ho3.out hb4)
          have Hb4 := Lib.hid (Hb3.out.trans (hb4.mono hz3))
          clear hcc hb4 Ho3 HoL3 Hb3
          go_wp2_with fail
          go_roundw
          case rel => exact ⟨i, L.eraseIdx i, by rw [Hlen'.out]; omega, by rw [Hlen'.out]; omega, rfl, Lib.hid (by rw [hres.out, Hst.out]), Hsub', Ho4.out, Hb4.out⟩
          case measure => simp [intOf] <;> omega
      · obtain rfl : j = 0 := by omega
        have HR : Hid (minimalI T N = L) := Lib.hid hres.out
        go_wp2_with fail
        go_ret
        exact ⟨_, rfl, by rw [HR.out]; exact Hown.out, Hb.out⟩
theorem minimalI_len (t n : Int) : (minimalI t n).length ≤ 81 := by
  cases hf : fitsT t n
  · unfold minimalI; rw [hf]; simp
  · obtain ⟨T, N, rfl, rfl, hN, _⟩ := fitsT_nat hf
    unfold minimalI; rw [hf]
    exact Nat.le_trans (Two.minF_length _ _) (Two.primes_length hN)
theorem primesI_len (t n : Int) : (primesI t n).length ≤ 81 := by
  cases hf : fitsT t n
  · unfold primesI; rw [hf]; simp
  · obtain ⟨T, N, rfl, rfl, hN, _⟩ := fitsT_nat hf
    unfold primesI; rw [hf]
    exact Two.primes_length hN
end Go.Proofs.Ytdgminjbgjbamaa
