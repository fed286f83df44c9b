import Derived.Test.YtlpellciiiflkaaPrimeD
import Derived.Deep.RegionLaw
import Derived.Lib.SliceRun
import Derived.Deep.MidRow
namespace Go.Proofs.Ytlpellciiiflkaa
open Go.RowKit
theorem own_of_cells {w : World} {g n cap B size : Nat} {e : TypeId} {xs : List Value} {cur : Array Value} (hl : xs.length = n * size) (hh : w.heap[g]? = some (.cells cur e (0, 0))) (hs : cur.size = cap * size)
    (hc : ∀ j u, xs[j]? = some u → w.cell? ⟨g, j, none⟩ = some u) (hn : n ≤ cap) (hm : cap ≤ maxLen) (hB : B ≤ g) : w.ownsRow B e size (.slice (some ⟨g, 0, none⟩) n cap) n xs := by
  refine ⟨hl, .inr ⟨g, cap, cur, rfl, hB, hh, hn, hm, hs, ?_⟩⟩
  apply List.ext_getElem?
  intro j
  rw [List.getElem?_take]
  have hlen : n * size ≤ cur.size := by rw [hs]; exact Nat.mul_le_mul_right _ hn
  by_cases hj : j < n * size
  · rw [if_pos hj]
    have hx : xs[j]? = some (xs[j]'(by omega)) := List.getElem?_eq_getElem (by omega)
    have := hc j _ hx
    rw [cell_of_row w g j cur e (0, 0) hh] at this
    rw [hx, ← this]
    simp
  · rw [if_neg hj, List.getElem?_eq_none (by omega)]
theorem shape_setCells {e : TypeId} {g : Nat} : ∀ (vs : List Value) (o : Nat) (w : World) (cur : Array Value), w.heap[g]? = some (.cells cur e (0, 0)) → ∃ cur' : Array Value, (w.setCells g o vs).heap[g]? = some (.cells cur' e (0, 0)) ∧ cur'.size = cur.size
  | [], o, w, cur, h => ⟨cur, h, rfl⟩
  | v :: vs, o, w, cur, h => by
    obtain ⟨cur', h1, h2⟩ := shape_setCells vs (o + 1) (w.setCell ⟨g, o, none⟩ v) _ (heap_setCell_same w g o cur e v h)
    exact ⟨cur', h1, by rw [h2]; simp⟩
theorem cubes_drop (ks : List (Int × Int)) : ∀ i, cubes (ks.drop i) = (cubes ks).drop (i * 2) := by
  induction ks with
  | nil => intro i; simp [cubes]
  | cons k ks ih =>
    intro i
    cases i with
    | zero => simp
    | succ i =>
      rw [List.drop_succ_cons, ih i, show (i + 1) * 2 = i * 2 + 1 + 1 from by omega]
      simp [cubes]
theorem cubes_take (ks : List (Int × Int)) : ∀ i, cubes (ks.take i) = (cubes ks).take (i * 2) := by
  induction ks with
  | nil => intro i; simp [cubes]
  | cons k ks ih =>
    intro i
    cases i with
    | zero => simp [cubes]
    | succ i =>
      rw [List.take_succ_cons, show (i + 1) * 2 = i * 2 + 1 + 1 from by omega]
      have := ih i
      simp [cubes] at this ⊢
      exact this
theorem zero_cube (w : World) : (zeroValue 25).run Try.prog w = .ok (.agg #[.int .i64 0, .int .i64 0]) w := by kernel_rfl
theorem run_clear_pair (w : World) (g off c : Nat) (ty : TypeId) (cur : Array Value) (hh : w.heap[g]? = some (.cells cur 25 (0, 0))) (hf : off + 2 ≤ cur.size) :
    (Builtin.clear_ #[35] ty #[.slice (some ⟨g, off, none⟩) 1 c]).run Try.prog w = .ok (.tuple #[]) (w.setRow g (cur.toList.take off ++ [Value.int .i64 0, Value.int .i64 0] ++ cur.toList.drop (off + 2)).toArray) := by
  have hst := run_storeCells_at Try.prog g off 25 [.int .i64 0, .int .i64 0] 0 cur w hh (by simpa using hf) (by simp [Value.oneCell'])
  simp only [Nat.add_zero] at hst
  have hz : Builtin.zeroCells (Value.agg #[.int .i64 0, .int .i64 0]).cells 1 = #[.int .i64 0, .int .i64 0] := by kernel_rfl
  simp [Builtin.clear_, run_underlying Try.underlying35, zero_cube, hz, hst]
theorem erase_cells {ks : List (Int × Int)} {i j : Nat} {u : Value} (hi : i < ks.length) (h : (cubes (ks.eraseIdx i))[j]? = some u) : (j < i * 2 ∧ (cubes ks)[j]? = some u) ∨ (i * 2 ≤ j ∧ (cubes (ks.drop (i + 1)))[j - i * 2]? = some u) := by
  rw [List.eraseIdx_eq_take_drop_succ, cubes_append, List.getElem?_append] at h
  have hl : (cubes (ks.take i)).length = i * 2 := by rw [cubes_length]; simp; omega
  rw [hl] at h
  split at h
  · rename_i hlt
    refine .inl ⟨hlt, ?_⟩
    rw [cubes_take, List.getElem?_take, if_pos hlt] at h
    exact h
  · rename_i hge
    exact .inr ⟨by omega, h⟩
theorem grown_setCell (w : World) (g o : Nat) (v : Value) : w.grownBy (w.setCell ⟨g, o, none⟩ v) (some g) :=
  ⟨rfl, rfl, rfl, by simp [World.setCell], fun k _ hk => heap_setCell_other w ⟨g, o, none⟩ k _ (fun e => hk (by simp [e]))⟩
theorem grown_comp {a b c : World} {r : Option Nat} (h : a.grownBy b r) (h' : b.grownBy c r) : a.grownBy c r :=
  ⟨h'.os.trans h.os, h'.tape.trans h.tape, h'.output.trans h.output, Nat.le_trans h.size h'.size,
    fun k hk hr => (h'.block k (Nat.lt_of_lt_of_le hk h.size) hr).trans (h.block k hk hr)⟩
theorem grown_setCells (g : Nat) : ∀ (vs : List Value) (o : Nat) (w : World), w.grownBy (w.setCells g o vs) (some g)
  | [], _, w => World.grownBy.refl w _
  | v :: vs, o, w => grown_comp (grown_setCell w g o v) (grown_setCells g vs (o + 1) _)
theorem grown_setRow (w : World) (g : Nat) (cs : Array Value) : w.grownBy (w.setRow g cs) (some g) :=
  ⟨rfl, rfl, rfl, by simp [World.setRow], fun k _ hk => setRow_other w g k cs (fun e => hk (by simp [e]))⟩
/-- What deleting comes to. -/
def Deleted (B g : Nat) (ks : List (Int × Int)) (i : Nat) (w : World) (e : Ending) (w' : World) : Prop :=
  ∃ v, e = .returned v ∧ w'.ownsRow B 25 2 v (ks.eraseIdx i).length (cubes (ks.eraseIdx i)) ∧ w.grownBy w' (some g)
theorem delete_any (B g cap : Nat) (ks : List (Int × Int)) (i : Nat) (w : World) (h : w.ownsRow B 25 2 (.slice (some ⟨g, 0, none⟩) ks.length cap) ks.length (cubes ks)) (hi : i < ks.length) (hl : ks.length ≤ 1000) :
    Calls Try.prog 41 #[.slice (some ⟨g, 0, none⟩) ks.length cap, .int .i64 i, .int .i64 ((i : Int) + 1)] w (Deleted B g ks i w) := by
  obtain ⟨i0, hi0, hz0, hz1, hz2⟩ := info_parts info_cube
  obtain ⟨cur, hh, hcs, hncap, hcm, hBg⟩ : ∃ cur, w.heap[g]? = some (.cells cur 25 (0, 0)) ∧ cur.size = cap * 2 ∧ ks.length ≤ cap ∧ cap ≤ maxLen ∧ B ≤ g := by
    rcases h.2 with ⟨h1, _⟩ | ⟨g', cap', cur, hv, hb, hh, h1, h2, h3, _⟩
    · cases h1
    · injection hv with e1 _ e3
      injection e1 with e1
      injection e1 with e1
      subst e1 e3
      exact ⟨cur, hh, h3, h1, h2, hb⟩
  have hcell : ∀ j u, (cubes ks)[j]? = some u → w.cell? ⟨g, j, none⟩ = some u := by
    intro j u hu
    have := h.cells (g := g) rfl j u hu
    rwa [Go.WideShapes.add_plain, Nat.zero_add] at this
  have hsome : ∀ j, j < cap * 2 → (w.cell? ⟨g, j, none⟩).isSome = true := by
    intro j hj
    rw [cell_of_row w g j cur _ (0, 0) hh]
    simp [hcs, hj]
  have hfree : ∀ j, w.frozen? ⟨g, j, none⟩ = false := blk_free hh
  obtain ⟨news, hnews⟩ : ∃ news, news = cubes (ks.drop (i + 1)) := ⟨_, rfl⟩
  have hnl : news.length = (ks.length - (i + 1)) * 2 := by rw [hnews, cubes_length]; simp
  have hnc : ∀ j u, news[j]? = some u → w.cell? ⟨g, (i + 1) * 2 + j, none⟩ = some u := by
    intro j u hu
    rw [hnews, cubes_drop, List.getElem?_drop] at hu
    exact hcell _ _ hu
  obtain ⟨A, hA, hAn⟩ : ∃ A : Addr, (if cap = i + 1 then some (⟨g, 0, none⟩ : Addr) else some ⟨g, (i + 1) * 2, none⟩) = some A ∧ Hid (∀ j u, news[j]? = some u → w.drew.cell? (A.add j) = some u) := by
    by_cases hc : cap = i + 1
    · refine ⟨⟨g, 0, none⟩, by simp [hc], Lib.hid fun j u hu => ?_⟩
      have : news.length = 0 := by omega
      rw [List.length_eq_zero_iff.1 this] at hu
      simp at hu
    · refine ⟨⟨g, (i + 1) * 2, none⟩, by simp [hc], Lib.hid fun j u hu => ?_⟩
      rw [Addr.add_lit]
      exact hnc j u hu
  have s1 : Hid (news.length = (ks.length - (i + 1)) * 2) := Lib.hid hnl
  have s2 : Hid (∀ u ∈ news, u.oneCell' = true) := Lib.hid (by rw [hnews]; exact cubes_one _)
  have s3 : Hid (∀ j, j < news.length → (w.drew.cell? ⟨g, 0 + i * 2 + j, none⟩).isSome = true ∧ w.drew.frozen? ⟨g, 0 + i * 2 + j, none⟩ = false) := Lib.hid fun j hj => by
    rw [hnl] at hj
    rw [Nat.zero_add]
    exact ⟨hsome _ (by omega), hfree _⟩
  have hic : i ≤ cap := by omega
  have hwr : IntKind.i64.wrap ((i : Int) + 1) = (i : Int) + 1 := IntWalk.i64_in _ (by omega)
  have hp0 : (0 : Int) ≤ (i : Int) + 1 := by omega
  have hp1 : (i : Int) + 1 ≤ (ks.length : Int) := by omega
  have hp2 : ((i : Int) + 1).toNat = i + 1 := by omega
  have hp3 : i + (ks.length - (i + 1)) ≤ cap := by omega
  have hcm' : cap ≤ 9223372036854775807 := by unfold maxLen at hcm; omega
  have HN := Lib.hid hnews
  have HW := Lib.hid (And.intro hh (And.intro hcell (And.intro hsome hfree)))
  have HS := Lib.hid hcs
  have HC := Lib.hid hcm
  clear hh hcell hsome hfree hnl hnc hnews h hcs hcm
  go_enter Try.func41, Try.ntmps41
  go_wp2_with fail
  go_region_law (refine step_append_room rfl (.tmp 22) (.tmp 25) 35 rfl 25 i0 2 Try.underlying35 hi0 hz1 g 0 i cap (by simp [Act.eval, Act.put]) A (ks.length - (i + 1)) (cap - (i + 1)) news (by simp [Act.eval, Act.put]) s1.out hAn.out s2.out (by omega) s3.out ?_)
  obtain ⟨cur1, hh1, hs1⟩ := shape_setCells news (i * 2) w.drew cur HW.out.1
  have hc1 : ∀ j u, (cubes (ks.eraseIdx i))[j]? = some u → (w.drew.setCells g (i * 2) news).cell? ⟨g, j, none⟩ = some u := by
    intro j u hu
    rcases erase_cells hi hu with ⟨h1, h2⟩ | ⟨h1, h2⟩
    · rw [World.cell?_setCells_out g news (i * 2) w.drew ⟨g, j, none⟩ (fun _ _ => by simp only; omega)]
      exact HW.out.2.1 j u h2
    · rw [← HN.out] at h2
      obtain ⟨h3, h4⟩ := List.getElem?_eq_some_iff.1 h2
      have := World.cell?_setCells_in g news (i * 2) w.drew (fun q hq => by have := (s3.out q hq).1; rwa [Nat.zero_add] at this) (j - i * 2) h3
      rw [show i * 2 + (j - i * 2) = j from by omega] at this
      rw [this, ← h4]
  have hg0 : w.grownBy w.drew (some g) := ⟨rfl, rfl, rfl, Nat.le_refl _, fun _ _ _ => rfl⟩
  have hg1 := grown_comp hg0 (grown_setCells g news (i * 2) w.drew)
  generalize w.drew.setCells g (i * 2) news = W1 at *
  have hQ : i + (ks.length - (i + 1)) + 1 = ks.length := by omega
  have hlen : (ks.eraseIdx i).length = i + (ks.length - (i + 1)) := by rw [List.length_eraseIdx_of_lt hi]; omega
  generalize i + (ks.length - (i + 1)) = Q at *
  have hQ1 : ks.length - Q = 1 := by omega
  have hQ2 : Q ≤ ks.length := by omega
  have hcs1 : cur1.size = cap * 2 := hs1.trans HS.out
  have hclr := fun c ty => run_clear_pair W1 g (Q * 2) c ty cur1 hh1 (by rw [hcs1]; omega)
  have HQ := Lib.hid hQ
  have HL := Lib.hid hlen
  have H1 := Lib.hid (And.intro hh1 (And.intro hc1 (And.intro hg1 hcs1)))
  clear hQ hlen hh1 hs1 hc1 hg1 hg0 hcs1 hA
  go_wp2_with fail
  go_ret
  obtain ⟨hh1, hc1, hg1, hcs1⟩ := H1.out
  refine ⟨_, rfl, ?_, grown_comp hg1 (grown_setRow _ _ _)⟩
  rw [HL.out]
  refine own_of_cells (by rw [cubes_length, HL.out]) (setRow_heap W1 g cur1 _ _ _ hh1) ?_ (fun j u hu => ?_) (by omega) HC.out hBg
  · simp [hcs1]
    omega
  · have hj : j < Q * 2 := by
      obtain ⟨hj, _⟩ := List.getElem?_eq_some_iff.1 hu
      rw [cubes_length, HL.out] at hj
      exact hj
    have h0 := hc1 j u hu
    rw [cell_of_row W1 g j cur1 _ (0, 0) hh1] at h0
    rw [cell_of_row _ g j _ _ (0, 0) (setRow_heap W1 g cur1 _ _ _ hh1), ← h0]
    have hjc : j < cur1.size := by omega
    simp [List.getElem?_append, hj, hjc, show j < min (Q * 2) cur1.size by omega]
end Go.Proofs.Ytlpellciiiflkaa
