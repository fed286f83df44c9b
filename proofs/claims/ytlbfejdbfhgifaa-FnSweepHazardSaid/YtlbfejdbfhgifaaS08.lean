import Derived.Test.YtlbfejdbfhgifaaS07
import Derived.Test.YtlbfejdbfhgifaaS05
import Derived.Test.YtlbfejdbfhgifaaS01
import Derived.Deep.RegionLaw
import Derived.Test.YtlbfejdbfhgifaaS02
set_option linter.unusedVariables false
set_option linter.unusedSimpArgs false
namespace Go.Proofs.Ytlbfejdbfhgifaa
open Go.RowKit
set_option maxRecDepth 100000
/-! Minimize, by the program. -/
namespace Mac
theorem pushesG_snoc {α : Type} [DecidableEq α] (l xs : List α) (c : α) : pushesG l (xs ++ [c]) = pushG (pushesG l xs) c := by
  unfold pushesG
  rw [List.foldl_append]
  rfl
theorem idxOf_G {l : List Nat} {c : Nat} : idxOf l c = if c ∈ l then ((idxG l c : Nat) : Int) else -1 := by
  by_cases h : c ∈ l
  · rw [if_pos h]
    obtain ⟨i, h1, h2, h3⟩ := idxOf_mem h
    rw [h1]
    congr 1
    obtain ⟨g1, g2⟩ := idxG_get h
    rcases Nat.lt_trichotomy i (idxG l c) with hl | hl | hl
    · have := List.not_of_lt_findIdx (p := fun b => decide (b = c)) (xs := l) hl
      obtain ⟨hi, e⟩ := List.getElem?_eq_some_iff.1 h2
      rw [e] at this
      simp at this
    · exact hl
    · exact absurd g1 (h3 _ hl)
  · rw [if_neg h, idxOf_not h]
/-- The row of a state, as far as it goes. -/
def partRow (L S : List Nat) (j : Nat) : List Nat := (S.take j).map (idxG (pushesG L (S.take j)))
theorem partRow_snoc {L S : List Nat} {j c : Nat} (h : S[j]? = some c) : partRow L S (j + 1) = partRow L S j ++ [if c ∈ pushesG L (S.take j) then idxG (pushesG L (S.take j)) c else (pushesG L (S.take j)).length] := by
  unfold partRow
  rw [take_snoc h, pushesG_snoc, List.map_append, List.map_singleton]
  congr 1
  · apply List.map_congr_left
    intro x hx
    obtain ⟨m, hm⟩ := pushG_prefix (pushesG L (S.take j)) c
    rw [hm, idxG_append ((mem_pushesG _ _).2 (.inr hx))]
  · unfold pushG
    split
    · rfl
    · rename_i hn
      rw [idxG_new hn]
theorem partRow_len (L S : List Nat) (j : Nat) : (partRow L S j).length = min j S.length := by unfold partRow; simp
theorem partRow_full {L S m : List Nat} : partRow L S S.length = S.map (idxG (pushesG L S ++ m)) := by
  unfold partRow
  rw [List.take_length]
  apply List.map_congr_left
  intro x hx
  rw [idxG_append ((mem_pushesG _ _).2 (.inr hx))]
/-- A machine's order under way. -/
structure Bfs (next : List (List Int)) (C : List Nat) (k : Nat) (L : List Nat) : Prop where
  ord : ordL next C = bfsG (succL next C) (9 - k) k L
  kl : k ≤ L.length
  nd : L.Nodup
  lt : ∀ s ∈ L, s < next.length
theorem Bfs.start {next : List (List Int)} {C : List Nat} (h : 0 < next.length) : Bfs next C 0 [0] := ⟨rfl, Nat.zero_le _, by simp, fun s hs => by rw [List.mem_singleton.1 hs]; exact h⟩
theorem Bfs.len {next : List (List Int)} {C L : List Nat} {k : Nat} (h : Bfs next C k L) : L.length ≤ next.length := nodup_lt _ _ h.nd h.lt
theorem Bfs.get {next : List (List Int)} {C L : List Nat} {k s : Nat} (h : Bfs next C k L) (hs : L[k]? = some s) : (ordL next C)[k]? = some s := by
  obtain ⟨m, hm⟩ := bfsG_prefix (succL next C) (9 - k) k L
  rw [h.ord, hm, List.getElem?_append_left (List.getElem?_eq_some_iff.1 hs).1]
  exact hs
theorem Bfs.step {next : List (List Int)} {C L : List Nat} {k s : Nat} (h : Bfs next C k L) (hn : next.length ≤ 8) (hs : L[k]? = some s) (hc : ∀ c ∈ succL next C s, c < next.length) : Bfs next C (k + 1) (pushesG L (succL next C s)) := by
  have hk := (List.getElem?_eq_some_iff.1 hs).1
  have hl := h.len
  obtain ⟨m, hm⟩ := pushesG_prefix (succL next C s) L
  refine ⟨?_, by rw [hm, List.length_append]; omega, pushesG_nodup _ h.nd, fun x hx => ((mem_pushesG _ _).1 hx).elim (h.lt x) (hc x)⟩
  rw [h.ord, show 9 - k = (8 - k) + 1 by omega, bfsG_step hs, show 9 - (k + 1) = 8 - k by omega]
/-- The row of the k-th state. -/
theorem Bfs.row {next : List (List Int)} {C L : List Nat} {k s : Nat} (h : Bfs next C k L) (hn : next.length ≤ 8) (hs : L[k]? = some s) : nats (partRow L (succL next C s) (succL next C s).length) = (succL next C s).map fun c => ((idxG (ordL next C) c : Nat) : Int) := by
  have hk := (List.getElem?_eq_some_iff.1 hs).1
  have hl := h.len
  obtain ⟨m, hm⟩ := bfsG_prefix (succL next C) (8 - k) (k + 1) (pushesG L (succL next C s))
  have e : ordL next C = pushesG L (succL next C s) ++ m := by rw [h.ord, show 9 - k = (8 - k) + 1 by omega, bfsG_step hs, hm]
  rw [e, partRow_full (m := m)]
  unfold nats
  rw [List.map_map]
  rfl
theorem Bfs.done {next : List (List Int)} {C L : List Nat} (h : Bfs next C L.length L) : ordL next C = L := by rw [h.ord, bfsG_end]
end Mac
theorem cloneI_any (v : Value) (n : Nat) (cs : List Value) (w : World) (h : Row w 1 v n cs) (h1 : ∀ u ∈ cs, u.oneCell' = true) (hn : n ≤ 1000) :
    Calls Try.prog 68 #[v] w fun r w' => ∃ v', r = .returned v' ∧ w'.ownsRow w.heap.size 3 1 v' n cs ∧ Below w.heap.size w w' := by
  have he := fun (w : World) (a : Option Addr) (n c : Nat) => Lib.run_eql_slice_nil (P := Try.prog) w 22 3 a n c 0 0 Try.underlying22
  have hr := Lib.hid h
  obtain ⟨hl, A, c, rfl, hc, hcm, hcell⟩ := h
  cases A with
  | none =>
    have hn0 : n = 0 := by
      rcases Nat.eq_zero_or_pos n with h0 | h0
      · exact h0
      · obtain ⟨b, o, hx, -⟩ := hcell h0; cases hx
    subst hn0
    obtain rfl : cs = [] := List.eq_nil_of_length_eq_zero (by simpa using hl)
    clear hl hcell h1 hr
    go_enter Try.func68, Try.ntmps68
    go_wp2_with fail
    go_ret
    exact ⟨_, rfl, World.ownsRow_nil _ _ _ _, Below.refl _ _⟩
  | some p =>
    have Hown0 := Lib.hid (World.ownsRow_lit (base := w.heap.size) (e := 3) (size := 1) w #[] 0 (Nat.le_refl _) (by unfold maxLen; omega) rfl)
    have H1 := Lib.hid h1
    clear hl hcell h1
    go_enter Try.func68, Try.ntmps68
    go_wp2_with (at_builtin; refine append_ints rfl (.tmp 5) (.tmp 6) rfl w.heap.size _ 0 _ rfl Hown0.out _ n cs rfl (hr.out.alloc _) H1.out (by omega) (by simp) ?_; intro v5 w5 hown5 hg5 hat5; have Ho5 := Lib.hid hown5; have Hg5 := Lib.hid hg5; clear hown5 hg5 hat5)
    go_ret
    refine ⟨_, rfl, ?_, ((Below.refl _ _).alloc (Nat.le_refl _) _).grown Hg5.out (by simp) (own_ge0 Hown0.out)⟩
    have := Ho5.out
    simpa using this
section
variable {P : Program} {w : World} {ops : Array Oper} {o : Oper} {a : Act} {K : Act → World → Prop} {Q : Exit → Act → World → Prop} {E : Prop}
theorem step_appZ (hw : Region.wanted o (yielded ops a.tmps) = true) (s x : Operand) (t : TypeId)
    (ho : o.op = .call { callee := .builtin .append, args := #[s, x], argTypes := #[t, t] })
    (base : Nat) (e : TypeId) (i : TypeInfo) (z : Value) (size bytes : Nat) (ht : P.underlying t = some (.slice e)) (hi : P.info? e = some i) (hz : i.zero = some z)
    (hsize : i.size = size) (hby : i.bytes = bytes) (hzs : z.cells.size = size) (hsz : 0 < size)
    (v : Value) (n : Nat) (xs : List Value) (hs : a.eval s = v) (hown : w.ownsRow base e size v n xs) (sv : Value) (m : Nat) (news : List Value) (hx : a.eval x = sv) (hr : Row w size sv m news) (h1 : ∀ u ∈ news, u.oneCell' = true)
    (h63 : n + m ≤ maxLen) (hbytes : (n + m) * bytes ≤ 140737488355328) (hbase : base ≤ w.heap.size)
    (h : ∀ v' w', w'.ownsRow base e size v' (n + m) (xs ++ news) → w.grownBy w' v.ownBlock → (v'.ownBlock = v.ownBlock ∨ v'.ownBlock = some w.heap.size) → K (a.put o.dst v') w') : if Region.wanted o (yielded ops a.tmps) = true then Oper.wp P o a w K Q else E := by
  rw [if_pos hw]
  obtain ⟨v', w', hrun, h2, h3, h4⟩ := run_append_row_at (P := P) w base t o.type e i z size bytes ht hi hz hsize hby hzs hsz v n xs hown sv m news hr h1 h63 hbytes hbase
  unfold Oper.wp execOp
  simp only [ho, resolve, invoke, builtin, Sem.run_bind, Sem.run_pure, Result.andThen_ok, List.map_toArray, List.map_cons, List.map_nil, hs, hx, hrun]
  exact h v' w' h2 h3 h4
theorem step_callZ (hw : Region.wanted o (yielded ops a.tmps) = true) {f : FuncId} {vs : Array Value} {R : Value → World → Prop} (hrun : (execOp a.eval o).run P w = .ok (.enter f vs) w)
    (hc : Calls P f vs w fun e w' => ∃ v, e = .returned v ∧ R v w') (h : ∀ v w', R v w' → K (a.put o.dst v) w') : if Region.wanted o (yielded ops a.tmps) = true then Oper.wp P o a w K Q else E := by
  rw [if_pos hw]
  unfold Oper.wp
  rw [hrun]
  simp only [Oper.upon]
  exact hc.mono fun e w' ⟨v, he, hr⟩ => by subst he; exact h v w' hr
end
theorem Only.aftZ {E F : Nat → Prop} {a b c : World} (h : Only E a b) (h' : Only F b c) (hF : ∀ g, F g → a.heap.size ≤ g ∨ E g) : Only E a c :=
  ⟨h'.os.trans h.os, h'.tape.trans h.tape, h'.output.trans h.output, Nat.le_trans h.size h'.size, fun k hk hn => (h'.block k (Nat.lt_of_lt_of_le hk h.size) fun hf => by
    rcases hF k hf with e | e
    · omega
    · exact hn e).trans (h.block k hk hn)⟩
/-- A machine of the call's own, as a result. -/
def OwnMachZ (m : Mz) (w : World) (e : Ending) (w' : World) : Prop := ∃ v, e = .returned v ∧ OwnMachE w.heap.size w'.heap.size v m w' ∧ Below w.heap.size w w'
namespace Mac
theorem succ_get {m : Mz} (hv : valid m = true) {s j : Nat} (hs : s < m.next.length) (hj : j < 2 ^ m.ins.toNat) : ∃ r y c, m.next[s]? = some r ∧ r.length = 2 ^ m.ins.toNat ∧ r[j]? = some ((y : Nat) : Int) ∧ y < m.next.length ∧ (classI m.next m.out)[y]? = some c ∧ (succL m.next (classI m.next m.out) s)[j]? = some c ∧ c < m.next.length := by
  obtain ⟨r, q, y, o, h1, -, h3, -, h5, h6, -⟩ := valid_row hv hs hj
  have hl := (seqI_cl m.next m.out (m.next.length + 1)).len
  have hc : (classI m.next m.out)[y]? = some (cg (classI m.next m.out) y) := by
    unfold cg
    rw [List.getD_eq_getElem?_getD, List.getElem?_eq_getElem (by unfold classI; omega), Option.getD_some]
  refine ⟨r, y, _, h1, h3, h5, h6, hc, ?_, ?_⟩
  · unfold succL
    rw [nrow_get h1, List.getElem?_map, h5]
    rfl
  · have := (seqI_cl m.next m.out (m.next.length + 1)).le y h6
    unfold classI
    omega
theorem succ_lt {m : Mz} (hv : valid m = true) {s : Nat} (hs : s < m.next.length) : (succL m.next (classI m.next m.out) s).length = 2 ^ m.ins.toNat ∧ ∀ c ∈ succL m.next (classI m.next m.out) s, c < m.next.length := by
  have h1 := succ_len hv hs
  refine ⟨h1, fun c hc => ?_⟩
  obtain ⟨j, hj, rfl⟩ := List.mem_iff_getElem.1 hc
  obtain ⟨r, y, c', -, -, -, -, -, h7, h8⟩ := succ_get hv hs (j := j) (by omega)
  rw [List.getElem?_eq_getElem hj] at h7
  rw [Option.some.inj h7]
  exact h8
theorem minI_next {m : Mz} (hv : valid m = true) : (minI m).next = (ordL m.next (classI m.next m.out)).map fun s => (succL m.next (classI m.next m.out) s).map fun c => ((idxG (ordL m.next (classI m.next m.out)) c : Nat) : Int) := by
  unfold minI; rw [if_pos hv]; rfl
theorem minI_out {m : Mz} (hv : valid m = true) : (minI m).out = (ordL m.next (classI m.next m.out)).map (key0 m.out) := by
  unfold minI; rw [if_pos hv]; rfl
/-- The k-th rows of the minimized machine. -/
theorem min_row {m : Mz} (hv : valid m = true) {L : List Nat} {k s : Nat} (h : Bfs m.next (classI m.next m.out) k L) (hs : L[k]? = some s) :
    (minI m).next.take (k + 1) = (minI m).next.take k ++ [nats (partRow L (succL m.next (classI m.next m.out) s) (2 ^ m.ins.toNat))] ∧ ∃ q, m.out[s]? = some q ∧ q.length = 2 ^ m.ins.toNat ∧ (minI m).out.take (k + 1) = (minI m).out.take k ++ [q] := by
  have hsl := h.lt s (List.mem_of_getElem? hs)
  have hsz := valid_sizes hv
  obtain ⟨r, q, y, o, -, h2, -, h4, -⟩ := valid_row hv hsl (show 0 < 2 ^ m.ins.toNat from Nat.pow_pos (by decide))
  refine ⟨take_snoc ?_, q, h2, h4, take_snoc ?_⟩
  · rw [minI_next hv, List.getElem?_map, h.get hs, Option.map_some, ← h.row (by omega) hs, (succ_lt hv hsl).1]
  · rw [minI_out hv, List.getElem?_map, h.get hs, Option.map_some, key0_get h2]
theorem min_done {m : Mz} (hv : valid m = true) {L : List Nat} (h : Bfs m.next (classI m.next m.out) L.length L) : (minI m).next.take L.length = (minI m).next ∧ (minI m).out.take L.length = (minI m).out := by
  refine ⟨List.take_of_length_le ?_, List.take_of_length_le ?_⟩
  · rw [minI_next hv, List.length_map, h.done]; omega
  · rw [minI_out hv, List.length_map, h.done]; omega
end Mac
theorem NRows.of {m : Mz} (hv : Mac.valid m = true) : NRows m.next m.next.length (2 ^ m.ins.toNat) := by
  refine ⟨rfl, fun s hs => ?_⟩
  obtain ⟨r, y, c, h1, h2, -⟩ := Mac.succ_get hv hs (show 0 < 2 ^ m.ins.toNat from Nat.pow_pos (by decide))
  refine ⟨r, h1, h2, fun x hx => ?_⟩
  obtain ⟨r', y', c', g1, g2, g3, g4, -⟩ := Mac.succ_get hv hs hx
  rw [h1] at g1
  obtain rfl := Option.some.inj g1
  exact ⟨y', g3, g4⟩
set_option maxHeartbeats 16000000 in
theorem implMinz_ok (v : Value) (m : Mz) (w : World) (h : MachAt w v m) (hv : Mac.valid m = true) :
    Calls Try.prog 24 #[v] w (OwnMachZ (Mac.minI m) w) := by
  have HC := Lib.hid h
  obtain ⟨An, cn, Ao, co, rfl, hcnm, hcom, hcn1, hco1⟩ := h.shape
  unfold maxLen at hcnm hcom
  have hb0 := bel_new w (.cells #[.int .i64 m.ins, .slice An m.next.length cn, .slice Ao m.out.length co] 43)
  have hb00 := bel_new (w.alloc (.cells #[.int .i64 m.ins, .slice An m.next.length cn, .slice Ao m.out.length co] 43)) (.cells #[.int .i64 0, .slice none 0 0, .slice none 0 0] 43)
  have B0 := Lib.hid (hb0.trans (hb00.mono hb0.size))
  have PC := Lib.hid ((MCells.boxed w m.ins (.slice An m.next.length cn) (.slice Ao m.out.length co) 43).below hb00)
  have hsz : ((w.alloc (.cells #[.int .i64 m.ins, .slice An m.next.length cn, .slice Ao m.out.length co] 43)).alloc (.cells #[.int .i64 0, .slice none 0 0, .slice none 0 0] 43)).heap.size = w.heap.size + 2 := by simp
  have hR : ((w.alloc (.cells #[.int .i64 m.ins, .slice An m.next.length cn, .slice Ao m.out.length co] 43)).alloc (.cells #[.int .i64 0, .slice none 0 0, .slice none 0 0] 43)).heap[w.heap.size + 1]? = some (.cells #[.int .i64 0, .slice none 0 0, .slice none 0 0] 43 (0, 0)) := by
    have := heap_alloc_new (w.alloc (.cells #[.int .i64 m.ins, .slice An m.next.length cn, .slice Ao m.out.length co] 43)) (.cells #[.int .i64 0, .slice none 0 0, .slice none 0 0] 43)
    rwa [World.size_alloc] at this
  have HRes := Lib.hid hR
  obtain ⟨z, p0, p1, p2⟩ := PC.out
  have HC0 := Lib.hid (HC.out.below B0.out)
  have HV := Lib.hid (implMValid_any _ m _ HC0.out)
  rw [hv] at HV
  have Hv := Lib.hid hv
  obtain ⟨s1, s2, s3, s4, s5⟩ := Mac.valid_sizes hv
  have HNR := Lib.hid (NRows.of hv)
  have HSG := Lib.hid (fun s j hs hj => Mac.succ_get hv (s := s) (j := j) hs hj)
  have HSL := Lib.hid (fun s hs => Mac.succ_lt hv (s := s) hs)
  have HMR := Lib.hid (fun L k s h hs => Mac.min_row hv (L := L) (k := k) (s := s) h hs)
  have HMD := Lib.hid (fun L h => Mac.min_done hv (L := L) h)
  have hp4 : 2 ^ m.ins.toNat ≤ 2 ^ 4 := Nat.pow_le_pow_right (show 0 < 2 by decide) (by omega)
  have hp1 : 0 < 2 ^ m.ins.toNat := Nat.pow_pos (by decide)
  have hC0 : (Mac.classI m.next m.out)[0]? = some 0 := by
    have hl := (Mac.seqI_cl m.next m.out (m.next.length + 1)).len
    have h0 := Mac.class_zero (Mac.rows_of m hv) (show 0 < m.next.length by omega)
    unfold Mac.cg at h0
    rw [List.getD_eq_getElem?_getD, List.getElem?_eq_getElem (by unfold Mac.classI; omega), Option.getD_some] at h0
    rw [List.getElem?_eq_getElem (by unfold Mac.classI; omega), h0]
  have HC0v := Lib.hid hC0
  have HClen := Lib.hid (show (Mac.classI m.next m.out).length = m.next.length from (Mac.seqI_cl m.next m.out (m.next.length + 1)).len)
  obtain ⟨M, hM⟩ : ∃ M, 2 ^ m.ins.toNat = M := ⟨_, rfl⟩
  obtain ⟨C, hC⟩ : ∃ C, Mac.classI m.next m.out = C := ⟨_, rfl⟩
  have hcl := fun w' hN hO => classes_any (.slice An m.next.length cn) (.slice Ao m.out.length co) m.next m.out M w' hN hO (by rw [← hM]; exact HNR.out) s5 s3 s4 (by omega)
  rw [hM] at HSG HSL HMR HNR hp4 hp1
  rw [hC] at HSG HSL HMR HMD HC0v HClen hcl
  have Hcl := Lib.hid hcl
  have S5 := Lib.hid s5
  have HCi := Lib.hid hC
  clear hM hC hC0 hcl hv hb0 hb00 hR s1 s2 s5 h
  go_enter Try.func24, Try.ntmps24
  go_wp2_with fail
  generalize (w.alloc (.cells #[.int .i64 m.ins, .slice An m.next.length cn, .slice Ao m.out.length co] 43)).alloc (.cells #[.int .i64 0, .slice none 0 0, .slice none 0 0] 43) = W at *
  refine HV.out.mono ?_
  rintro e w1 ⟨rfl, hb1⟩
  have B1 := Lib.hid (B0.out.trans (hb1.mono B0.out.size))
  have HC1 := Lib.hid (HC0.out.below hb1)
  have HRes1 := Lib.hid ((hb1.block _ (by omega)).trans HRes.out)
  have PC1 := Lib.hid (PC.out.below hb1)
  have z1 := hb1.size
  clear hb1 p0 p1 p2 z HV HC0 HRes PC
  obtain ⟨z, p0, p1, p2⟩ := PC1.out
  obtain ⟨un, uo, huv, rn1, ro1⟩ := HC1.out
  simp only [Value.agg.injEq, Array.mk.injEq, List.cons.injEq, and_true, true_and] at huv
  obtain ⟨rfl, rfl⟩ := huv
  have HK := Lib.hid (Hcl.out w1 rn1 ro1)
  clear rn1 ro1 Hcl
  go_wp2_with fail
  refine HK.out.mono ?_
  rintro e w2 ⟨vC, rfl, hO2, hb2⟩
  have B2 := Lib.hid (B1.out.trans (hb2.mono B1.out.size))
  have HC2 := Lib.hid (HC1.out.below hb2)
  have HRes2 := Lib.hid ((hb2.block _ (by omega)).trans HRes1.out)
  have PC2 := Lib.hid (PC1.out.below hb2)
  have z2 := hb2.size
  rw [nats_length, HClen.out] at hO2
  obtain ⟨gC, cC, hvC, hgC, hgC2, hcC, hcCm⟩ := own_open hO2 (by omega)
  subst hvC
  unfold maxLen at hcCm
  have HCC : Hid (∀ y c, C[y]? = some c → w2.cell? ⟨gC, y, none⟩ = some (.int .i64 (c : Nat))) := Lib.hid fun y c hy => by
    have hyl := (List.getElem?_eq_some_iff.1 hy).1
    obtain ⟨u, hu, hcell, -⟩ := own_slot hO2 (j := y) (by have := HClen.out; omega)
    unfold ints nats at hu
    rw [List.getElem?_map, List.getElem?_map, hy] at hu
    rw [hcell, ← hu]
    rfl
  have c00 := HCC.out 0 0 HC0v.out
  clear hb2 p0 p1 p2 z HC1 HRes1 PC1 HK hO2
  obtain ⟨z, p0, p1, p2⟩ := PC2.out
  have hbl := bel_new w2 (.cells #[.int .i64 0] 3)
  have hbm := bel_new (w2.alloc (.cells #[.int .i64 0] 3)) (.cells #[.int .i64 m.ins, .slice none 0 0, .slice none 0 0] 43)
  have hsl : (w2.alloc (.cells #[.int .i64 0] 3)).heap.size = w2.heap.size + 1 := by simp
  have HMB0 := Lib.hid (MB.start (ins := m.ins) (w := w2.alloc (.cells #[.int .i64 0] 3)) trivial)
  rw [hsl] at HMB0
  have HOr := Lib.hid (own_below (World.ownsRow_lit (base := w2.heap.size) (e := 3) (size := 1) w2 #[.int .i64 0] 1 (Nat.le_refl _) (by unfold maxLen; omega) rfl) hbm)
  have HBf := Lib.hid (hbl.trans (hbm.mono hbl.size))
  have PCl := Lib.hid (PC2.out.below hbl)
  obtain ⟨y, y0, y1, y2⟩ := PCl.out
  have HBs := Lib.hid (Mac.Bfs.start (next := m.next) (C := C) (by omega))
  clear hbl hbm
  go_wp2_with fail
  clear c00 y y0 y1 y2 z p0 p1 p2 hsl PCl
  generalize (w2.alloc (.cells #[.int .i64 0] 3)).alloc (.cells #[.int .i64 m.ins, .slice none 0 0, .slice none 0 0] 43) = w3 at *
  have HOr := Lib.hid (show w3.ownsRow w2.heap.size 3 1 (.slice (some ⟨w2.heap.size, 0, none⟩) 1 1) [0].length (nints [0]) from HOr.out)
  obtain ⟨gm, hgm⟩ : ∃ gm, w2.heap.size + 1 = gm := ⟨_, rfl⟩
  rw [hgm] at HMB0 ⊢
  go_loopw [4, 6] (fun vo i wr => ∃ (vv : Value) (k : Nat) (L : List Nat) (E1 E2 : Nat → Prop) (vN vO : Value), vv = vo ∧ i = .int .i64 k ∧ Hid (Mac.Bfs m.next C k L) ∧ Hid (wr.ownsRow w2.heap.size 3 1 vo L.length (nints L)) ∧ Hid (∀ g, vo.ownBlock = some g → ¬ E1 g ∧ ¬ E2 g ∧ g ≠ gm) ∧ Hid (MB gm m.ins E1 E2 vN vO ((Mac.minI m).next.take k) ((Mac.minI m).out.take k) wr) ∧ Hid (Below w2.heap.size w2 wr)) (fun _ i _ => 9 - (intOf i).toNat)
  case atStart => exact ⟨_, 0, [0], _, _, _, _, rfl, rfl, HBs, HOr, Lib.hid (fun g hg => ⟨id, id, by have := Option.some.inj hg; simp only at this; omega⟩), HMB0, HBf⟩
  case round =>
    obtain ⟨vv, k, L, E1, E2, vN, vO, hvv, rfl, HB, Ho, HNo, HMB, Hb⟩ := hrel
    subst hvv
    clear HOr HMB0 HBf HBs
    have hzb := Hb.out.size
    have hL8 := HB.out.len
    have hkL := HB.out.kl
    by_cases hlt : k < L.length
    · have hdk : decide (k < L.length) = true := decide_eq_true hlt
      obtain ⟨s, hs⟩ := at_some hlt
      have hsN := HB.out.lt s (List.mem_of_getElem? hs)
      obtain ⟨gO, cO, hvO, hgO, hgO2, hcO, hcOm⟩ := own_open Ho.out (by omega)
      subst hvO
      unfold maxLen at hcOm
      obtain ⟨u0, hu0, hcellO, -⟩ := own_slot Ho.out (j := k) (by omega)
      have hu : u0 = .int .i64 (s : Nat) := by
        unfold nints ints nats at hu0
        rw [List.getElem?_map, List.getElem?_map, hs] at hu0
        exact (Option.some.inj hu0).symm
      subst hu
      obtain ⟨rr, -, -, er, lr, -⟩ := HSG.out s 0 hsN hp1
      obtain ⟨un, uo, huv, rn, ro⟩ := HC2.out
      simp only [Value.agg.injEq, Array.mk.injEq, List.cons.injEq, and_true, true_and] at huv
      obtain ⟨rfl, rfl⟩ := huv
      obtain ⟨bn, on, Bn, mn, hAn, hbn, hcn0, hn1, hn2, hrn⟩ := ss_open rn (Below.refl _ _) er
      obtain ⟨hxN, qq, eq, lq, hxO⟩ := HMR.out L k s HB.out hs
      obtain ⟨bo, oo, Bo, mo, hAo, hbo, hco0, ho1, ho2, hro⟩ := ss_open ro (Below.refl _ _) eq
      rw [lr] at hcn0 hn1
      rw [lq] at hco0 ho1
      unfold maxLen at hn2 ho2
      subst hAn hAo
      obtain ⟨hSl, hSc⟩ := HSL.out s hsN
      have HSG2 : Hid (∀ j, j < M → ∃ y c : Nat, rr[j]? = some ((y : Nat) : Int) ∧ y < m.next.length ∧ C[y]? = some c ∧ (Mac.succL m.next C s)[j]? = some c ∧ c < m.next.length) := Lib.hid fun j hj => by
        obtain ⟨r', y, c, g1, g2, g3, g4, g5, g6, g7⟩ := HSG.out s j hsN hj
        rw [er] at g1
        obtain rfl := Option.some.inj g1
        exact ⟨y, c, g3, g4, g5, g6, g7⟩
      have HLe : Hid (∀ j, (Mac.pushesG L ((Mac.succL m.next C s).take j)).length ≤ m.next.length) := Lib.hid fun j => Mac.nodup_lt _ _ (Mac.pushesG_nodup _ HB.out.nd) (fun x hx => ((Mac.mem_pushesG _ _).1 hx).elim (HB.out.lt x) (fun h => hSc x (List.mem_of_mem_take h)))
      have HStep := Lib.hid (HB.out.step s4 hs hSc)
      have HXN := Lib.hid hxN
      have HXO := Lib.hid hxO
      have HRn := Lib.hid hrn
      have HRo := Lib.hid hro
      have Hlr := Lib.hid lr
      have Hlq := Lib.hid lq
      have Hs := Lib.hid hs
      have HCn := Lib.hid hcn0
      have HCo := Lib.hid hco0
      obtain ⟨S, hS⟩ : ∃ S, Mac.succL m.next C s = S := ⟨_, rfl⟩
      rw [hS] at HSG2 HLe HStep HXN hSl
      have HSl := Lib.hid hSl
      obtain ⟨z, p0, p1, p2⟩ := PC2.out.below Hb.out
      have hcn := (Hb.out.cell (p := ⟨bn, on + s, none⟩) hbn).trans hcn0
      have hmn : decide (s < m.next.length) = true := decide_eq_true hsN
      clear rn ro er eq lr lq hxN hxO hrn hro hSl hSc hu0 hs hS hcn0 hco0
      go_wp2_with fail
      go_quiet (fail)
      go_wp2_with fail
      have HD := Lib.hid (Drew.by wr nq)
      generalize wr.drewN nq = Wk at *
      have hbk := HD.out.below wr.heap.size
      have zk := HD.out.size
      have HoK := Lib.hid (own_below Ho.out hbk)
      have HMBk := Lib.hid (HMB.out.below hbk)
      have Hbk := Lib.hid (Hb.out.trans (HD.out.below w2.heap.size))
      have hgmk := mb_lt HMBk.out
      have hNO := HNo.out gO rfl
      have HNO := Lib.hid hNO
      clear hbk HD Ho HMB Hb HNo hNO hcellO hcn p0 p1 p2 z
      obtain ⟨Wr, hWr⟩ : ∃ Wr, Wr = wr := ⟨_, rfl⟩
      subst hWr
      go_loopw [4, 7, 42] (fun vo vx i wi => ∃ (v1 v2 : Value) (j : Nat), v1 = vo ∧ v2 = vx ∧ i = .int .i64 j ∧ j ≤ M ∧ Hid (wi.ownsRow w2.heap.size 3 1 vo (Mac.pushesG L (S.take j)).length (nints (Mac.pushesG L (S.take j)))) ∧ Hid (wi.ownsRow Wk.heap.size 3 1 vx j (nints (Mac.partRow L S j))) ∧ Hid (Apart vx vo) ∧ Hid (∀ g, vo.ownBlock = some g → g = gO ∨ Wk.heap.size ≤ g) ∧ Hid (Only (· = gO) Wk wi)) (fun _ _ i _ => M - (intOf i).toNat)
      case atStart => exact ⟨_, _, 0, rfl, rfl, rfl, Nat.zero_le _, HoK, Lib.hid (World.ownsRow_nil _ _ _ _), Lib.hid (fun g h => by simp [Value.ownBlock] at h), Lib.hid (fun g hg => .inl (by have := Option.some.inj hg; simp only at this; omega)), Lib.hid (Only.refl _ _)⟩
      case round =>
        obtain ⟨v1, v2, j, h1, h2, rfl, hj, Hov, Hxv, Hap, Hloc, HO⟩ := hrel
        subst h1 h2
        clear HoK
        have hzi := HO.out.size
        have HbI := Lib.hid (Only.below Hbk.out HO.out (by omega) (fun g hg => by omega))
        by_cases hlj : j < M
        · have hdj : decide (j < M) = true := decide_eq_true hlj
          obtain ⟨y, c, hy, hyN, hCy, hSj, hcN⟩ := HSG2.out j hlj
          obtain ⟨b1, o1, rfl, hb1, hcy0⟩ := ints_row HRn.out rfl hy
          have hcy := (HbI.out.cell (p := ⟨b1, o1 + j, none⟩) hb1).trans hcy0
          have hcC := (HbI.out.cell (p := ⟨gC, y, none⟩) hgC2).trans (HCC.out y c hCy)
          have hyd : decide (y < m.next.length) = true := decide_eq_true hyN
          have hI := index_any v1 (Mac.pushesG L (S.take j)) c wr (own_nats Hov.out) (by omega)
          rw [Mac.idxOf_G] at hI
          have hPR := Mac.partRow_snoc (L := L) hSj
          have hLS : Mac.pushesG L (S.take (j + 1)) = Mac.pushG (Mac.pushesG L (S.take j)) c := by rw [take_snoc hSj, Mac.pushesG_snoc]
          have hLl := HLe.out j
          have hLl1 := HLe.out (j + 1)
          clear hy hCy hSj hcy0
          by_cases hmem : c ∈ Mac.pushesG L (S.take j)
          · rw [if_pos hmem] at hI hPR
            rw [show Mac.pushG (Mac.pushesG L (S.take j)) c = Mac.pushesG L (S.take j) from by unfold Mac.pushG; rw [if_pos hmem]] at hLS
            have hql := (Mac.idxG_get hmem).2
            obtain ⟨q, hq⟩ : ∃ q, Mac.idxG (Mac.pushesG L (S.take j)) c = q := ⟨_, rfl⟩
            rw [hq] at hI hPR hql
            have HI := Lib.hid hI
            have HPR : Hid (nints (Mac.partRow L S (j + 1)) = nints (Mac.partRow L S j) ++ [.int .i64 (q : Int)]) := Lib.hid (by rw [hPR, nints_snoc])
            have HLS := Lib.hid hLS
            have hq0 : decide ((q : Int) < 0) = false := decide_eq_false (by omega)
            have Hlit := Lib.hid (Row.of_own (World.ownsRow_lit (base := wr.heap.size) (e := 3) (size := 1) wr #[.int .i64 q] 1 (Nat.le_refl _) (by unfold maxLen; omega) rfl))
            obtain ⟨LJ, hLJ⟩ : ∃ LJ, Mac.pushesG L (S.take j) = LJ := ⟨_, rfl⟩
            rw [hLJ] at Hov hLl hql HLS
            have HLJ := Lib.hid hLJ
            obtain ⟨A1, c1, hv1⟩ := slice_of_own Hov.out
            subst hv1
            clear hI hPR hLS hmem hq hLJ
            go_wp2_with fail
            refine HI.out.mono ?_
            rintro e w' ⟨rfl, rfl⟩
            go_wp2_with (at_builtin; refine append_ints rfl (.tmp 63) (.tmp 65) rfl Wk.heap.size _ j _ rfl (Hxv.out.alloc _) _ 1 [.int .i64 q] rfl Hlit.out (by simp [Value.oneCell']) (by omega) (by simp <;> omega) ?_; intro v7 w7 hown7 hg7 hat7; have Hx7 := Lib.hid hown7; have Hat7 := Lib.hid hat7; have Ho7 := Lib.hid (own_kept (Hov.out.alloc (.cells #[.int .i64 q] 3)) hg7 (fun g h1 h2 => Hap.out g h2 h1)); have Ha7 := Lib.hid (apart_new Hap.out hat7 (fun g hg => by have := ((Hov.out.alloc (.cells #[.int .i64 q] 3)).lt g hg).2; exact this)); have HO7 := Lib.hid (Only.aftZ (HO.out.trans (Only.of_below _ (bel_new wr (.cells #[.int .i64 q] 3)))) (Only.grown hg7 (fun g hg => hg)) (fun g hg => .inl (Hxv.out.lt g hg).1)); clear hown7 hg7 hat7)
            go_roundw
            case rel => exact ⟨_, _, j + 1, rfl, rfl, by go_num, by omega, Lib.hid (by rw [HLS.out]; exact Ho7.out), Lib.hid (by rw [HPR.out]; exact Hx7.out), Ha7, Hloc, HO7⟩
            case measure => simp [intOf] <;> omega
          · rw [if_neg hmem] at hI hPR
            rw [show Mac.pushG (Mac.pushesG L (S.take j)) c = Mac.pushesG L (S.take j) ++ [c] from by unfold Mac.pushG; rw [if_neg hmem]] at hLS
            have HI := Lib.hid hI
            obtain ⟨LJ, hLJ⟩ : ∃ LJ, Mac.pushesG L (S.take j) = LJ := ⟨_, rfl⟩
            rw [hLJ] at Hov hLl hLS hPR
            obtain ⟨q, hq⟩ : ∃ q, LJ.length = q := ⟨_, rfl⟩
            have HPR : Hid (nints (Mac.partRow L S (j + 1)) = nints (Mac.partRow L S j) ++ [.int .i64 (LJ.length : Int)]) := Lib.hid (by rw [hPR, nints_snoc])
            have HLS := Lib.hid hLS
            have HLl : Hid ((Mac.pushesG L (S.take (j + 1))).length = LJ.length + 1) := Lib.hid (by rw [hLS, List.length_append]; rfl)
            have HLn : Hid (nints (Mac.pushesG L (S.take (j + 1))) = nints LJ ++ [.int .i64 (c : Int)]) := Lib.hid (by rw [hLS, nints_snoc])
            have HLJ := Lib.hid hLJ
            have Hlit := Lib.hid (Row.of_own (World.ownsRow_lit (base := wr.heap.size) (e := 3) (size := 1) wr #[.int .i64 c] 1 (Nat.le_refl _) (by unfold maxLen; omega) rfl))
            obtain ⟨A1, c1, hv1⟩ := slice_of_own Hov.out
            subst hv1
            clear hI hPR hLS hmem hLJ hq
            go_wp2_with fail
            refine HI.out.mono ?_
            rintro e w' ⟨rfl, rfl⟩
            go_wp2_with (first
              | (at_builtin; refine append_ints rfl (.tmp 56) (.tmp 61) rfl w2.heap.size _ LJ.length _ rfl (Hov.out.alloc _) _ 1 [.int .i64 c] rfl Hlit.out (by simp [Value.oneCell']) (by omega) (by simp <;> omega) ?_; intro v7 w7 hown7 hg7 hat7; have Ho7 := Lib.hid hown7; have Hat7 := Lib.hid hat7; have Hx7 := Lib.hid (own_kept (Hxv.out.alloc (.cells #[.int .i64 c] 3)) hg7 (fun g h1 h2 => Hap.out g h1 h2)); have Ha7 := Lib.hid (Apart.symm (apart_new (Apart.symm Hap.out) hat7 (fun g hg => by have := ((Hxv.out.alloc (.cells #[.int .i64 c] 3)).lt g hg).2; exact this))); have HO7 := Lib.hid (Only.aftZ (HO.out.trans (Only.of_below _ (bel_new wr (.cells #[.int .i64 c] 3)))) (Only.grown hg7 (fun g hg => hg)) (fun g hg => (Hloc.out g hg).elim .inr .inl)); have Hlit2 := Lib.hid (Row.of_own (World.ownsRow_lit (base := w7.heap.size) (e := 3) (size := 1) w7 #[.int .i64 LJ.length] 1 (Nat.le_refl _) (by unfold maxLen; omega) rfl)); have hz7 := hg7.size; rw [World.size_alloc] at hz7; clear hown7 hg7 hat7)
              | (at_builtin; refine append_ints rfl (.tmp 63) (.tmp 65) rfl Wk.heap.size _ j _ rfl (Hx7.out.alloc _) _ 1 [.int .i64 LJ.length] rfl Hlit2.out (by simp [Value.oneCell']) (by omega) (by simp <;> omega) ?_; intro v9 w9 hown9 hg9 hat9; have Hx9 := Lib.hid hown9; have Ho9 := Lib.hid (own_kept (Ho7.out.alloc (.cells #[.int .i64 LJ.length] 3)) hg9 (fun g h1 h2 => Ha7.out g h2 h1)); have Ha9 := Lib.hid (apart_new Ha7.out hat9 (fun g hg => by have := ((Ho7.out.alloc (.cells #[.int .i64 LJ.length] 3)).lt g hg).2; exact this)); have HO9 := Lib.hid (Only.aftZ (HO7.out.trans (Only.of_below _ (bel_new w7 (.cells #[.int .i64 LJ.length] 3)))) (Only.grown hg9 (fun g hg => hg)) (fun g hg => .inl (Hx7.out.lt g hg).1)); clear hown9 hg9 hat9))
            go_roundw
            case rel => exact ⟨_, _, j + 1, rfl, rfl, by go_num, by omega, Lib.hid (by rw [HLl.out, HLn.out]; exact Ho9.out), Lib.hid (by rw [HPR.out]; exact Hx9.out), Ha9, Lib.hid (fun g hg => by
                rcases Hat7.out with h | h
                · exact Hloc.out g (h.symm.trans hg)
                · have := Option.some.inj (hg.symm.trans h)
                  rw [World.size_alloc] at this
                  omega), HO9⟩
            case measure => simp [intOf] <;> omega
        · obtain rfl : j = M := by omega
          have hdj : decide (j < j) = false := decide_eq_false (by omega)
          have hfull : Mac.pushesG L (S.take j) = Mac.pushesG L S := by rw [List.take_of_length_le (by have := HSl.out; omega)]
          have hLn := HLe.out j
          have hov := Hov.out
          rw [hfull] at hov hLn
          have hpl : (nats (Mac.partRow L S j)).length = j := by rw [nats_length, Mac.partRow_len, HSl.out]; omega
          have HPL := Lib.hid hpl
          have Lpos : 0 < (Mac.pushesG L S).length := by
            have h0 := List.mem_of_getElem? Hs.out
            have := (Mac.mem_pushesG S L).2 (.inl h0)
            exact List.length_pos_of_mem this
          obtain ⟨gP, cP, hvP, hgP, hgP2, hcP, hcPm⟩ := own_open hov Lpos
          obtain ⟨ga, ca, hva, hga, hga2, hca, hcam⟩ := own_open Hxv.out (by omega)
          subst hvP hva
          unfold maxLen at hcPm hcam
          have HMB5 := Lib.hid (HMBk.out.grown HO.out.grownBy (fun e => by have := Option.some.inj e; have := HNO.out.2.2; omega) (fun g hg he => HNO.out.1 (by have := Option.some.inj hg; rw [this]; exact he)) (fun g hg he => HNO.out.2.1 (by have := Option.some.inj hg; rw [this]; exact he)))
          have hPn : Hid (gP ≠ gm ∧ ¬ E1 gP ∧ ¬ E2 gP) := Lib.hid (by
            rcases Hloc.out gP rfl with h | h
            · rw [h]; exact ⟨HNO.out.2.2, HNO.out.1, HNO.out.2.1⟩
            · exact ⟨by omega, fun he => by have := HMBk.out.l1 gP he; omega, fun he => by have := HMBk.out.l2 gP he; omega⟩)
          have Na1 : Hid (∀ g, (Value.slice (some ⟨ga, 0, none⟩) j ca).ownBlock = some g → ¬ E1 g ∧ ¬ E2 g) := Lib.hid fun g hg => ⟨fun he => by have h1 := HMBk.out.l1 g he; have h2 := (Hxv.out.lt g hg).1; omega, fun he => by have h1 := HMBk.out.l2 g he; have h2 := (Hxv.out.lt g hg).1; omega⟩
          have hgaP : ga ≠ gP := fun e => Hap.out ga rfl (by rw [e]; rfl)
          have Oa5 : Hid (wr.ownsRow (gm + 1) 3 1 (.slice (some ⟨ga, 0, none⟩) j ca) (nats (Mac.partRow L S j)).length (ints (nats (Mac.partRow L S j)))) := Lib.hid (by rw [HPL.out]; exact own_mono Hxv.out (by omega))
          have HOv := Lib.hid hov
          have hcs : Hid (∀ w', Below w2.heap.size w2 w' → w'.cell? ⟨w.heap.size, 2, none⟩ = some (.slice (some ⟨bo, oo, none⟩) m.out.length co) ∧ w'.cell? ⟨bo, oo + s, none⟩ = some (.slice Bo j mo)) := Lib.hid fun w' hb => by
            obtain ⟨-, -, -, x2⟩ := PC2.out.below hb
            exact ⟨x2, (hb.cell (p := ⟨bo, oo + s, none⟩) hbo).trans HCo.out⟩
          have hkP : k < (Mac.pushesG L S).length := by
            obtain ⟨mm, hmm⟩ := Mac.pushesG_prefix S L
            rw [hmm, List.length_append]; omega
          have hget : (nints (Mac.pushesG L S))[k]? = some (.int .i64 (s : Nat)) := by
            obtain ⟨mm, hmm⟩ := Mac.pushesG_prefix S L
            unfold nints ints nats
            rw [List.getElem?_map, List.getElem?_map, hmm, List.getElem?_append_left (by omega), Hs.out]
            rfl
          have HGet := Lib.hid hget
          have hso : s < m.out.length := by have := S5.out; omega
          have hx1 : ((Mac.minI m).next.take k).length = k ∧ ((Mac.minI m).out.take k).length = k := by
            have h1 := congrArg List.length HXN.out
            have h2 := congrArg List.length HXO.out
            simp only [List.length_take, List.length_append, List.length_singleton] at h1 h2 ⊢
            omega
          have Hl1 := Lib.hid hx1.1
          have Hl2 := Lib.hid hx1.2
          have HMl := HMB5.out.below (bel_new wr (.cells #[.slice (some ⟨ga, 0, none⟩) j ca] 22))
          obtain ⟨us, q1, q2, q3, q4, q5, q6, q7⟩ := HMl.n
          rw [hx1.1] at q1 q2
          have Q2 := Lib.hid q2
          have HML := Lib.hid HMl
          have Q := Lib.hid (And.intro q1 (And.intro q3 (And.intro q4 (And.intro q5 (And.intro q6 q7)))))
          have Oal := Lib.hid (Oa5.out.alloc (.cells #[.slice (some ⟨ga, 0, none⟩) j ca] 22))
          have Hlit := Lib.hid (Row.of_own (World.ownsRow_lit (base := wr.heap.size) (e := 22) (size := 1) wr #[.slice (some ⟨ga, 0, none⟩) j ca] 1 (Nat.le_refl _) (by unfold maxLen; omega) rfl))
          have hgm5 := mb_lt HMB5.out
          obtain ⟨k0, k1, k2, k3, k4⟩ := HMB5.out.cells
          obtain ⟨LP, hLP⟩ : ∃ LP, Mac.pushesG L S = LP := ⟨_, rfl⟩
          rw [hLP] at HOv HStep HGet hcP hkP hLn Lpos ⊢
          have hlP : decide (k < LP.length) = true := decide_eq_true hkP
          have hgmw : w.heap.size ≠ gm := by omega
          clear hfull hpl hget hx1 HMl q1 q2 q3 q4 q5 q6 q7 hov Hov Hxv HMBk hLP HMD HMR HSG HSL HSG2
          go_wp2_with (at_builtin; refine append_intss rfl (.tmp 69) (.tmp 71) rfl (gm + 1) vN k us rfl Q2.out _ 1 [.slice (some ⟨ga, 0, none⟩) j ca] rfl Hlit.out (by simp [Value.oneCell']) (by omega) (by first | omega | (simp <;> omega)) ?_; intro v7 w7 hown7 hg7 hat7; obtain ⟨A7, c7, hv7⟩ := slice_of_own hown7; subst hv7; have HMB7 := Lib.hid (MB.addN HML.out (Q.out.1.trans Hl1.out.symm) Q.out.2.1 Q.out.2.2.1 Q.out.2.2.2.1 Q.out.2.2.2.2.1 Q.out.2.2.2.2.2 Oal.out (fun g hg => (Na1.out g hg).1) (fun g hg => (Na1.out g hg).2) (by rw [Hl1.out]; exact hown7) hg7 hat7); have hbx := (hg7.block gm (mb_lt HML.out) (fun e => by obtain ⟨_, _, p2, _⟩ := HML.out.n; have := (p2.lt _ e.symm).1; omega)).trans HML.out.box; have x1 := blk_cell hbx 1; have y1 := blk_free hbx 1; have Hg7 := Lib.hid hg7; have Hat7 := Lib.hid hat7; clear hown7 hg7 hat7 hbx)
          have hV7 : Hid (∀ g, vN.ownBlock = some g → E1 g) := Lib.hid (Q.out.2.2.2.2.1)
          have hz7 := Hg7.out.size
          rw [World.size_alloc] at hz7
          have hox : Only (· = gm) w7 (w7.setCell ⟨gm, 1, none⟩ (.slice A7 (k + 1) c7)) := Only.grown (set_grown w7 gm 1 _) (fun g hg => (Option.some.inj hg).symm)
          have HOv8 := Lib.hid (own_only (own_kept (HOv.out.alloc (.cells #[.slice (some ⟨ga, 0, none⟩) j ca] 22)) Hg7.out (fun g hg e => hPn.out.2.1 (by have h1 := Option.some.inj hg; simp only at h1; rw [h1]; exact hV7.out g e))) hox (fun g hg e => hPn.out.1 (by have h1 := Option.some.inj hg; simp only at h1; rw [h1]; exact e)))
          have Hb8 := Lib.hid (Only.below ((HbI.out.alloc HbI.out.size (.cells #[.slice (some ⟨ga, 0, none⟩) j ca] 22)).grown Hg7.out (by simp <;> omega) (fun q hq => by have := (Q2.out.lt q hq).1; omega)) hox (by omega) (fun g hg => by omega))
          have hz8 : wr.heap.size + 1 ≤ (w7.setCell ⟨gm, 1, none⟩ (.slice A7 (k + 1) c7)).heap.size := Nat.le_trans hz7 hox.size
          have hPE : Hid (¬ (E1 gP ∨ (Value.slice (some ⟨ga, 0, none⟩) j ca).ownBlock = some gP ∨ (Value.slice A7 (k + 1) c7).ownBlock = some gP)) := Lib.hid (by
            rintro (h | h | h)
            · exact hPn.out.2.1 h
            · have := Option.some.inj h; simp only at this; exact hgaP this
            · rcases Hat7.out with h2 | h2
              · exact hPn.out.2.1 (hV7.out gP (h2.symm.trans h))
              · have h3 := Option.some.inj (h.symm.trans h2)
                rw [World.size_alloc] at h3
                omega)
          have hA7 : Hid (∀ g, (E1 g ∨ (Value.slice (some ⟨ga, 0, none⟩) j ca).ownBlock = some g ∨ (Value.slice A7 (k + 1) c7).ownBlock = some g) → g < (w7.setCell ⟨gm, 1, none⟩ (.slice A7 (k + 1) c7)).heap.size) := Lib.hid HMB7.out.l1
          clear hox x1 y1 k0 k1 k2 k3 k4 Hat7 Q Q2 Oal HML Hlit hz7 Oa5
          generalize w7.setCell ⟨gm, 1, none⟩ (.slice A7 (k + 1) c7) = W8 at *
          obtain ⟨E3, hE3⟩ : ∃ E3 : Nat → Prop, (fun g => E1 g ∨ (Value.slice (some ⟨ga, 0, none⟩) j ca).ownBlock = some g ∨ (Value.slice A7 (k + 1) c7).ownBlock = some g) = E3 := ⟨_, rfl⟩
          have HMB8 : Hid (MB gm m.ins E3 E2 (.slice A7 (k + 1) c7) vO ((Mac.minI m).next.take (k + 1)) ((Mac.minI m).out.take k) W8) := Lib.hid (by rw [← hE3, HXN.out]; exact HMB7.out)
          have hPE3 : Hid (¬ E3 gP) := Lib.hid (by rw [← hE3]; exact hPE.out)
          clear HMB7 hE3 hPE hA7
          obtain ⟨us2, t1, t2, t3, t4, t5, t6, t7⟩ := HMB8.out.o
          rw [Hl2.out] at t1 t2
          have T2 := Lib.hid t2
          have TQ := Lib.hid (And.intro t1 (And.intro t3 (And.intro t4 (And.intro t5 (And.intro t6 t7)))))
          obtain ⟨u0, hu0, hcellP, -⟩ := own_slot HOv8.out (j := k) (by omega)
          rw [HGet.out] at hu0
          obtain rfl := Option.some.inj hu0
          have hgm8 := mb_lt HMB8.out
          obtain ⟨-, -, kk2, -, kf2⟩ := HMB8.out.cells
          have hgP8 := (HOv8.out.lt gP rfl).2
          have HKP : Hid (∀ w', Below W8.heap.size W8 w' → w'.cell? ⟨gm, 2, none⟩ = some vO ∧ w'.cell? ⟨w.heap.size, 2, none⟩ = some (.slice (some ⟨bo, oo, none⟩) m.out.length co) ∧ w'.cell? ⟨gP, k, none⟩ = some (.int .i64 s) ∧ w'.cell? ⟨bo, oo + s, none⟩ = some (.slice Bo j mo)) := Lib.hid fun w' hb => by
            obtain ⟨x1, x2⟩ := hcs.out w' (Hb8.out.trans (hb.mono Hb8.out.size))
            exact ⟨(hb.cell (p := ⟨gm, 2, none⟩) hgm8).trans kk2, x1, (hb.cell (p := ⟨gP, k, none⟩) hgP8).trans hcellP, x2⟩
          have HRo8 : Hid (∀ w', Below W8.heap.size W8 w' → Row w' 1 (.slice Bo j mo) j (ints qq)) := Lib.hid fun w' hb => by
            have := HRo.out.below (Hb8.out.trans (hb.mono Hb8.out.size))
            rwa [Hlq.out] at this
          obtain ⟨i0, hi0, hz0, hz1, hz2⟩ := info_parts info_ints
          have hd0 : Below W8.heap.size W8 W8.drew := (Below.refl W8.heap.size W8).drew
          obtain ⟨d1, d2, d3, d4⟩ := HKP.out _ hd0
          have Hd0 := Lib.hid hd0
          have hsod : decide (s < m.out.length) = true := decide_eq_true hso
          clear t1 t2 t3 t4 t5 t6 t7 hu0 hcellP kk2 kf2 hd0
          go_region_law (first
            | (refine step_callZ (by simp [Region.wanted, yielded, Act.put]) (f := 68) (vs := #[.slice Bo j mo]) (R := fun v w' => w'.ownsRow W8.heap.size 3 1 v j (ints qq) ∧ Below W8.heap.size W8 w') (by go_simp) ((cloneI_any (.slice Bo j mo) j (ints qq) _ (HRo8.out _ Hd0.out) (ints_one _) (by omega)).mono (fun e w' ⟨v', he, h1, h2⟩ => ⟨v', he, h1, Hd0.out.trans h2⟩)) ?_; rintro v3 w3 ⟨hown3, hb3⟩; obtain ⟨A3, c3, hv3⟩ := slice_of_own hown3; subst hv3; obtain ⟨e1, e2, e3, e4⟩ := HKP.out _ hb3; obtain ⟨f1, f2, f3, f4⟩ := HKP.out _ (hb3.alloc hb3.size (.cells #[.slice A3 j c3] 22)))
            | (refine step_appZ (by simp [Region.wanted, yielded, Act.put]) (.tmp 75) (.tmp 85) 39 rfl (gm + 1) 22 i0 _ 1 24 Try.underlying39 hi0 hz0 hz1 hz2 rfl (by decide) vO k us2 (by simp [Act.eval, Act.put]) (own_below T2.out (hb3.alloc hb3.size (.cells #[.slice A3 j c3] 22))) (.slice (some ⟨w3.heap.size, 0, none⟩) 1 1) 1 [.slice A3 j c3] (by simp [Act.eval, Act.put]) (Row.of_own (World.ownsRow_lit (base := w3.heap.size) (e := 22) (size := 1) w3 #[.slice A3 j c3] 1 (Nat.le_refl _) (by unfold maxLen; omega) rfl)) (by simp [Value.oneCell']) (by unfold maxLen; omega) (by omega) (by have := hb3.size; simp <;> omega) ?_; intro v9 w9 hown9 hg9 hat9; obtain ⟨A9, c9, hv9⟩ := slice_of_own hown9; subst hv9; have HMB9 := Lib.hid (MB.addO (u := .slice A3 j c3) (x := qq) (HMB8.out.below (hb3.alloc hb3.size (.cells #[.slice A3 j c3] 22))) (TQ.out.1.trans Hl2.out.symm) (fun i x u hx hu => own_below (TQ.out.2.1 i x u hx hu) (hb3.alloc hb3.size (.cells #[.slice A3 j c3] 22))) TQ.out.2.2.1 TQ.out.2.2.2.1 TQ.out.2.2.2.2.1 TQ.out.2.2.2.2.2 (by rw [Hlq.out]; exact own_mono (hown3.alloc (.cells #[.slice A3 j c3] 22)) (by omega)) (fun g hg he => by have h1 := (hown3.lt g hg).1; have h2 := HMB8.out.l1 g he; omega) (fun g hg he => by have h1 := (hown3.lt g hg).1; have h2 := HMB8.out.l2 g he; omega) (by rw [Hl2.out]; exact hown9) hg9 hat9); have hbx := (hg9.block gm (by have := hb3.size; simp <;> omega) (fun e => by have := (T2.out.lt _ e.symm).1; omega)).trans ((hb3.alloc hb3.size (.cells #[.slice A3 j c3] 22)).block gm hgm8 |>.trans HMB8.out.box); have x2 := blk_cell hbx 2; have y2 := blk_free hbx 2))
          all_goals
            have HOv9 := Lib.hid (own_only (own_kept (own_below HOv8.out (hb3.alloc hb3.size (.cells #[.slice A3 j c3] 22))) hg9 (fun g hg e => hPn.out.2.2 (by have h1 := Option.some.inj hg; simp only at h1; rw [h1]; exact TQ.out.2.2.2.2.1 g e))) (Only.grown (E := (· = gm)) (set_grown w9 gm 2 (.slice A9 (k + 1) c9)) (fun g hg => (Option.some.inj hg).symm)) (fun g hg e => hPn.out.1 (by have h1 := Option.some.inj hg; simp only at h1; rw [h1]; exact e)))
            have HNo9 : Hid (∀ g, (Value.slice (some ⟨gP, 0, none⟩) LP.length cP).ownBlock = some g → ¬ E3 g ∧ ¬ (E2 g ∨ (Value.slice A3 j c3).ownBlock = some g ∨ (Value.slice A9 (k + 1) c9).ownBlock = some g) ∧ g ≠ gm) := Lib.hid (fun g hg => by
              have h1 := Option.some.inj hg
              simp only at h1
              subst h1
              refine ⟨hPE3.out, ?_, hPn.out.1⟩
              rintro (h | h | h)
              · exact hPn.out.2.2 h
              · have h2 := (hown3.lt gP h).1; omega
              · rcases hat9 with h2 | h2
                · exact hPn.out.2.2 (TQ.out.2.2.2.2.1 gP (h2.symm.trans h))
                · have h3 := Option.some.inj (h.symm.trans h2)
                  have h4 := hb3.size
                  rw [World.size_alloc] at h3
                  omega)
            have HB9 := Lib.hid (Only.below (((Hb8.out.trans (hb3.mono Hb8.out.size)).alloc (Nat.le_trans Hb8.out.size hb3.size) (.cells #[.slice A3 j c3] 22)).grown hg9 (by have h4 := hb3.size; have h5 := Hb8.out.size; simp <;> omega) (fun q hq => by have := (T2.out.lt q hq).1; omega)) (Only.grown (E := (· = gm)) (set_grown w9 gm 2 (.slice A9 (k + 1) c9)) (fun g hg => (Option.some.inj hg).symm)) (by have h4 := hb3.size; have h5 := hg9.size; have h6 := Hb8.out.size; rw [World.size_alloc] at h5; omega) (fun g hg => by omega))
            clear hown3 hown9 hg9 hat9 hb3 hbx x2 y2
            go_wp2_with fail
            go_roundw
            case rel => exact ⟨_, k + 1, LP, _, _, _, _, rfl, by go_num, HStep, HOv9, HNo9, Lib.hid (by rw [HXO.out]; exact HMB9.out), HB9⟩
            case measure => simp [intOf] <;> omega
    · obtain rfl : k = L.length := by omega
      have hdk : decide (L.length < L.length) = false := decide_eq_false (by omega)
      obtain ⟨hd1, hd2⟩ := HMD.out L HB.out
      have HMf : Hid (MB gm m.ins E1 E2 vN vO (Mac.minI m).next (Mac.minI m).out wr) := Lib.hid (by have := HMB.out; rwa [hd1, hd2] at this)
      obtain ⟨A1, c1, hv1⟩ := slice_of_own Ho.out
      subst hv1
      obtain ⟨k0, k1, k2, k3, k4⟩ := HMf.out.cells
      have hR := (Hb.out.block (w.heap.size + 1) (by omega)).trans HRes2.out
      have o0 := blk_cell hR 0
      have o1 := blk_cell hR 1
      have o2 := blk_cell hR 2
      have b0 := blk_free hR 0
      have b1 := blk_free hR 1
      have b2 := blk_free hR 2
      simp at o0 o1 o2
      have HB9 := Lib.hid (B2.out.trans (Hb.out.mono B2.out.size))
      obtain ⟨An', cn', hvN, -, -⟩ := SSAt.shape (OwnSE.at HMf.out.n)
      obtain ⟨Ao', co', hvO, -, -⟩ := SSAt.shape (OwnSE.at HMf.out.o)
      have HMF2 := Lib.hid (And.intro HMf.out.n (And.intro HMf.out.o HMf.out.d))
      have HlN := Lib.hid HMf.out.l1
      have HlO := Lib.hid HMf.out.l2
      have HinsE := Lib.hid (Mac.min_ins Hv.out)
      have Hsz : Hid (w.heap.size + 1 < gm) := Lib.hid (by omega)
      clear hR HMf HMB hd1 hd2 HMD HMR HSG HSL
      subst hvN hvO
      go_wp2_with fail
      refine bodyPost_ret (v := .agg #[.int .i64 m.ins, .slice An' (Mac.minI m).next.length cn', .slice Ao' (Mac.minI m).out.length co']) (by simp [results, Try.results24, go_sem, o0, o1, o2]) rfl ⟨_, rfl, ⟨_, _, E1, E2, by rw [HinsE.out], fun g he => ?_, fun g he => ?_, HMF2.out.2.2, ?_, ?_⟩, ?_⟩
      · have h1 := HlN.out g he; simp [World.setCell]; omega
      · have h1 := HlO.out g he; simp [World.setCell]; omega
      · exact OwnSE.mono (((OwnSE.set (OwnSE.set (OwnSE.set HMF2.out.1 (by have := Hsz.out; omega)) (by have := Hsz.out; omega)) (by have := Hsz.out; omega)))) (by have := Hsz.out; omega) (fun _ h => h)
      · exact OwnSE.mono (((OwnSE.set (OwnSE.set (OwnSE.set HMF2.out.2.1 (by have := Hsz.out; omega)) (by have := Hsz.out; omega)) (by have := Hsz.out; omega)))) (by have := Hsz.out; omega) (fun _ h => h)
      · exact ((HB9.out.setCell (by simp only; omega) _).setCell (by simp only; omega) _).setCell (by simp only; omega) _
theorem implMinz_any (v : Value) (m : Mz) (w : World) (h : MachAt w v m) :
    Calls Try.prog 24 #[v] w (OwnMachZ (Mac.minI m) w) := by
  cases hv : Mac.valid m
  · have HC := Lib.hid h
    obtain ⟨An, cn, Ao, co, rfl, hcnm, hcom, hcn1, hco1⟩ := h.shape
    have hb0 := bel_new w (.cells #[.int .i64 m.ins, .slice An m.next.length cn, .slice Ao m.out.length co] 43)
    have hb00 := bel_new (w.alloc (.cells #[.int .i64 m.ins, .slice An m.next.length cn, .slice Ao m.out.length co] 43)) (.cells #[.int .i64 0, .slice none 0 0, .slice none 0 0] 43)
    have B0 := Lib.hid (hb0.trans (hb00.mono hb0.size))
    have PC := Lib.hid ((MCells.boxed w m.ins (.slice An m.next.length cn) (.slice Ao m.out.length co) 43).below hb00)
    have hR : ((w.alloc (.cells #[.int .i64 m.ins, .slice An m.next.length cn, .slice Ao m.out.length co] 43)).alloc (.cells #[.int .i64 0, .slice none 0 0, .slice none 0 0] 43)).heap[w.heap.size + 1]? = some (.cells #[.int .i64 0, .slice none 0 0, .slice none 0 0] 43 (0, 0)) := by
      have := heap_alloc_new (w.alloc (.cells #[.int .i64 m.ins, .slice An m.next.length cn, .slice Ao m.out.length co] 43)) (.cells #[.int .i64 0, .slice none 0 0, .slice none 0 0] 43)
      rwa [World.size_alloc] at this
    have HRes := Lib.hid hR
    have hsz : ((w.alloc (.cells #[.int .i64 m.ins, .slice An m.next.length cn, .slice Ao m.out.length co] 43)).alloc (.cells #[.int .i64 0, .slice none 0 0, .slice none 0 0] 43)).heap.size = w.heap.size + 2 := by simp
    obtain ⟨z, p0, p1, p2⟩ := PC.out
    have HC0 := Lib.hid (HC.out.below B0.out)
    have HV := Lib.hid (implMValid_any _ m _ HC0.out)
    rw [hv] at HV
    have HE : Hid (Mac.minI m = ⟨0, [], []⟩) := Lib.hid (by unfold Mac.minI; rw [hv]; rfl)
    rw [HE.out]
    clear hv hb0 hb00 hR h HE
    go_enter Try.func24, Try.ntmps24
    go_wp2_with fail
    generalize (w.alloc (.cells #[.int .i64 m.ins, .slice An m.next.length cn, .slice Ao m.out.length co] 43)).alloc (.cells #[.int .i64 0, .slice none 0 0, .slice none 0 0] 43) = W at *
    refine HV.out.mono ?_
    rintro e w1 ⟨rfl, hb1⟩
    have B1 := Lib.hid (B0.out.trans (hb1.mono B0.out.size))
    have hR := (hb1.block _ (by omega)).trans HRes.out
    have z1 := hb1.size
    have o0 := blk_cell hR 0
    have o1 := blk_cell hR 1
    have o2 := blk_cell hR 2
    have b0 := blk_free hR 0
    have b1 := blk_free hR 1
    have b2 := blk_free hR 2
    simp at o0 o1 o2
    clear hb1 hR p0 p1 p2 z HV
    go_wp2_with fail
    refine bodyPost_ret (v := .agg #[.int .i64 0, .slice none 0 0, .slice none 0 0]) (by simp [results, Try.results24, go_sem, o0, o1, o2]) rfl ⟨_, rfl, ⟨_, _, (fun _ => False), (fun _ => False), rfl, fun g he => he.elim, fun g he => he.elim, fun g he => he.elim, OwnSE.nil _ _ _ _ _ _, OwnSE.nil _ _ _ _ _ _⟩, ?_⟩
    exact ((B1.out.setCell (by simp only; omega) _).setCell (by simp only; omega) _).setCell (by simp only; omega) _
  · exact implMinz_ok v m w h hv
end Go.Proofs.Ytlbfejdbfhgifaa

namespace Go.Proofs.Ytlbfejdbfhgifaa
open Go.RowKit
set_option maxRecDepth 100000
/-! The classes of a machine's states, by the reference. -/
set_option maxHeartbeats 8000000 in
theorem l29Alike_any (vm vc : Value) (m : Mz) (C : List Nat) (a b : Nat) (w : World) (h : MachAt w vm m) (hv : Mac.valid m = true) (hC : NatsAt w vc C) (hl : C.length = m.next.length) (ha : a < m.next.length) (hb : b < m.next.length) :
    Calls Try.prog 107 #[vm, vc, .int .i64 a, .int .i64 b] w fun e w' => e = .returned (.bool (decide (Mac.keyS m.next m.out C a = Mac.keyS m.next m.out C b))) ∧ Below w.heap.size w w' := by
  obtain ⟨s1, s2, s3, s4, s5⟩ := Mac.valid_sizes hv
  obtain ⟨N, hN⟩ := Int.eq_ofNat_of_zero_le s1
  have hN4 : N ≤ 4 := by omega
  obtain ⟨M, eM, hM⟩ : ∃ M : Nat, (2 : Int) ^ N = (M : Int) ∧ M = 2 ^ N := ⟨2 ^ N, two_pow N, rfl⟩
  have hM16 : M ≤ 16 := by rw [hM]; exact Nat.pow_le_pow_right (show 0 < 2 by decide) hN4
  have hM1 : 0 < M := by rw [hM]; exact Nat.pow_pos (by decide)
  have hwM := IntWalk.i64_in (M : Int) (by omega)
  have hMt : 2 ^ m.ins.toNat = M := by rw [hN, hM]; rfl
  have hrow : ∀ s x : Nat, s < m.next.length → x < M → ∃ r q y o, m.next[s]? = some r ∧ m.out[s]? = some q ∧ r.length = M ∧ q.length = M ∧ r[x]? = some ((y : Nat) : Int) ∧ y < m.next.length ∧ q[x]? = some o ∧ 0 ≤ o ∧ o < 8 ∧ Mac.stepN m s x = y ∧ Mac.stepO m s x = o := fun s x hs hx => by
    have := Mac.valid_row hv hs (by rw [hMt]; exact hx)
    rwa [hMt] at this
  obtain ⟨ra, qa, -, -, ea, fa, la, ma, -⟩ := hrow a 0 ha hM1
  obtain ⟨rb, qb, -, -, eb, fb, lb, mb, -⟩ := hrow b 0 hb hM1
  have Hra : Hid (∀ x, x < M → ∃ (y : Nat) (o : Int), ra[x]? = some ((y : Nat) : Int) ∧ y < m.next.length ∧ qa[x]? = some o) := Lib.hid fun x hx => by
    obtain ⟨r, q, y, o, g1, g2, -, -, g5, g6, g7, -⟩ := hrow a x ha hx
    rw [ea] at g1; rw [fa] at g2
    obtain rfl := Option.some.inj g1
    obtain rfl := Option.some.inj g2
    exact ⟨y, o, g5, g6, g7⟩
  have Hrb : Hid (∀ x, x < M → ∃ (y : Nat) (o : Int), rb[x]? = some ((y : Nat) : Int) ∧ y < m.next.length ∧ qb[x]? = some o) := Lib.hid fun x hx => by
    obtain ⟨r, q, y, o, g1, g2, -, -, g5, g6, g7, -⟩ := hrow b x hb hx
    rw [eb] at g1; rw [fb] at g2
    obtain rfl := Option.some.inj g1
    obtain rfl := Option.some.inj g2
    exact ⟨y, o, g5, g6, g7⟩
  obtain ⟨An, cn, Ao, co, rfl, hcnm, hcom, hcn1, hco1⟩ := h.shape
  obtain ⟨Ac, cc, rfl, hcc, hccm⟩ := hC.shape
  unfold maxLen at hcnm hcom hccm
  obtain ⟨un, uo, huv, rn, ro⟩ := h
  simp only [Value.agg.injEq, Array.mk.injEq, List.cons.injEq, and_true, true_and] at huv
  obtain ⟨rfl, rfl⟩ := huv
  obtain ⟨bn, on, Ba, na, hAn, hbn, da, na1, na2, hra⟩ := ss_open rn (Below.refl _ _) ea
  subst hAn
  obtain ⟨bn', on', Bb, nb, hAn, -, db, nb1, nb2, hrb⟩ := ss_open rn (Below.refl _ _) eb
  obtain ⟨rfl, rfl⟩ : bn = bn' ∧ on = on' := by have := Option.some.inj hAn; injection this with h1 h2; exact ⟨h1, h2⟩
  obtain ⟨bo, oo, Bqa, oa, hAo, hbo, dqa, oa1, oa2, hqa⟩ := ss_open ro (Below.refl _ _) fa
  subst hAo
  obtain ⟨bo', oo', Bqb, ob, hAo, -, dqb, ob1, ob2, hqb⟩ := ss_open ro (Below.refl _ _) fb
  obtain ⟨rfl, rfl⟩ : bo = bo' ∧ oo = oo' := by have := Option.some.inj hAo; injection this with h1 h2; exact ⟨h1, h2⟩
  obtain ⟨bc, oc, xa, hAc, hbc, hxa, da2⟩ := nats_cell (nats_row hC) rfl (show a < C.length by omega)
  subst hAc
  obtain ⟨bc', oc', xb, hAc, -, hxb, db2⟩ := nats_cell (nats_row hC) rfl (show b < C.length by omega)
  obtain ⟨rfl, rfl⟩ : bc = bc' ∧ oc = oc' := by have := Option.some.inj hAc; injection this with h1 h2; exact ⟨h1, h2⟩
  have HK : Hid (Mac.keyS m.next m.out C a = Mac.keyS m.next m.out C b ↔ xa = xb ∧ qa = qb ∧ (ra.map fun y => Mac.cg C y.toNat) = rb.map fun y => Mac.cg C y.toNat) := Lib.hid (by
    unfold Mac.keyS
    rw [Prod.mk.injEq, Prod.mk.injEq, cg_get hxa.out, cg_get hxb.out, nrow_get ea, nrow_get eb, key0_get fa, key0_get fb])
  have HCell : Hid (∀ x, x < C.length → ∃ y, Mac.cg C x = y ∧ w.cell? ⟨bc, oc + x, none⟩ = some (.int .i64 (y : Nat))) := Lib.hid fun x hx => by
    obtain ⟨b', o', y, hA, -, hy, hcell⟩ := nats_cell (nats_row hC) rfl hx
    obtain ⟨rfl, rfl⟩ : bc = b' ∧ oc = o' := by have := Option.some.inj hA; injection this with h1 h2; exact ⟨h1, h2⟩
    exact ⟨y, cg_get hy.out, hcell⟩
  have HrowA := Lib.hid hra
  have HrowB := Lib.hid hrb
  have HoutA := Lib.hid hqa
  have HoutB := Lib.hid hqb
  have Hla := Lib.hid la
  have Hlb := Lib.hid lb
  have Hma := Lib.hid ma
  have Hmb := Lib.hid mb
  rw [la] at da na1
  rw [lb] at db nb1
  rw [ma] at dqa oa1
  rw [mb] at dqb ob1
  unfold maxLen at na2 nb2 oa2 ob2
  have hb0 := bel_alloc w (.cells #[.int .i64 m.ins, .slice (some ⟨bn, on, none⟩) m.next.length cn, .slice (some ⟨bo, oo, none⟩) m.out.length co] 43)
  have hmc := MCells.boxed w m.ins (.slice (some ⟨bn, on, none⟩) m.next.length cn) (.slice (some ⟨bo, oo, none⟩) m.out.length co) 43
  rw [hN] at hb0 hmc ⊢
  have B0 := Lib.hid hb0
  have PC := Lib.hid hmc
  have ha2 : a < C.length := by omega
  have hb2 : b < C.length := by omega
  have ha3 : a < m.out.length := by omega
  have hb3 : b < m.out.length := by omega
  have K : ∀ w', Below w.heap.size w w' → w'.cell? ⟨bn, on + a, none⟩ = some (.slice Ba M na) ∧ w'.cell? ⟨bn, on + b, none⟩ = some (.slice Bb M nb) ∧ w'.cell? ⟨bo, oo + a, none⟩ = some (.slice Bqa M oa) ∧ w'.cell? ⟨bo, oo + b, none⟩ = some (.slice Bqb M ob) ∧ w'.cell? ⟨bc, oc + a, none⟩ = some (.int .i64 xa) ∧ w'.cell? ⟨bc, oc + b, none⟩ = some (.int .i64 xb) := fun w' hd =>
    ⟨(hd.cell (p := ⟨bn, on + a, none⟩) hbn).trans da, (hd.cell (p := ⟨bn, on + b, none⟩) hbn).trans db, (hd.cell (p := ⟨bo, oo + a, none⟩) hbo).trans dqa, (hd.cell (p := ⟨bo, oo + b, none⟩) hbo).trans dqb, (hd.cell (p := ⟨bc, oc + a, none⟩) hbc).trans da2, (hd.cell (p := ⟨bc, oc + b, none⟩) hbc).trans db2⟩
  have HKK := Lib.hid K
  obtain ⟨-, -, -, -, k5, k6⟩ := K _ B0.out
  have Hbc := Lib.hid hbc
  clear K hrow hv hC ea eb fa fb hra hrb hqa hqb da db dqa dqb da2 db2 hAn hAo hAc hxa hxb rn ro hb0 hmc hM hMt s1 s2 hN la lb ma mb hbc
  have Hl := Lib.hid hl
  clear hl s5
  by_cases hx : xa = xb
  · have hxx : ((xa : Int) != (xb : Int)) = false := by rw [hx]; simp
    have HK2 : Hid (Mac.keyS m.next m.out C a = Mac.keyS m.next m.out C b ↔ qa = qb ∧ (ra.map fun y => Mac.cg C y.toNat) = rb.map fun y => Mac.cg C y.toNat) := Lib.hid (by rw [HK.out]; exact ⟨fun h => h.2, fun h => ⟨hx, h⟩⟩)
    clear hx HK
    go_enter Try.func107, Try.ntmps107
    go_wp2_with fail
    generalize w.alloc (.cells #[.int .i64 N, .slice (some ⟨bn, on, none⟩) m.next.length cn, .slice (some ⟨bo, oo, none⟩) m.out.length co] 43) = W at *
    go_quiet (fail)
    go_wp2_with fail
    have Hd0 := Lib.hid (Drew.by W nq)
    go_loopw [9] (fun i wr => ∃ (k : Nat), k ≤ M ∧ i = .int .i64 k ∧ Hid (qa.take k = qb.take k) ∧ Hid ((ra.take k).map (fun y => Mac.cg C y.toNat) = (rb.take k).map fun y => Mac.cg C y.toNat) ∧ Drew W wr) (fun i _ => M - (intOf i).toNat)
    case atStart => exact ⟨0, Nat.zero_le _, rfl, Lib.hid rfl, Lib.hid rfl, Hd0.out⟩
    case round =>
      obtain ⟨k, hk, rfl, hqk, htk, hd⟩ := hrel
      have hbw := B0.out.trans (hd.below w.heap.size)
      obtain ⟨k1, k2, k3, k4, -, -⟩ := HKK.out wr hbw
      obtain ⟨z, p0, p1, p2⟩ := PC.out
      replace p0 := (hd.cell _).trans p0
      replace p1 := (hd.cell _).trans p1
      replace p2 := (hd.cell _).trans p2
      have Hd := Lib.hid hd
      have Hbw := Lib.hid hbw
      clear Hd0 k5 k6
      by_cases hlt : k < M
      · obtain ⟨ya, va, hya, hyan, hva⟩ := Hra.out k hlt
        obtain ⟨yb, vb, hyb, hybn, hvb⟩ := Hrb.out k hlt
        obtain ⟨b1, o1, rfl, hb1, hs1⟩ := ints_row HrowA.out rfl hya
        obtain ⟨b2, o2, rfl, hb2', hs2⟩ := ints_row HrowB.out rfl hyb
        obtain ⟨b3, o3, rfl, hb3', hs3⟩ := ints_row HoutA.out rfl hva
        obtain ⟨b4, o4, rfl, hb4, hs4⟩ := ints_row HoutB.out rfl hvb
        obtain ⟨ca, hca, hcella⟩ := HCell.out ya (by have := Hl.out; omega)
        obtain ⟨cb, hcb, hcellb⟩ := HCell.out yb (by have := Hl.out; omega)
        have j1 := (hbw.cell (p := ⟨b1, o1 + k, none⟩) hb1).trans hs1
        have j2 := (hbw.cell (p := ⟨b2, o2 + k, none⟩) hb2').trans hs2
        have j5 := (hbw.cell (p := ⟨b3, o3 + k, none⟩) hb3').trans hs3
        have j6 := (hbw.cell (p := ⟨b4, o4 + k, none⟩) hb4).trans hs4
        have j3 := (hbw.cell (p := ⟨bc, oc + ya, none⟩) Hbc.out).trans hcella
        have j4 := (hbw.cell (p := ⟨bc, oc + yb, none⟩) Hbc.out).trans hcellb
        have Hya := Lib.hid hya
        have Hyb := Lib.hid hyb
        have Hva := Lib.hid hva
        have Hvb := Lib.hid hvb
        have Hca := Lib.hid hca
        have Hcb := Lib.hid hcb
        have hdk : decide (k < M) = true := decide_eq_true hlt
        have hla : ya < C.length := by have := Hl.out; omega
        have hlb : yb < C.length := by have := Hl.out; omega
        clear hya hyb hva hvb hca hcb hs1 hs2 hs3 hs4 hcella hcellb hd hbw
        by_cases hvv : va = vb
        · have hvx : (va != vb) = false := by rw [hvv]; simp
          have Hq2 : Hid (qa.take (k + 1) = qb.take (k + 1)) := Lib.hid (by rw [take_snoc Hva.out, take_snoc Hvb.out, hqk.out, hvv])
          clear hvv
          by_cases hcc2 : ca = cb
          · have hcx : ((ca : Int) != (cb : Int)) = false := by rw [hcc2]; simp
            have Hn : Hid ((ra.take (k + 1)).map (fun y => Mac.cg C y.toNat) = (rb.take (k + 1)).map fun y => Mac.cg C y.toNat) := Lib.hid (by
              rw [take_snoc Hya.out, take_snoc Hyb.out, List.map_append, List.map_append, htk.out, List.map_singleton, List.map_singleton, Int.toNat_natCast, Int.toNat_natCast, Hca.out, Hcb.out, hcc2])
            clear hcc2
            go_wp2_with fail
            go_quiet (fail)
            go_wp2_with fail
            go_roundw
            case rel => exact ⟨k + 1, by omega, by go_num, Hq2, Hn, Hd.out.more _⟩
            case measure => simp [intOf] <;> omega
          · have hcx : ((ca : Int) != (cb : Int)) = true := by simp; omega
            have Hn : Hid (decide (Mac.keyS m.next m.out C a = Mac.keyS m.next m.out C b) = false) := Lib.hid (decide_eq_false (by
              rw [HK2.out]
              rintro ⟨-, e⟩
              have := congrArg (fun l => l[k]?) e
              rw [map_get Hya.out, map_get Hyb.out, Hca.out, Hcb.out] at this
              exact hcc2 (Option.some.inj this)))
            clear hcc2
            go_wp2_with fail
            go_quiet (fail)
            go_wp2_with fail
            go_ret
            exact ⟨by rw [Hn.out]; rfl, Hbw.out.trans ((Drew.by _ _).below _)⟩
        · have hvx : (va != vb) = true := by simpa using hvv
          have Hn : Hid (decide (Mac.keyS m.next m.out C a = Mac.keyS m.next m.out C b) = false) := Lib.hid (decide_eq_false (by
            rw [HK2.out]
            rintro ⟨e, -⟩
            have := congrArg (fun l => l[k]?) e
            rw [Hva.out, Hvb.out] at this
            exact hvv (Option.some.inj this)))
          clear hvv
          go_wp2_with fail
          go_quiet (fail)
          go_wp2_with fail
          go_ret
          exact ⟨by rw [Hn.out]; rfl, Hbw.out.trans ((Drew.by _ _).below _)⟩
      · obtain rfl : k = M := by omega
        have hdk : decide (k < k) = false := decide_eq_false (by omega)
        have Hn : Hid (decide (Mac.keyS m.next m.out C a = Mac.keyS m.next m.out C b) = true) := Lib.hid (decide_eq_true (by
          rw [HK2.out]
          have h1 := htk.out
          have h2 := hqk.out
          rw [List.take_of_length_le (by have := Hla.out; omega), List.take_of_length_le (by have := Hlb.out; omega)] at h1
          rw [List.take_of_length_le (by have := Hma.out; omega), List.take_of_length_le (by have := Hmb.out; omega)] at h2
          exact ⟨h2, h1⟩))
        go_wp2_with fail
        go_ret
        exact ⟨by rw [Hn.out]; rfl, Hbw.out⟩
  · have hxx : ((xa : Int) != (xb : Int)) = true := by simp; omega
    have Hn : Hid (decide (Mac.keyS m.next m.out C a = Mac.keyS m.next m.out C b) = false) := Lib.hid (decide_eq_false (by rw [HK.out]; exact fun h => hx h.1))
    clear hx HK
    go_enter Try.func107, Try.ntmps107
    go_wp2_with fail
    generalize w.alloc (.cells #[.int .i64 N, .slice (some ⟨bn, on, none⟩) m.next.length cn, .slice (some ⟨bo, oo, none⟩) m.out.length co] 43) = W at *
    go_quiet (fail)
    go_wp2_with fail
    go_ret
    exact ⟨by rw [Hn.out]; rfl, B0.out.trans ((Drew.by _ _).below _)⟩
end Go.Proofs.Ytlbfejdbfhgifaa

namespace Go.Proofs.Ytlbfejdbfhgifaa
open Go.RowKit
set_option maxRecDepth 100000
/-! The classes of a machine's states, by the reference: the rounds. -/
namespace Mac
/-- What the inner loop has found above t. -/
def Seek (key : Nat → Nat × List Int × List Nat) (n s T kk : Nat) : Prop :=
  ∃ t0, T ≤ t0 ∧ t0 ≤ s ∧ (t0 = s ∧ kk = s ∨ t0 < s ∧ key s = key t0 ∧ kk = cg (mkK key n) t0) ∧ ∀ t, T ≤ t → t < t0 → key s ≠ key t
theorem Seek.start (key : Nat → Nat × List Int × List Nat) (n s : Nat) : Seek key n s s s := ⟨s, Nat.le_refl _, Nat.le_refl _, .inl ⟨rfl, rfl⟩, fun t h1 h2 => by omega⟩
theorem Seek.no {key : Nat → Nat × List Int × List Nat} {n s t kk : Nat} (h : Seek key n s (t + 1) kk) (hk : key s ≠ key t) : Seek key n s t kk := by
  obtain ⟨t0, h1, h2, h3, h4⟩ := h
  refine ⟨t0, by omega, h2, h3, fun t' h5 h6 => ?_⟩
  by_cases e : t' = t
  · subst e; exact hk
  · exact h4 t' (by omega) h6
theorem Seek.yes {key : Nat → Nat × List Int × List Nat} {n s t kk : Nat} (h : Seek key n s (t + 1) kk) (hk : key s = key t) : Seek key n s t (cg (mkK key n) t) := by
  obtain ⟨t0, h1, h2, -⟩ := h
  exact ⟨t, Nat.le_refl _, by omega, .inr ⟨by omega, hk, rfl⟩, fun t' h5 h6 => by omega⟩
theorem Seek.done {key : Nat → Nat × List Int × List Nat} {n s kk : Nat} (h : Seek key n s 0 kk) (hs : s < n) : kk = cg (mkK key n) s := by
  obtain ⟨t0, -, h2, h3, h4⟩ := h
  obtain ⟨f1, f2, f3⟩ := mkK_facts key hs
  rcases h3 with ⟨rfl, rfl⟩ | ⟨h3, h5, rfl⟩
  · rcases Nat.lt_or_ge (cg (mkK key n) kk) kk with hl | hl
    · exact absurd f2.symm (h4 _ (Nat.zero_le _) hl)
    · omega
  · exact (mkK_iff key (by omega) hs).2 h5.symm
end Mac
set_option maxHeartbeats 8000000 in
theorem l29Classes_any (v : Value) (m : Mz) (w : World) (h : MachAt w v m) (hv : Mac.valid m = true) :
    Calls Try.prog 62 #[v] w (OwnInts (nats (Mac.classS m.next m.out)) w) := by
  have HC := Lib.hid h
  obtain ⟨An, cn, Ao, co, rfl, hcnm, hcom, hcn1, hco1⟩ := h.shape
  unfold maxLen at hcnm hcom
  obtain ⟨s1, s2, s3, s4, s5⟩ := Mac.valid_sizes hv
  have hb0 := bel_new w (.cells #[.int .i64 m.ins, .slice An m.next.length cn, .slice Ao m.out.length co] 43)
  have hmc := MCells.boxed w m.ins (.slice An m.next.length cn) (.slice Ao m.out.length co) 43
  have hmk := run_make_row' (P := Try.prog) 22 3 (.int .i64 0) 8 Try.underlying22 info_int rfl .i64 .i64 m.next.length (by omega) (by omega)
  have hHCb := HC.out.below hb0
  obtain ⟨W0, hW0⟩ : ∃ W0, w.alloc (.cells #[.int .i64 m.ins, .slice An m.next.length cn, .slice Ao m.out.length co] 43) = W0 := ⟨_, rfl⟩
  have hsW : W0.heap.size = w.heap.size + 1 := by rw [← hW0]; simp
  rw [hW0] at hb0 hmc hHCb
  have hbm := bel_new W0 (.cells (madeCells #[Value.int .i64 0] m.next.length) 3)
  have hown0 : Hid ((W0.alloc (.cells (madeCells #[Value.int .i64 0] m.next.length) 3)).ownsRow w.heap.size 3 1 (.slice (some ⟨W0.heap.size, 0, none⟩) m.next.length m.next.length) m.next.length (nints (Mac.seqS m.next m.out 0))) := Lib.hid (by
    have := World.ownsRow_lit (base := w.heap.size) (e := 3) (size := 1) W0 (madeCells #[Value.int .i64 0] m.next.length) m.next.length (by omega) (by unfold maxLen; omega) (by simp [madeCells])
    rw [made_one] at this ⊢
    unfold Mac.seqS
    rw [nints_rep]
    simpa using this)
  have B1 := Lib.hid (hb0.trans (hbm.mono hb0.size))
  have PC0 := Lib.hid hmc
  have PC1 := Lib.hid (hmc.below hbm)
  have HC1 := Lib.hid (hHCb.below hbm)
  have Hv := Lib.hid hv
  have hs1 : (W0.alloc (.cells (madeCells #[Value.int .i64 0] m.next.length) 3)).heap.size = W0.heap.size + 1 := by simp
  obtain ⟨z, p0, p1, p2⟩ := PC0.out
  clear h hv hb0 hmc hHCb hbm s1 s2 s5 HC
  go_enter Try.func62, Try.ntmps62
  go_wp2_with fail
  clear hmk z p0 p1 p2
  rw [hsW] at hown0
  generalize W0.alloc (.cells (madeCells #[Value.int .i64 0] m.next.length) 3) = W1 at *
  have hW1w : w.heap.size < W1.heap.size := by omega
  clear hW0 hsW hs1 PC0
  go_loopw [3, 4] (fun vc i wr => ∃ (vv : Value) (r : Nat), vv = vc ∧ i = .int .i64 r ∧ r ≤ m.next.length + 1 ∧ Hid (wr.ownsRow w.heap.size 3 1 vc m.next.length (nints (Mac.seqS m.next m.out r))) ∧ Hid (Below W1.heap.size W1 wr)) (fun _ i _ => m.next.length + 1 - (intOf i).toNat)
  case atStart => exact ⟨_, 0, rfl, rfl, Nat.zero_le _, hown0, Lib.hid (Below.refl _ _)⟩
  case round =>
    obtain ⟨vv, r, hvv, rfl, hr, Hc, Hb⟩ := hrel
    subst hvv
    clear hown0
    have hzb := Hb.out.size
    have hlr := (Mac.seqS_cl m.next m.out r).len
    have hlr1 := (Mac.seqS_cl m.next m.out (r + 1)).len
    have Hlr := Lib.hid hlr
    have Hlr1 := Lib.hid hlr1
    clear hlr hlr1
    obtain ⟨gC, cC, hvC, hgC, hgC2, hcC, hcCm⟩ := own_open Hc.out (by omega)
    subst hvC
    unfold maxLen at hcCm
    obtain ⟨z, p0, p1, p2⟩ := PC1.out.below Hb.out
    by_cases hlt : r ≤ m.next.length
    · have hdr : decide ((r : Int) ≤ (m.next.length : Int)) = true := decide_eq_true (by omega)
      have hdr2 : decide (r ≤ m.next.length) = true := decide_eq_true hlt
      have hbl := bel_new wr (.cells #[] 3)
      have HX0 : Hid ((wr.alloc (.cells #[] 3)).ownsRow wr.heap.size 3 1 (.slice (some ⟨wr.heap.size, 0, none⟩) 0 0) 0 (nints ((Mac.seqS m.next m.out (r + 1)).take 0))) := Lib.hid (World.ownsRow_lit (base := wr.heap.size) (e := 3) (size := 1) wr #[] 0 (Nat.le_refl _) (by unfold maxLen; omega) rfl)
      have Hbl := Lib.hid hbl
      clear hbl
      go_wp2_with fail
      obtain ⟨Wk, hWk⟩ : ∃ Wk, Wk = wr := ⟨_, rfl⟩
      subst hWk
      clear p0 p1 p2 z
      go_loopw [5, 6] (fun vx i wi => ∃ (vv : Value) (s : Nat), vv = vx ∧ i = .int .i64 s ∧ s ≤ m.next.length ∧ Hid (wi.ownsRow Wk.heap.size 3 1 vx s (nints ((Mac.seqS m.next m.out (r + 1)).take s))) ∧ Hid (Below Wk.heap.size Wk wi)) (fun _ i _ => m.next.length - (intOf i).toNat)
      case atStart => exact ⟨_, 0, rfl, rfl, Nat.zero_le _, HX0, Hbl⟩
      case round =>
        obtain ⟨vx, s, hvx, rfl, hs, Hx, Hbi⟩ := hrel
        subst hvx
        clear HX0 Hbl
        have hzi := Hbi.out.size
        by_cases hls : s < m.next.length
        · have hds : decide (s < m.next.length) = true := decide_eq_true hls
          have hws := IntWalk.i64_in ((s : Int) - 1) (by omega)
          have HK0 := Lib.hid (Mac.Seek.start (Mac.keyS m.next m.out (Mac.seqS m.next m.out r)) m.next.length s)
          go_wp2_with fail
          obtain ⟨Wi, hWi⟩ : ∃ Wi, Wi = wr := ⟨_, rfl⟩
          subst hWi
          go_loopw [7, 8] (fun vk vt wj => ∃ (kk T : Nat), vk = .int .i64 kk ∧ vt = .int .i64 ((T : Int) - 1) ∧ T ≤ s ∧ kk ≤ 8 ∧ Hid (Mac.Seek (Mac.keyS m.next m.out (Mac.seqS m.next m.out r)) m.next.length s T kk) ∧ Hid (Below Wi.heap.size Wi wj)) (fun _ vt _ => (intOf vt + 1).toNat)
          case atStart => exact ⟨s, s, rfl, rfl, Nat.le_refl _, by omega, HK0, Lib.hid (Below.refl _ _)⟩
          case round =>
            obtain ⟨kk, T, rfl, rfl, hT, hk8, HS, Hbj⟩ := hrel
            clear HK0
            have hzj := Hbj.out.size
            have Hbjk := Lib.hid (Hbi.out.trans (Hbj.out.mono hzi))
            have Hxj := Lib.hid (own_below Hx.out Hbj.out)
            rcases T with _ | t
            · have e0 : (((0 : Nat) : Int) - 1) = -1 := by omega
              rw [e0]
              have hkk := HS.out.done hls
              have HKK : Hid (nints ((Mac.seqS m.next m.out (r + 1)).take (s + 1)) = nints ((Mac.seqS m.next m.out (r + 1)).take s) ++ [.int .i64 (kk : Int)]) := Lib.hid (by
                have h1 : (Mac.seqS m.next m.out (r + 1))[s]? = some kk := by
                  rw [hkk]
                  unfold Mac.cg
                  have hl := Hlr1.out
                  rw [List.getD_eq_getElem?_getD]
                  show (Mac.mkK _ _)[s]? = _
                  rw [Mac.mkK_get _ hls]
                  rfl
                rw [take_snoc h1, nints_snoc])
              have Hlit := Lib.hid (Row.of_own (World.ownsRow_lit (base := wr.heap.size) (e := 3) (size := 1) wr #[.int .i64 kk] 1 (Nat.le_refl _) (by unfold maxLen; omega) rfl))
              clear hkk
              go_wp2_with (at_builtin; refine append_ints rfl (.tmp 43) (.tmp 45) rfl Wk.heap.size _ s _ rfl (Hxj.out.alloc _) _ 1 [.int .i64 kk] rfl Hlit.out (by simp [Value.oneCell']) (by omega) (by simp <;> omega) ?_; intro v7 w7 hown7 hg7 hat7; have Hx7 := Lib.hid hown7; have Hb7 := Lib.hid ((Hbjk.out.alloc (by omega) (.cells #[.int .i64 kk] 3)).grown hg7 (by simp <;> omega) (own_ge0 Hxj.out)); clear hown7 hg7 hat7)
              go_roundw
              case rel => exact ⟨_, s + 1, rfl, by go_num, by omega, Lib.hid (by rw [HKK.out]; exact Hx7.out), Hb7⟩
              case measure => simp [intOf] <;> omega
            · have e0 : (((t + 1 : Nat) : Int) - 1) = (t : Int) := by omega
              rw [e0]
              have hts : t < m.next.length := by omega
              have hwt := IntWalk.i64_in ((t : Int) - 1) (by omega)
              have hMj := HC1.out.below (Hb.out.trans (Hbjk.out.mono hzb))
              have hCj := own_below Hc.out Hbjk.out
              have hA := l29Alike_any _ (.slice (some ⟨gC, 0, none⟩) m.next.length cC) m (Mac.seqS m.next m.out r) s t wr hMj Hv.out (nats_own hCj Hlr.out) Hlr.out hls hts
              obtain ⟨z, p0, p1, p2⟩ := PC1.out.below (Hb.out.trans (Hbjk.out.mono hzb))
              have htz : (0 : Int) ≤ t := by omega
              by_cases hkey : Mac.keyS m.next m.out (Mac.seqS m.next m.out r) s = Mac.keyS m.next m.out (Mac.seqS m.next m.out r) t
              · rw [decide_eq_true hkey] at hA
                have HA := Lib.hid hA
                have HN := Lib.hid (HS.out.yes hkey)
                obtain ⟨c1, hc1⟩ : ∃ c1, Mac.cg (Mac.mkK (Mac.keyS m.next m.out (Mac.seqS m.next m.out r)) m.next.length) t = c1 := ⟨_, rfl⟩
                have hc8 : c1 ≤ t := by rw [← hc1]; exact (Mac.mkK_facts _ hts).1
                rw [hc1] at HN
                have HCt : Hid ((nints ((Mac.seqS m.next m.out (r + 1)).take s))[t]? = some (.int .i64 (c1 : Int))) := Lib.hid (by
                  unfold nints ints nats
                  rw [List.getElem?_map, List.getElem?_map, List.getElem?_take, if_pos (show t < s by omega)]
                  show Option.map _ (Option.map _ ((Mac.mkK _ _)[t]?)) = _
                  rw [Mac.mkK_get _ hts, ← hc1, Mac.mkK_cg _ hts]
                  rfl)
                obtain ⟨gx, cx, hvx, hgx, hgx2, hcx, hcxm⟩ := own_open Hxj.out (by omega)
                subst hvx
                unfold maxLen at hcxm
                have hts2 : decide (t < s) = true := decide_eq_true (by omega)
                clear hA hkey hMj hCj hc1
                go_wp2_with fail
                refine HA.out.mono ?_
                rintro e w' ⟨rfl, hb'⟩
                have Hbj2 := Lib.hid (Hbj.out.trans (hb'.mono hzj))
                obtain ⟨u0, hu0, hcell, -⟩ := own_slot (own_below Hxj.out hb') (j := t) (by omega)
                rw [HCt.out] at hu0
                obtain rfl := Option.some.inj hu0
                clear hb' hu0 p0 p1 p2 z
                go_wp2_with fail
                go_roundw
                case rel => exact ⟨c1, t, rfl, rfl, by omega, by omega, HN, Hbj2⟩
                case measure => simp [intOf] <;> omega
              · rw [decide_eq_false hkey] at hA
                have HA := Lib.hid hA
                have HN := Lib.hid (HS.out.no hkey)
                clear hA hkey hMj hCj
                go_wp2_with fail
                refine HA.out.mono ?_
                rintro e w' ⟨rfl, hb'⟩
                have Hbj2 := Lib.hid (Hbj.out.trans (hb'.mono hzj))
                clear hb' p0 p1 p2 z
                go_wp2_with fail
                go_roundw
                case rel => exact ⟨kk, t, rfl, rfl, by omega, by omega, HN, Hbj2⟩
                case measure => simp [intOf] <;> omega
        · obtain rfl : s = m.next.length := by omega
          have hds : decide (m.next.length < m.next.length) = false := decide_eq_false (by omega)
          have HX1 : Hid (wr.ownsRow w.heap.size 3 1 vx m.next.length (nints (Mac.seqS m.next m.out (r + 1)))) := Lib.hid (own_mono (by
            have := Hx.out
            rwa [List.take_of_length_le (by have := Hlr1.out; omega)] at this) (by omega))
          have Hb2 := Lib.hid (Hb.out.trans (Hbi.out.mono hzb))
          go_wp2_with fail
          go_roundw
          case rel => exact ⟨_, r + 1, rfl, by go_num, by omega, HX1, Hb2⟩
          case measure => simp [intOf] <;> omega
    · obtain rfl : r = m.next.length + 1 := by omega
      have hdr : decide (((m.next.length + 1 : Nat) : Int) ≤ (m.next.length : Int)) = false := decide_eq_false (by omega)
      have hdr2 : decide (m.next.length + 1 ≤ m.next.length) = false := decide_eq_false (by omega)
      have HF : Hid (wr.ownsRow w.heap.size 3 1 (.slice (some ⟨gC, 0, none⟩) m.next.length cC) (nats (Mac.classS m.next m.out)).length (ints (nats (Mac.classS m.next m.out)))) := Lib.hid (by
        rw [nats_length]
        unfold Mac.classS
        rw [Hlr.out]
        exact Hc.out)
      go_wp2_with fail
      go_ret
      exact ⟨_, rfl, HF.out, B1.out.trans (Hb.out.mono (by omega))⟩
end Go.Proofs.Ytlbfejdbfhgifaa

namespace Go.Proofs.Ytlbfejdbfhgifaa
open Go.RowKit
set_option maxRecDepth 100000
/-! Minimize, by the reference. -/
namespace Mac
theorem min_rowD {m : Mz} (hv : valid m = true) {L : List Nat} (h : Bfs m.next (classI m.next m.out) L.length L) {k s : Nat} (hs : L[k]? = some s) :
    (minI m).next.take (k + 1) = (minI m).next.take k ++ [nats ((succL m.next (classI m.next m.out) s).map (idxG L))] ∧ (∃ q, m.out[s]? = some q ∧ q.length = 2 ^ m.ins.toNat ∧ (minI m).out.take (k + 1) = (minI m).out.take k ++ [q]) ∧ ∀ c ∈ succL m.next (classI m.next m.out) s, c ∈ L := by
  have hsm := List.mem_of_getElem? hs
  have hsl := h.lt s hsm
  have hsz := valid_sizes hv
  obtain ⟨r, q, y, o, -, h2, -, h4, -⟩ := valid_row hv hsl (show 0 < 2 ^ m.ins.toNat from Nat.pow_pos (by decide))
  refine ⟨take_snoc ?_, ⟨q, h2, h4, take_snoc ?_⟩, fun c hc => ?_⟩
  · rw [minI_next hv, List.getElem?_map, h.done, hs, Option.map_some]
    unfold nats
    rw [List.map_map]
    rfl
  · rw [minI_out hv, List.getElem?_map, h.done, hs, Option.map_some, key0_get h2]
  · have := ord_closed (rows_of m hv) (show 0 < m.next.length by omega) (show m.next.length ≤ 8 by omega) s (by rw [h.done]; exact hsm) c hc
    rwa [h.done] at this
end Mac
set_option maxHeartbeats 16000000 in
theorem specMinz_ok (v : Value) (m : Mz) (w : World) (h : MachAt w v m) (hv : Mac.valid m = true) :
    Calls Try.prog 22 #[v] w (OwnMachZ (Mac.minI m) w) := by
  have HC := Lib.hid h
  obtain ⟨An, cn, Ao, co, rfl, hcnm, hcom, hcn1, hco1⟩ := h.shape
  unfold maxLen at hcnm hcom
  obtain ⟨s1, s2, s3, s4, s5⟩ := Mac.valid_sizes hv
  obtain ⟨N, hN⟩ := Int.eq_ofNat_of_zero_le s1
  have hN4 : N ≤ 4 := by omega
  obtain ⟨M, eM, hM0⟩ : ∃ M : Nat, (2 : Int) ^ N = (M : Int) ∧ M = 2 ^ N := ⟨2 ^ N, two_pow N, rfl⟩
  have hp4 : M ≤ 16 := by rw [hM0]; exact Nat.pow_le_pow_right (show 0 < 2 by decide) hN4
  have hp1 : 0 < M := by rw [hM0]; exact Nat.pow_pos (by decide)
  have hwM := IntWalk.i64_in (M : Int) (by omega)
  have hM : 2 ^ m.ins.toNat = M := by rw [hN, hM0]; rfl
  have hb0 := bel_new w (.cells #[.int .i64 m.ins, .slice An m.next.length cn, .slice Ao m.out.length co] 43)
  have hb00 := bel_new (w.alloc (.cells #[.int .i64 m.ins, .slice An m.next.length cn, .slice Ao m.out.length co] 43)) (.cells #[.int .i64 0, .slice none 0 0, .slice none 0 0] 43)
  have hb000 := hb0.trans (hb00.mono hb0.size)
  have hpc := (MCells.boxed w m.ins (.slice An m.next.length cn) (.slice Ao m.out.length co) 43).below hb00
  have hsz : ((w.alloc (.cells #[.int .i64 m.ins, .slice An m.next.length cn, .slice Ao m.out.length co] 43)).alloc (.cells #[.int .i64 0, .slice none 0 0, .slice none 0 0] 43)).heap.size = w.heap.size + 2 := by simp
  have hR : ((w.alloc (.cells #[.int .i64 m.ins, .slice An m.next.length cn, .slice Ao m.out.length co] 43)).alloc (.cells #[.int .i64 0, .slice none 0 0, .slice none 0 0] 43)).heap[w.heap.size + 1]? = some (.cells #[.int .i64 0, .slice none 0 0, .slice none 0 0] 43 (0, 0)) := by
    have := heap_alloc_new (w.alloc (.cells #[.int .i64 m.ins, .slice An m.next.length cn, .slice Ao m.out.length co] 43)) (.cells #[.int .i64 0, .slice none 0 0, .slice none 0 0] 43)
    rwa [World.size_alloc] at this
  have hHC0 := HC.out.below hb000
  have hV := specMValid_any _ m _ hHC0
  have hL := fun w' hm => l29Classes_any (.agg #[.int .i64 m.ins, .slice An m.next.length cn, .slice Ao m.out.length co]) m w' hm hv
  rw [hv] at hV
  have HRes := Lib.hid hR
  have B0 := Lib.hid hb000
  have HSG := Lib.hid (fun s j hs hj => Mac.succ_get hv (s := s) (j := j) hs hj)
  have HSL := Lib.hid (fun s hs => Mac.succ_lt hv (s := s) hs)
  have HMR := Lib.hid (fun L k s h hs => Mac.min_row hv (L := L) (k := k) (s := s) h hs)
  have HMD := Lib.hid (fun L h => Mac.min_done hv (L := L) h)
  have HMW := Lib.hid (fun L k s h hs => Mac.min_rowD hv (L := L) (k := k) (s := s) h hs)
  have HClen := Lib.hid (show (Mac.classI m.next m.out).length = m.next.length from (Mac.seqI_cl m.next m.out (m.next.length + 1)).len)
  obtain ⟨C, hC⟩ : ∃ C, Mac.classI m.next m.out = C := ⟨_, rfl⟩
  have hCS : Mac.classS m.next m.out = C := by rw [Mac.class_same (Mac.rows_of m hv), hC]
  rw [hM] at HSG HSL HMR HMW
  rw [hC] at HSG HSL HMR HMD HClen HMW
  simp only [hCS] at hL
  rw [hN] at hsz HRes hpc hV hL B0 hHC0 ⊢
  have HC0 := Lib.hid hHC0
  have HV := Lib.hid hV
  have HLc := Lib.hid hL
  have PC := Lib.hid hpc
  have S5 := Lib.hid s5
  have HinsE : Hid ((Mac.minI m).ins = (N : Int)) := Lib.hid (by rw [Mac.min_ins hv, hN])
  obtain ⟨z, p0, p1, p2⟩ := PC.out
  clear hM hC hM0 hL hV hv hb0 hb00 hb000 hR s1 s2 s5 h hN hpc hHC0 hCS HC
  go_enter Try.func22, Try.ntmps22
  go_wp2_with fail
  generalize (w.alloc (.cells #[.int .i64 N, .slice An m.next.length cn, .slice Ao m.out.length co] 43)).alloc (.cells #[.int .i64 0, .slice none 0 0, .slice none 0 0] 43) = W at *
  refine HV.out.mono ?_
  rintro e w1 ⟨rfl, hb1⟩
  have B1 := Lib.hid (B0.out.trans (hb1.mono B0.out.size))
  have HC1 := Lib.hid (HC0.out.below hb1)
  have HRes1 := Lib.hid ((hb1.block _ (by omega)).trans HRes.out)
  have PC1 := Lib.hid (PC.out.below hb1)
  have z1 := hb1.size
  clear hb1 p0 p1 p2 z HV HC0 HRes PC
  obtain ⟨z, p0, p1, p2⟩ := PC1.out
  have HK := Lib.hid (HLc.out w1 HC1.out)
  clear HLc
  go_wp2_with fail
  refine HK.out.mono ?_
  rintro e w2 ⟨vC, rfl, hO2, hb2⟩
  have B2 := Lib.hid (B1.out.trans (hb2.mono B1.out.size))
  have HC2 := Lib.hid (HC1.out.below hb2)
  have HRes2 := Lib.hid ((hb2.block _ (by omega)).trans HRes1.out)
  have PC2 := Lib.hid (PC1.out.below hb2)
  have z2 := hb2.size
  rw [nats_length, HClen.out] at hO2
  obtain ⟨gC, cC, hvC, hgC, hgC2, hcC, hcCm⟩ := own_open hO2 (by omega)
  subst hvC
  unfold maxLen at hcCm
  have HCC : Hid (∀ y c, C[y]? = some c → w2.cell? ⟨gC, y, none⟩ = some (.int .i64 (c : Nat))) := Lib.hid fun y c hy => by
    have hyl := (List.getElem?_eq_some_iff.1 hy).1
    obtain ⟨u, hu, hcell, -⟩ := own_slot hO2 (j := y) (by have := HClen.out; omega)
    unfold ints nats at hu
    rw [List.getElem?_map, List.getElem?_map, hy] at hu
    rw [hcell, ← hu]
    rfl
  clear hb2 p0 p1 p2 z HC1 HRes1 PC1 HK hO2
  have hbl := bel_new w2 (.cells #[.int .i64 0] 3)
  have hsl : (w2.alloc (.cells #[.int .i64 0] 3)).heap.size = w2.heap.size + 1 := by simp
  have HOr : Hid ((w2.alloc (.cells #[.int .i64 0] 3)).ownsRow w2.heap.size 3 1 (.slice (some ⟨w2.heap.size, 0, none⟩) 1 1) [0].length (nints [0])) := Lib.hid (World.ownsRow_lit (base := w2.heap.size) (e := 3) (size := 1) w2 #[.int .i64 0] 1 (Nat.le_refl _) (by unfold maxLen; omega) rfl)
  have HBf := Lib.hid hbl
  have HBs := Lib.hid (Mac.Bfs.start (next := m.next) (C := C) (by omega))
  clear hbl
  go_wp2_with fail
  generalize w2.alloc (.cells #[.int .i64 0] 3) = w3 at *
  clear hsl
  go_loopw [4, 5] (fun vo i wr => ∃ (vv : Value) (k : Nat) (L : List Nat), vv = vo ∧ i = .int .i64 k ∧ Hid (Mac.Bfs m.next C k L) ∧ Hid (wr.ownsRow w2.heap.size 3 1 vo L.length (nints L)) ∧ Hid (Below w2.heap.size w2 wr)) (fun _ i _ => 9 - (intOf i).toNat)
  case atStart => exact ⟨_, 0, [0], rfl, rfl, HBs, HOr, HBf⟩
  case round =>
    obtain ⟨vv, k, L, hvv, rfl, HB, Ho, Hb⟩ := hrel
    subst hvv
    clear HOr HBf HBs
    have hzb := Hb.out.size
    have hL8 := HB.out.len
    have hkL := HB.out.kl
    obtain ⟨A1, c1, hv1⟩ := slice_of_own Ho.out
    subst hv1
    by_cases hlt : k < L.length
    · have hdk : decide (k < L.length) = true := decide_eq_true hlt
      obtain ⟨s, hs⟩ := at_some hlt
      have hsN := HB.out.lt s (List.mem_of_getElem? hs)
      obtain ⟨rr, -, -, er, lr, -⟩ := HSG.out s 0 hsN hp1
      obtain ⟨un, uo, huv, rn, ro⟩ := HC2.out
      simp only [Value.agg.injEq, Array.mk.injEq, List.cons.injEq, and_true] at huv
      obtain ⟨-, rfl, rfl⟩ := huv
      obtain ⟨bn, on, Bn, mn, hAn, hbn, hcn0, hn1, hn2, hrn⟩ := ss_open rn (Below.refl _ _) er
      rw [lr] at hcn0 hn1
      unfold maxLen at hn2
      subst hAn
      obtain ⟨hSl, hSc⟩ := HSL.out s hsN
      have HSG2 : Hid (∀ j, j < M → ∃ y c : Nat, rr[j]? = some ((y : Nat) : Int) ∧ y < m.next.length ∧ C[y]? = some c ∧ (Mac.succL m.next C s)[j]? = some c ∧ c < m.next.length) := Lib.hid fun j hj => by
        obtain ⟨r', y, c, g1, g2, g3, g4, g5, g6, g7⟩ := HSG.out s j hsN hj
        rw [er] at g1
        obtain rfl := Option.some.inj g1
        exact ⟨y, c, g3, g4, g5, g6, g7⟩
      have HLe : Hid (∀ j, (Mac.pushesG L ((Mac.succL m.next C s).take j)).length ≤ m.next.length) := Lib.hid fun j => Mac.nodup_lt _ _ (Mac.pushesG_nodup _ HB.out.nd) (fun x hx => ((Mac.mem_pushesG _ _).1 hx).elim (HB.out.lt x) (fun h => hSc x (List.mem_of_mem_take h)))
      have HStep := Lib.hid (HB.out.step s4 hs hSc)
      have HRn := Lib.hid hrn
      have Hlr := Lib.hid lr
      have Hs := Lib.hid hs
      have HCn := Lib.hid hcn0
      obtain ⟨S, hS⟩ : ∃ S, Mac.succL m.next C s = S := ⟨_, rfl⟩
      rw [hS] at HSG2 HLe HStep hSl
      have HSl := Lib.hid hSl
      have hmn : decide (s < m.next.length) = true := decide_eq_true hsN
      have HPre : Hid (∀ j, (nints (Mac.pushesG L (S.take j)))[k]? = some (.int .i64 (s : Nat)) ∧ k < (Mac.pushesG L (S.take j)).length) := Lib.hid fun j => by
        obtain ⟨mm, hmm⟩ := Mac.pushesG_prefix (S.take j) L
        refine ⟨?_, by rw [hmm, List.length_append]; omega⟩
        unfold nints ints nats
        rw [List.getElem?_map, List.getElem?_map, hmm, List.getElem?_append_left (by omega), Hs.out]
        rfl
      have HoK : Hid (wr.ownsRow w2.heap.size 3 1 (.slice A1 L.length c1) (Mac.pushesG L (S.take 0)).length (nints (Mac.pushesG L (S.take 0)))) := Lib.hid Ho.out
      clear rn ro er lr hrn hSl hSc hs hS hcn0
      go_wp2_with fail
      clear Ho
      obtain ⟨Wr, hWr⟩ : ∃ Wr, Wr = wr := ⟨_, rfl⟩
      subst hWr
      go_loopw [4, 6] (fun vo i wi => ∃ (v1 : Value) (j : Nat), v1 = vo ∧ i = .int .i64 j ∧ j ≤ M ∧ Hid (wi.ownsRow w2.heap.size 3 1 vo (Mac.pushesG L (S.take j)).length (nints (Mac.pushesG L (S.take j)))) ∧ Hid (Below w2.heap.size w2 wi)) (fun _ i _ => M - (intOf i).toNat)
      case atStart => exact ⟨_, 0, rfl, rfl, Nat.zero_le _, HoK, Hb⟩
      case round =>
        obtain ⟨v1, j, h1, rfl, hj, Hov, HbI⟩ := hrel
        subst h1
        clear HoK Hb
        have hzi := HbI.out.size
        obtain ⟨z, p0, p1, p2⟩ := PC2.out.below HbI.out
        by_cases hlj : j < M
        · have hdj : decide (j < M) = true := decide_eq_true hlj
          obtain ⟨y, c, hy, hyN, hCy, hSj, hcN⟩ := HSG2.out j hlj
          obtain ⟨b1, o1, rfl, hb1, hcy0⟩ := ints_row HRn.out rfl hy
          have hcy := (HbI.out.cell (p := ⟨b1, o1 + j, none⟩) hb1).trans hcy0
          have hcC := (HbI.out.cell (p := ⟨gC, y, none⟩) hgC2).trans (HCC.out y c hCy)
          have hcn := (HbI.out.cell (p := ⟨bn, on + s, none⟩) hbn).trans HCn.out
          have hyd : decide (y < m.next.length) = true := decide_eq_true hyN
          obtain ⟨hpk, hpl⟩ := HPre.out j
          obtain ⟨gP, cP, hvP, hgP, hgP2, hcP, hcPm⟩ := own_open Hov.out (by omega)
          subst hvP
          unfold maxLen at hcPm
          obtain ⟨u0, hu0, hcellP, -⟩ := own_slot Hov.out (j := k) (by omega)
          rw [hpk] at hu0
          obtain rfl := Option.some.inj hu0
          have hdp : decide (k < (Mac.pushesG L (S.take j)).length) = true := decide_eq_true hpl
          have hLS : Mac.pushesG L (S.take (j + 1)) = Mac.pushG (Mac.pushesG L (S.take j)) c := by rw [take_snoc hSj, Mac.pushesG_snoc]
          have hLl := HLe.out j
          have hLl1 := HLe.out (j + 1)
          have HIx := Lib.hid (fun w' (hn : NatsAt w' (.slice (some ⟨gP, 0, none⟩) (Mac.pushesG L (S.take j)).length cP) (Mac.pushesG L (S.take j))) => l29At_any _ (Mac.pushesG L (S.take j)) c w' hn (by omega))
          have HidG : Hid (idxOf (Mac.pushesG L (S.take j)) c = if c ∈ Mac.pushesG L (S.take j) then ((Mac.idxG (Mac.pushesG L (S.take j)) c : Nat) : Int) else -1) := Lib.hid Mac.idxOf_G
          have HLS := Lib.hid hLS
          have HNat := Lib.hid (own_nats Hov.out)
          obtain ⟨LJ, hLJ⟩ : ∃ LJ, Mac.pushesG L (S.take j) = LJ := ⟨_, rfl⟩
          rw [hLJ] at HIx HidG HLS Hov HNat hpk hpl hdp hcP hLl ⊢
          have HLJ := Lib.hid hLJ
          clear hy hCy hSj hcy0 hu0 hpk hLS hLJ
          go_wp2_with fail
          go_quiet (fail)
          go_wp2_with fail
          have HD := Lib.hid (Drew.by wr nq)
          generalize wr.drewN nq = Wd at *
          have Hov2 := Lib.hid (own_below Hov.out (HD.out.below wr.heap.size))
          have HbD := Lib.hid (HbI.out.trans (HD.out.below w2.heap.size))
          have HId := Lib.hid (HIx.out Wd (HNat.out.below (HD.out.below wr.heap.size)))
          have hzd := HbD.out.size
          by_cases hmem : c ∈ LJ
          · have hidx : idxOf LJ c = ((Mac.idxG LJ c : Nat) : Int) := by rw [HidG.out, if_pos hmem]
            have hlse : Mac.pushesG L (S.take (j + 1)) = LJ := by rw [HLS.out]; unfold Mac.pushG; rw [if_pos hmem]
            obtain ⟨q, hq⟩ : ∃ q, Mac.idxG LJ c = q := ⟨_, rfl⟩
            rw [hq] at hidx
            rw [hidx] at HId
            have HLSe := Lib.hid hlse
            have hq0 : decide ((q : Int) < 0) = false := decide_eq_false (by omega)
            clear hmem hq hlse hidx HidG
            refine HId.out.mono ?_
            rintro e w' ⟨rfl, rfl⟩
            go_wp2_with fail
            go_roundw
            case rel => exact ⟨_, j + 1, rfl, by go_num, by omega, Lib.hid (by rw [HLSe.out]; exact Hov2.out), HbD⟩
            case measure => simp [intOf] <;> omega
          · have hidx : idxOf LJ c = -1 := by rw [HidG.out, if_neg hmem]
            have hlse : Mac.pushesG L (S.take (j + 1)) = LJ ++ [c] := by rw [HLS.out]; unfold Mac.pushG; rw [if_neg hmem]
            rw [hidx] at HId
            have HLl : Hid ((Mac.pushesG L (S.take (j + 1))).length = LJ.length + 1) := Lib.hid (by rw [hlse, List.length_append]; rfl)
            have HLn : Hid (nints (Mac.pushesG L (S.take (j + 1))) = nints LJ ++ [.int .i64 (c : Int)]) := Lib.hid (by rw [hlse, nints_snoc])
            have Hlit := Lib.hid (Row.of_own (World.ownsRow_lit (base := Wd.heap.size) (e := 3) (size := 1) Wd #[.int .i64 c] 1 (Nat.le_refl _) (by unfold maxLen; omega) rfl))
            clear hmem hlse hidx HidG
            refine HId.out.mono ?_
            rintro e w' ⟨rfl, rfl⟩
            go_wp2_with (at_builtin; refine append_ints rfl (.tmp 50) (.tmp 52) rfl w2.heap.size _ LJ.length _ rfl (Hov2.out.alloc _) _ 1 [.int .i64 c] rfl Hlit.out (by simp [Value.oneCell']) (by omega) (by simp <;> omega) ?_; intro v7 w7 hown7 hg7 hat7; have Ho7 := Lib.hid hown7; have Hb7 := Lib.hid ((HbD.out.alloc hzd (.cells #[.int .i64 c] 3)).grown hg7 (by simp <;> omega) (own_ge0 Hov2.out)); clear hown7 hg7 hat7)
            go_roundw
            case rel => exact ⟨_, j + 1, rfl, by go_num, by omega, Lib.hid (by rw [HLl.out, HLn.out]; exact Ho7.out), Hb7⟩
            case measure => simp [intOf] <;> omega
        · obtain rfl : j = M := by omega
          have hdj : decide (j < j) = false := decide_eq_false (by omega)
          have HoF : Hid (wr.ownsRow w2.heap.size 3 1 v1 (Mac.pushesG L S).length (nints (Mac.pushesG L S))) := Lib.hid (by
            have := Hov.out
            rwa [List.take_of_length_le (by have := HSl.out; omega)] at this)
          go_wp2_with fail
          go_roundw
          case rel => exact ⟨_, k + 1, _, rfl, by go_num, HStep, HoF, HbI⟩
          case measure => simp [intOf] <;> omega
    · obtain rfl : k = L.length := by omega
      have hdk : decide (L.length < L.length) = false := decide_eq_false (by omega)
      have HNL := Lib.hid (own_nats Ho.out)
      have Lpos : 0 < L.length := by
        rcases Nat.eq_zero_or_pos L.length with h0 | h0
        · have := HB.out.done
          have h1 := List.eq_nil_of_length_eq_zero h0
          have h2 : 0 < (Mac.ordL m.next C).length := by
            obtain ⟨mm, hmm⟩ := Mac.bfsG_prefix (Mac.succL m.next C) 9 0 [0]
            unfold Mac.ordL
            rw [hmm]; simp
          rw [this, h1] at h2
          simp at h2
        · exact h0
      obtain ⟨gP, cP, hvP, hgP, hgP2, hcP, hcPm⟩ := own_open Ho.out Lpos
      injection hvP with hvP1 _ hvP2
      subst hvP1 hvP2
      unfold maxLen at hcPm
      have HPk : Hid (∀ k s, L[k]? = some s → wr.cell? ⟨gP, k, none⟩ = some (.int .i64 (s : Nat))) := Lib.hid fun k s hs => by
        obtain ⟨u, hu, hcell, -⟩ := own_slot Ho.out (j := k) (by have := (List.getElem?_eq_some_iff.1 hs).1; omega)
        unfold nints ints nats at hu
        rw [List.getElem?_map, List.getElem?_map, hs] at hu
        rw [hcell, ← hu]
        rfl
      obtain ⟨z, p0, p1, p2⟩ := PC2.out.below Hb.out
      have hbm := bel_new wr (.cells #[.int .i64 N, .slice none 0 0, .slice none 0 0] 43)
      have HMB0 := Lib.hid (MB.start (ins := (N : Int)) (w := wr) trivial)
      have HBm := Lib.hid hbm
      clear hbm Ho
      go_wp2_with fail
      clear z p0 p1 p2
      obtain ⟨W4, hW4⟩ : ∃ W4, W4 = wr := ⟨_, rfl⟩
      subst hW4
      generalize W4.alloc (.cells #[.int .i64 N, .slice none 0 0, .slice none 0 0] 43) = w5 at *
      obtain ⟨gm, hgm⟩ : ∃ gm, W4.heap.size = gm := ⟨_, rfl⟩
      rw [hgm] at HMB0 hgP2 hzb ⊢
      have Hgm := Lib.hid hgm
      clear hgm
      go_loopw [9] (fun i wr => ∃ (k : Nat) (E1 E2 : Nat → Prop) (vN vO : Value), i = .int .i64 k ∧ k ≤ L.length ∧ Hid (MB gm N E1 E2 vN vO ((Mac.minI m).next.take k) ((Mac.minI m).out.take k) wr) ∧ Hid (Below gm W4 wr)) (fun i _ => L.length - (intOf i).toNat)
      case atStart => exact ⟨0, _, _, _, _, rfl, Nat.zero_le _, HMB0, Lib.hid (by rw [← Hgm.out]; exact HBm.out)⟩
      case round =>
        obtain ⟨k, E1, E2, vN, vO, rfl, hk, HMB, Hbr⟩ := hrel
        clear HMB0 HBm
        have hgm1 := mb_lt HMB.out
        have hzr : gm ≤ wr.heap.size := by omega
        by_cases hlk : k < L.length
        · have hdk2 : decide (k < L.length) = true := decide_eq_true hlk
          obtain ⟨s, hs⟩ := at_some hlk
          have hsN := HB.out.lt s (List.mem_of_getElem? hs)
          obtain ⟨hxN, ⟨qq, eq, lq, hxO⟩, hcl⟩ := HMW.out L k s HB.out hs
          obtain ⟨rr, -, -, er, lr, -⟩ := HSG.out s 0 hsN hp1
          obtain ⟨un, uo, huv, rn, ro⟩ := HC2.out
          simp only [Value.agg.injEq, Array.mk.injEq, List.cons.injEq, and_true] at huv
          obtain ⟨-, rfl, rfl⟩ := huv
          obtain ⟨bn, on, Bn, mn, hAn, hbn, hcn0, hn1, hn2, hrn⟩ := ss_open rn (Below.refl _ _) er
          obtain ⟨bo, oo, Bo, mo, hAo, hbo, hco0, ho1, ho2, hro⟩ := ss_open ro (Below.refl _ _) eq
          rw [lr] at hcn0 hn1
          rw [lq] at hco0 ho1
          unfold maxLen at hn2 ho2
          subst hAn hAo
          obtain ⟨hSl, -⟩ := HSL.out s hsN
          have HSG2 : Hid (∀ j, j < M → ∃ y c : Nat, rr[j]? = some ((y : Nat) : Int) ∧ y < m.next.length ∧ C[y]? = some c ∧ (Mac.succL m.next C s)[j]? = some c ∧ c < m.next.length) := Lib.hid fun j hj => by
            obtain ⟨r', y, c, g1, g2, g3, g4, g5, g6, g7⟩ := HSG.out s j hsN hj
            rw [er] at g1
            obtain rfl := Option.some.inj g1
            exact ⟨y, c, g3, g4, g5, g6, g7⟩
          have HRn := Lib.hid hrn
          have HRo := Lib.hid hro
          have Hlq := Lib.hid lq
          have HCn := Lib.hid hcn0
          have HCo := Lib.hid hco0
          have HXO := Lib.hid hxO
          have Hcl := Lib.hid hcl
          have HPs := Lib.hid (HPk.out k s hs)
          obtain ⟨S, hS⟩ : ∃ S, Mac.succL m.next C s = S := ⟨_, rfl⟩
          rw [hS] at HSG2 hxN hSl Hcl
          have HXN := Lib.hid hxN
          have HSl := Lib.hid hSl
          have hmn : decide (s < m.next.length) = true := decide_eq_true hsN
          have hso : s < m.out.length := by have := S5.out; omega
          have hsod : decide (s < m.out.length) = true := decide_eq_true hso
          -- facts of every later world
          have HW2 : Hid (∀ w', Below gm W4 w' → Below w2.heap.size w2 w') := Lib.hid fun w' hb => Hb.out.trans (hb.mono hzb)
          have HKK : Hid (∀ w', Below gm W4 w' → w'.cell? ⟨w.heap.size, 0, none⟩ = some (.int .i64 N) ∧ w'.cell? ⟨w.heap.size, 1, none⟩ = some (.slice (some ⟨bn, on, none⟩) m.next.length cn) ∧ w'.cell? ⟨w.heap.size, 2, none⟩ = some (.slice (some ⟨bo, oo, none⟩) m.out.length co) ∧ w'.cell? ⟨gP, k, none⟩ = some (.int .i64 s) ∧ w'.cell? ⟨bn, on + s, none⟩ = some (.slice Bn M mn) ∧ w'.cell? ⟨bo, oo + s, none⟩ = some (.slice Bo M mo)) := Lib.hid fun w' hb => by
            have h2 := HW2.out w' hb
            obtain ⟨x0, x1, x2, x3⟩ := PC2.out.below h2
            exact ⟨x1, x2, x3, (hb.cell (p := ⟨gP, k, none⟩) hgP2).trans HPs.out, (h2.cell (p := ⟨bn, on + s, none⟩) hbn).trans HCn.out, (h2.cell (p := ⟨bo, oo + s, none⟩) hbo).trans HCo.out⟩
          have hbl := bel_new wr (.cells #[] 3)
          have HX0 : Hid ((wr.alloc (.cells #[] 3)).ownsRow wr.heap.size 3 1 (.slice (some ⟨wr.heap.size, 0, none⟩) 0 0) 0 (nints ((S.take 0).map (Mac.idxG L)))) := Lib.hid (World.ownsRow_lit (base := wr.heap.size) (e := 3) (size := 1) wr #[] 0 (Nat.le_refl _) (by unfold maxLen; omega) rfl)
          have Hbl := Lib.hid hbl
          clear hbl rn ro er eq lr lq hxN hxO hrn hro hSl hs hS hcn0 hco0 hcl
          go_wp2_with fail
          obtain ⟨Wk, hWk⟩ : ∃ Wk, Wk = wr := ⟨_, rfl⟩
          subst hWk
          go_loopw [10, 11] (fun vx i wi => ∃ (v1 : Value) (j : Nat), v1 = vx ∧ i = .int .i64 j ∧ j ≤ M ∧ Hid (wi.ownsRow Wk.heap.size 3 1 vx j (nints ((S.take j).map (Mac.idxG L)))) ∧ Hid (Below Wk.heap.size Wk wi)) (fun _ i _ => M - (intOf i).toNat)
          case atStart => exact ⟨_, 0, rfl, rfl, Nat.zero_le _, HX0, Hbl⟩
          case round =>
            obtain ⟨vx, j, hvx, rfl, hj, Hx, Hbi⟩ := hrel
            subst hvx
            clear HX0 Hbl
            have hzi := Hbi.out.size
            have Hbg := Lib.hid (Hbr.out.trans (Hbi.out.mono hzr))
            obtain ⟨p0, p1, p2, p3, p4, p5⟩ := HKK.out wr Hbg.out
            by_cases hlj : j < M
            · have hdj : decide (j < M) = true := decide_eq_true hlj
              obtain ⟨y, c, hy, hyN, hCy, hSj, hcN⟩ := HSG2.out j hlj
              obtain ⟨b1, o1, rfl, hb1, hcy0⟩ := ints_row HRn.out rfl hy
              have HY : Hid (∀ w', Below gm W4 w' → w'.cell? ⟨b1, o1 + j, none⟩ = some (.int .i64 y) ∧ w'.cell? ⟨gC, y, none⟩ = some (.int .i64 c)) := Lib.hid fun w' hb =>
                ⟨((HW2.out w' hb).cell (p := ⟨b1, o1 + j, none⟩) hb1).trans hcy0, ((HW2.out w' hb).cell (p := ⟨gC, y, none⟩) hgC2).trans (HCC.out y c hCy)⟩
              have hyd : decide (y < m.next.length) = true := decide_eq_true hyN
              have hcL := Hcl.out c (List.mem_of_getElem? hSj)
              have HIdx : Hid (idxOf L c = ((Mac.idxG L c : Nat) : Int)) := Lib.hid (by rw [Mac.idxOf_G, if_pos hcL])
              have HXs : Hid (nints ((S.take (j + 1)).map (Mac.idxG L)) = nints ((S.take j).map (Mac.idxG L)) ++ [.int .i64 (idxOf L c)]) := Lib.hid (by rw [take_snoc hSj, List.map_append, List.map_singleton, nints_snoc, HIdx.out])
              have HBx : ∀ w', Only (fun g => vx.ownBlock = some g) wr w' → Below gm W4 w' := fun w' ho => Only.below Hbg.out ho (by omega) (fun g hg => by have := (Hx.out.lt g hg).1; omega)
              have HNw : Hid (∀ w', Below gm W4 w' → NatsAt w' (.slice (some ⟨gP, 0, none⟩) L.length c1) L) := Lib.hid fun w' hb => HNL.out.below (by rw [Hgm.out]; exact hb)
              obtain ⟨cs, hcs⟩ : ∃ cs, nints ((S.take j).map (Mac.idxG L)) = cs := ⟨_, rfl⟩
              rw [hcs] at Hx HXs
              clear hy hCy hSj hcy0 hcL hcs
              go_wp2_with fail
              obtain ⟨W6, hW6⟩ : ∃ W6, W6 = wr := ⟨_, rfl⟩
              subst hW6
              clear p0 p1 p2 p3 p4 p5
              obtain ⟨i0, hi0, hz0, hz1, hz2⟩ := info_parts info_int
              have hO := fun ops a => appRS2_ok (Pg := Try.prog) (ops := ops) (a := a) (news := [.int .i64 (idxOf L c)]) (d := 18) (Hx.out)
              refine wp_region_rs (appRS2 Try.prog _ W6 _ (Wk.heap.size) 3 1 (vx) (j) (cs) [.int .i64 (idxOf L c)] 18) (hO _ _) (by kernel_rfl) (by kernel_rfl) (by kernel_rfl) (Nat.le_of_ble_eq_true rfl) trivial Hx.out ?_
              refine rs_old (hO _ _) (.inl (Nat.ne_of_beq_eq_false rfl)) _ (.inl rfl) _ rfl rfl ?_
              refine rs_old (hO _ _) (.inl (Nat.ne_of_beq_eq_false rfl)) _ (.inl rfl) _ rfl rfl ?_
              refine rs_old (hO _ _) (.inl (Nat.ne_of_beq_eq_false rfl)) _ (.inl rfl) _ rfl rfl ?_
              apply rs_eq (hO _ _) (.inl (Nat.ne_of_beq_eq_false rfl))
              · intro ρ w' ho hK
                have ho : Only _ W6 w' := ho
                obtain ⟨h0, -⟩ := hK
                have h0' : ρ (.tmp 1) = _ := h0
                go_simp
                try exact rfl
              apply rs_eq (hO _ _) (.inl (Nat.ne_of_beq_eq_false rfl))
              · intro ρ w' ho hK
                have ho : Only _ W6 w' := ho
                obtain ⟨h0, -⟩ := hK
                have h0' : ρ (.tmp 74) = _ := h0
                obtain ⟨r0, r1, r2, r3, r4, r5⟩ := HKK.out w' (HBx w' ho)
                obtain ⟨r6, r7⟩ := HY.out w' (HBx w' ho)
                go_simp
                try exact rfl
              refine rs_old (hO _ _) (.inl (Nat.ne_of_beq_eq_false rfl)) _ (.inl rfl) _ rfl rfl ?_
              refine rs_old (hO _ _) (.inl (Nat.ne_of_beq_eq_false rfl)) _ (.inl rfl) _ rfl rfl ?_
              apply rs_eq (hO _ _) (.inl (Nat.ne_of_beq_eq_false rfl))
              · intro ρ w' ho hK
                have ho : Only _ W6 w' := ho
                obtain ⟨h0, h1, -⟩ := hK
                have h0' : ρ (.tmp 76) = _ := h0
                have h1' : ρ (.tmp 77) = _ := h1
                go_simp
                try exact rfl
              apply rs_eq (hO _ _) (.inl (Nat.ne_of_beq_eq_false rfl))
              · intro ρ w' ho hK
                have ho : Only _ W6 w' := ho
                obtain ⟨h0, -⟩ := hK
                have h0' : ρ (.tmp 78) = _ := h0
                obtain ⟨r0, r1, r2, r3, r4, r5⟩ := HKK.out w' (HBx w' ho)
                obtain ⟨r6, r7⟩ := HY.out w' (HBx w' ho)
                go_simp
                try exact rfl
              apply rs_eq (hO _ _) (.inl (Nat.ne_of_beq_eq_false rfl))
              · intro ρ w' ho hK
                have ho : Only _ W6 w' := ho
                obtain ⟨h0, h1, -⟩ := hK
                have h0' : ρ (.tmp 75) = _ := h0
                have h1' : ρ (.tmp 79) = _ := h1
                go_simp
                try exact rfl
              apply rs_eq (hO _ _) (.inl (Nat.ne_of_beq_eq_false rfl))
              · intro ρ w' ho hK
                have ho : Only _ W6 w' := ho
                obtain ⟨h0, -⟩ := hK
                have h0' : ρ (.tmp 80) = _ := h0
                obtain ⟨r0, r1, r2, r3, r4, r5⟩ := HKK.out w' (HBx w' ho)
                obtain ⟨r6, r7⟩ := HY.out w' (HBx w' ho)
                go_simp
                try exact rfl
              refine rs_old (hO _ _) (.inl (Nat.ne_of_beq_eq_false rfl)) _ (.inl rfl) _ rfl rfl ?_
              apply rs_eq (hO _ _) (.inl (Nat.ne_of_beq_eq_false rfl))
              · intro ρ w' ho hK
                have ho : Only _ W6 w' := ho
                obtain ⟨h0, h1, -⟩ := hK
                have h0' : ρ (.tmp 81) = _ := h0
                have h1' : ρ (.tmp 82) = _ := h1
                go_simp
                try exact rfl
              apply rs_eq (hO _ _) (.inl (Nat.ne_of_beq_eq_false rfl))
              · intro ρ w' ho hK
                have ho : Only _ W6 w' := ho
                obtain ⟨h0, -⟩ := hK
                have h0' : ρ (.tmp 83) = _ := h0
                obtain ⟨r0, r1, r2, r3, r4, r5⟩ := HKK.out w' (HBx w' ho)
                obtain ⟨r6, r7⟩ := HY.out w' (HBx w' ho)
                go_simp
                try exact rfl
              apply rs_eq (hO _ _) (.inl (Nat.ne_of_beq_eq_false rfl))
              · intro ρ w' ho hK
                have ho : Only _ W6 w' := ho
                obtain ⟨h0, h1, -⟩ := hK
                have h0' : ρ (.tmp 73) = _ := h0
                have h1' : ρ (.tmp 84) = _ := h1
                go_simp
                try exact rfl
              apply rs_eq (hO _ _) (.inl (Nat.ne_of_beq_eq_false rfl))
              · intro ρ w' ho hK
                have ho : Only _ W6 w' := ho
                obtain ⟨h0, -⟩ := hK
                have h0' : ρ (.tmp 85) = _ := h0
                obtain ⟨r0, r1, r2, r3, r4, r5⟩ := HKK.out w' (HBx w' ho)
                obtain ⟨r6, r7⟩ := HY.out w' (HBx w' ho)
                go_simp
                try exact rfl
              refine rs_call (hO _ _) (.inl (Nat.ne_of_beq_eq_false rfl)) (TEq (.int .i64 (idxOf L c))) (stb_eq _ _) 63 _ _ rfl (fun ρ w' ho hK => by
                have ho : Only _ W6 w' := ho
                obtain ⟨h0, h1, h2, -⟩ := hK
                have h0' : ρ (.func 63) = .func (.func 63) #[] #[] := h0
                have h1' : ρ (.tmp 72) = _ := h1
                have h2' : ρ (.tmp 86) = _ := h2
                refine ⟨#[ρ (.tmp 72), ρ (.tmp 86)], ?_, ?_⟩
                · go_simp
                · rw [h1', h2']
                  refine (l29At_any _ L c w' (HNw.out w' (HBx w' ho)) (by omega)).mono ?_
                  rintro e w2 ⟨rfl, rfl⟩
                  exact ⟨_, rfl, rfl, Below.refl _ _⟩) ?_
              refine rs_build1 (hO _ _) (.inl (Nat.ne_of_beq_eq_false rfl)) 1 [.int .i64 (idxOf L c)] 3 rfl (fun ρ w' ho hK => by
                have ho : Only _ W6 w' := ho
                obtain ⟨h0, -⟩ := hK
                have h0' : ρ (.tmp 87) = _ := h0
                go_simp) ?_
              refine rs_append2 rfl (Wk.heap.size) 3 22 1 (vx) (j) (cs) _ rfl rfl (fun g hg => hg) (show Wk.heap.size ≤ W6.heap.size by omega) _ _ rfl _ _ rfl rfl rfl rfl i0 _ 8 Try.underlying22 hi0 hz0 hz1 hz2 rfl (by decide) (by omega) (by decide) (by simp [Value.oneCell']) ?_
              refine rs_same (hO _ _) (.inl (Nat.ne_of_beq_eq_false rfl)) 89 18 (.inr rfl) rfl _ rfl ?_
              intro f w9 k9 hk9 hI9 ht9 hcp9
              have E0 : f 0 = _ := ht9 0 (Nat.le_of_ble_eq_true rfl)
              conv at E0 => rhs; whnf
              have E1 : f 1 = _ := ht9 1 (Nat.le_of_ble_eq_true rfl)
              conv at E1 => rhs; whnf
              have E2 : f 2 = _ := ht9 2 (Nat.le_of_ble_eq_true rfl)
              conv at E2 => rhs; whnf
              have E3 : f 3 = _ := ht9 3 (Nat.le_of_ble_eq_true rfl)
              have E4 : f 4 = _ := ht9 4 (Nat.le_of_ble_eq_true rfl)
              have E5 : f 5 = _ := ht9 5 (Nat.le_of_ble_eq_true rfl)
              conv at E5 => rhs; whnf
              have E6 : f 6 = _ := ht9 6 (Nat.le_of_ble_eq_true rfl)
              conv at E6 => rhs; whnf
              have E7 : f 7 = _ := ht9 7 (Nat.le_of_ble_eq_true rfl)
              have E8 : f 8 = _ := ht9 8 (Nat.le_of_ble_eq_true rfl)
              have E9 : f 9 = _ := ht9 9 (Nat.le_of_ble_eq_true rfl)
              have E10 : f 10 = _ := ht9 10 (Nat.le_of_ble_eq_true rfl)
              have E11 : f 11 = _ := ht9 11 (Nat.le_of_ble_eq_true rfl)
              conv at E11 => rhs; whnf
              have E12 : f 12 = _ := ht9 12 (Nat.le_of_ble_eq_true rfl)
              have E13 : f 13 = _ := ht9 13 (Nat.le_of_ble_eq_true rfl)
              have E14 : f 14 = _ := ht9 14 (Nat.le_of_ble_eq_true rfl)
              have E15 : f 15 = _ := ht9 15 (Nat.le_of_ble_eq_true rfl)
              have E16 : f 16 = _ := ht9 16 (Nat.le_of_ble_eq_true rfl)
              have E17 : (TNew _ 1 1 [.int .i64 (idxOf L c)]) w9 (f 17) := ht9 17 (Nat.le_of_ble_eq_true rfl)
              have E18 : (TAny) w9 (f 18) := ht9 18 (Nat.le_of_ble_eq_true rfl)
              have E19 : (TAny) w9 (f 19) := ht9 19 (Nat.le_of_ble_eq_true rfl)
              have Ho9 : Only _ W6 w9 := hI9.2.1
              have hown9 : w9.ownsRow (Wk.heap.size) 3 1 (f 18) (j + 1) (cs ++ [.int .i64 (idxOf L c)]) := hI9.2.2.1
              have hat9 : ∀ g, (f 18).ownBlock = some g → (vx).ownBlock = some g ∨ W6.heap.size ≤ g := hI9.2.2.2
              have C19 : f 19 = f 18 := (hcp9 19 _ 89 18 rfl rfl rfl rfl).2
              simp only [putAll, E0, E1, E2, E3, E4, E5, E6, E7, E8, E9, E10, E11, E12, E13, E14, E15, E16, C19, Nat.zero_add, Nat.reduceAdd, Act.put, List.setIfInBounds_toArray, List.set_cons_succ, List.set_cons_zero]
              clear E0 E1 E2 E3 E4 E5 E6 E7 E8 E9 E10 E11 E12 E13 E14 E15 E16
              clear hI9 ht9 hcp9 hk9
              generalize f 17 = r17 at *
              generalize f 18 = r18 at *
              have Hx9 := Lib.hid hown9
              have Hb9 := Lib.hid (Only.below Hbi.out Ho9 (by omega) (fun g hg => (Hx.out.lt g hg).1))
              clear Ho9 hown9 hat9 HBx hO
              go_wp2_with fail
              go_roundw
              case rel => exact ⟨_, j + 1, rfl, by go_num, by omega, Lib.hid (by rw [HXs.out]; exact Hx9.out), Hb9⟩
              case measure => simp [intOf] <;> omega
            · obtain rfl : j = M := by omega
              have hdj : decide (j < j) = false := decide_eq_false (by omega)
              have hfull : (S.take j).map (Mac.idxG L) = S.map (Mac.idxG L) := by rw [List.take_of_length_le (by have := HSl.out; omega)]
              have hxv := Hx.out
              rw [hfull] at hxv
              have hpl : (nats (S.map (Mac.idxG L))).length = j := by rw [nats_length, List.length_map]; exact HSl.out
              have HPL := Lib.hid hpl
              obtain ⟨ga, ca, hva, hga, hga2, hca, hcam⟩ := own_open hxv (by omega)
              subst hva
              unfold maxLen at hcam
              have HMB5 := Lib.hid (HMB.out.below Hbi.out)
              have Na1 : Hid (∀ g, (Value.slice (some ⟨ga, 0, none⟩) j ca).ownBlock = some g → ¬ E1 g ∧ ¬ E2 g) := Lib.hid fun g hg => ⟨fun he => by have h1 := HMB.out.l1 g he; have h2 := (hxv.lt g hg).1; omega, fun he => by have h1 := HMB.out.l2 g he; have h2 := (hxv.lt g hg).1; omega⟩
              have Oa5 : Hid (wr.ownsRow (gm + 1) 3 1 (.slice (some ⟨ga, 0, none⟩) j ca) (nats (S.map (Mac.idxG L))).length (ints (nats (S.map (Mac.idxG L))))) := Lib.hid (by rw [HPL.out]; exact own_mono hxv (by omega))
              have hx1 : ((Mac.minI m).next.take k).length = k ∧ ((Mac.minI m).out.take k).length = k := by
                have h1 := congrArg List.length HXN.out
                have h2 := congrArg List.length HXO.out
                simp only [List.length_take, List.length_append, List.length_singleton] at h1 h2 ⊢
                omega
              have Hl1 := Lib.hid hx1.1
              have Hl2 := Lib.hid hx1.2
              have HMl := HMB5.out.below (bel_new wr (.cells #[.slice (some ⟨ga, 0, none⟩) j ca] 22))
              obtain ⟨us, q1, q2, q3, q4, q5, q6, q7⟩ := HMl.n
              rw [hx1.1] at q1 q2
              have Q2 := Lib.hid q2
              have HML := Lib.hid HMl
              have Q := Lib.hid (And.intro q1 (And.intro q3 (And.intro q4 (And.intro q5 (And.intro q6 q7)))))
              have Oal := Lib.hid (Oa5.out.alloc (.cells #[.slice (some ⟨ga, 0, none⟩) j ca] 22))
              have Hlit := Lib.hid (Row.of_own (World.ownsRow_lit (base := wr.heap.size) (e := 22) (size := 1) wr #[.slice (some ⟨ga, 0, none⟩) j ca] 1 (Nat.le_refl _) (by unfold maxLen; omega) rfl))
              have hgm5 := mb_lt HMB5.out
              obtain ⟨k0, k1, k2, k3, k4⟩ := HMB5.out.cells
              clear hfull hpl hx1 HMl q1 q2 q3 q4 q5 q6 q7 hxv Hx HMD HMR HSG HSL HSG2
              go_wp2_with (at_builtin; refine append_intss rfl (.tmp 91) (.tmp 93) rfl (gm + 1) vN k us rfl Q2.out _ 1 [.slice (some ⟨ga, 0, none⟩) j ca] rfl Hlit.out (by simp [Value.oneCell']) (by omega) (by first | omega | (simp <;> omega)) ?_; intro v7 w7 hown7 hg7 hat7; obtain ⟨A7, c7, hv7⟩ := slice_of_own hown7; subst hv7; have HMB7 := Lib.hid (MB.addN HML.out (Q.out.1.trans Hl1.out.symm) Q.out.2.1 Q.out.2.2.1 Q.out.2.2.2.1 Q.out.2.2.2.2.1 Q.out.2.2.2.2.2 Oal.out (fun g hg => (Na1.out g hg).1) (fun g hg => (Na1.out g hg).2) (by rw [Hl1.out]; exact hown7) hg7 hat7); have hbx := (hg7.block gm (mb_lt HML.out) (fun e => by obtain ⟨_, _, p2, _⟩ := HML.out.n; have := (p2.lt _ e.symm).1; omega)).trans HML.out.box; have x1 := blk_cell hbx 1; have y1 := blk_free hbx 1; have Hg7 := Lib.hid hg7; clear hown7 hg7 hat7 hbx)
              clear p0 p1 p2 p3 p4 p5
              have hz7 := Hg7.out.size
              rw [World.size_alloc] at hz7
              have hox : Only (· = gm) w7 (w7.setCell ⟨gm, 1, none⟩ (.slice A7 (k + 1) c7)) := Only.grown (set_grown w7 gm 1 _) (fun g hg => (Option.some.inj hg).symm)
              have Hb8 := Lib.hid (Only.below ((Hbg.out.alloc (by omega) (.cells #[.slice (some ⟨ga, 0, none⟩) j ca] 22)).grown Hg7.out (by simp <;> omega) (fun q hq => by have := (Q2.out.lt q hq).1; omega)) hox (by omega) (fun g hg => by omega))
              have hz8 : wr.heap.size + 1 ≤ (w7.setCell ⟨gm, 1, none⟩ (.slice A7 (k + 1) c7)).heap.size := Nat.le_trans hz7 hox.size
              clear hox x1 y1 k0 k1 k2 k3 k4 Q Q2 Oal HML Hlit hz7 Oa5
              generalize w7.setCell ⟨gm, 1, none⟩ (.slice A7 (k + 1) c7) = W8 at *
              obtain ⟨E3, hE3⟩ : ∃ E3 : Nat → Prop, (fun g => E1 g ∨ (Value.slice (some ⟨ga, 0, none⟩) j ca).ownBlock = some g ∨ (Value.slice A7 (k + 1) c7).ownBlock = some g) = E3 := ⟨_, rfl⟩
              have HMB8 : Hid (MB gm N E3 E2 (.slice A7 (k + 1) c7) vO ((Mac.minI m).next.take (k + 1)) ((Mac.minI m).out.take k) W8) := Lib.hid (by rw [← hE3, HXN.out]; exact HMB7.out)
              clear HMB7 hE3
              obtain ⟨us2, t1, t2, t3, t4, t5, t6, t7⟩ := HMB8.out.o
              rw [Hl2.out] at t1 t2
              have T2 := Lib.hid t2
              have TQ := Lib.hid (And.intro t1 (And.intro t3 (And.intro t4 (And.intro t5 (And.intro t6 t7)))))
              have hgm8 := mb_lt HMB8.out
              obtain ⟨-, -, kk2, -, kf2⟩ := HMB8.out.cells
              have HKP : Hid (∀ w', Below W8.heap.size W8 w' → w'.cell? ⟨gm, 2, none⟩ = some vO ∧ w'.cell? ⟨w.heap.size, 2, none⟩ = some (.slice (some ⟨bo, oo, none⟩) m.out.length co) ∧ w'.cell? ⟨gP, k, none⟩ = some (.int .i64 s) ∧ w'.cell? ⟨bo, oo + s, none⟩ = some (.slice Bo j mo)) := Lib.hid fun w' hb => by
                obtain ⟨-, -, x1, x2, -, x3⟩ := HKK.out w' (Hb8.out.trans (hb.mono (by omega)))
                exact ⟨(hb.cell (p := ⟨gm, 2, none⟩) hgm8).trans kk2, x1, x2, x3⟩
              have HRo8 : Hid (∀ w', Below W8.heap.size W8 w' → Row w' 1 (.slice Bo j mo) j (ints qq)) := Lib.hid fun w' hb => by
                have := HRo.out.below (HW2.out w' (Hb8.out.trans (hb.mono (by omega))))
                rwa [Hlq.out] at this
              obtain ⟨i0, hi0, hz0, hz1, hz2⟩ := info_parts info_ints
              obtain ⟨j0, hj0, hy0, hy1, hy2⟩ := info_parts info_int
              have hd0 : Below W8.heap.size W8 W8.drew := (Below.refl W8.heap.size W8).drew
              have hd1 : Below W8.heap.size W8 (W8.alloc (.cells #[] 3)).drew := ((Below.refl W8.heap.size W8).alloc (Nat.le_refl _) (.cells #[] 3)).drew
              obtain ⟨d1, d2, d3, d4⟩ := HKP.out _ hd0
              obtain ⟨f1, f2, f3, f4⟩ := HKP.out _ hd1
              have Hd1 := Lib.hid hd1
              have Hown0 : Hid ((W8.alloc (.cells #[] 3)).drew.ownsRow W8.heap.size 3 1 (.slice (some ⟨W8.heap.size, 0, none⟩) 0 0) 0 []) := Lib.hid (World.ownsRow_lit (base := W8.heap.size) (e := 3) (size := 1) W8 #[] 0 (Nat.le_refl _) (by unfold maxLen; omega) rfl)
              clear t1 t2 t3 t4 t5 t6 t7 kk2 kf2 hd0 hd1
              clear HC2 HRes2 HCC HMW HB HNL HPk PC2 B0 B1 B2 HClen S5 HinsE HW2 HKK HPs HCn HCo HRn HRo Hcl HXN HSl HPL Hbg Hbi Hbr HMB HMB5 Hg7 Na1 Hb
              go_region_law (first
                | (refine step_appZ (by simp [Region.wanted, yielded, Act.put]) (.tmp 98) (.tmp 106) 22 rfl W8.heap.size 3 j0 _ 1 8 Try.underlying22 hj0 hy0 hy1 hy2 rfl (by decide) (.slice (some ⟨W8.heap.size, 0, none⟩) 0 0) 0 [] (by simp [Act.eval, Act.put]) Hown0.out (.slice Bo j mo) j (ints qq) (by simp [Act.eval, Act.put]) (HRo8.out _ Hd1.out) (ints_one _) (by unfold maxLen; omega) (by omega) (by simp <;> omega) ?_; intro v3 w3 hown3 hg3 hat3; have hb3 := Hd1.out.grown hg3 Hd1.out.size (own_ge0 Hown0.out); rw [Nat.zero_add, List.nil_append] at hown3; obtain ⟨A3, c3, hv3⟩ := slice_of_own hown3; subst hv3; obtain ⟨e1, e2, e3, e4⟩ := HKP.out _ hb3; obtain ⟨g1, g2, g3, g4⟩ := HKP.out _ (hb3.alloc hb3.size (.cells #[.slice A3 j c3] 22)))
                | (refine step_appZ (by simp [Region.wanted, yielded, Act.put]) (.tmp 97) (.tmp 108) 39 rfl (gm + 1) 22 i0 _ 1 24 Try.underlying39 hi0 hz0 hz1 hz2 rfl (by decide) vO k us2 (by simp [Act.eval, Act.put]) (own_below T2.out (hb3.alloc hb3.size (.cells #[.slice A3 j c3] 22))) (.slice (some ⟨w3.heap.size, 0, none⟩) 1 1) 1 [.slice A3 j c3] (by simp [Act.eval, Act.put]) (Row.of_own (World.ownsRow_lit (base := w3.heap.size) (e := 22) (size := 1) w3 #[.slice A3 j c3] 1 (Nat.le_refl _) (by unfold maxLen; omega) rfl)) (by simp [Value.oneCell']) (by unfold maxLen; omega) (by omega) (by have := hb3.size; simp <;> omega) ?_; intro v9 w9 hown9 hg9 hat9; obtain ⟨A9, c9, hv9⟩ := slice_of_own hown9; subst hv9; have HMB9 := Lib.hid (MB.addO (u := .slice A3 j c3) (x := qq) (HMB8.out.below (hb3.alloc hb3.size (.cells #[.slice A3 j c3] 22))) (TQ.out.1.trans Hl2.out.symm) (fun i x u hx hu => own_below (TQ.out.2.1 i x u hx hu) (hb3.alloc hb3.size (.cells #[.slice A3 j c3] 22))) TQ.out.2.2.1 TQ.out.2.2.2.1 TQ.out.2.2.2.2.1 TQ.out.2.2.2.2.2 (by rw [Hlq.out]; exact own_mono (hown3.alloc (.cells #[.slice A3 j c3] 22)) (by omega)) (fun g hg he => by have h1 := (hown3.lt g hg).1; have h2 := HMB8.out.l1 g he; omega) (fun g hg he => by have h1 := (hown3.lt g hg).1; have h2 := HMB8.out.l2 g he; omega) (by rw [Hl2.out]; exact hown9) hg9 hat9); have hbx := (hg9.block gm (by have := hb3.size; simp <;> omega) (fun e => by have := (T2.out.lt _ e.symm).1; omega)).trans ((hb3.alloc hb3.size (.cells #[.slice A3 j c3] 22)).block gm hgm8 |>.trans HMB8.out.box); have x2 := blk_cell hbx 2; have y2 := blk_free hbx 2))
              all_goals
                have HB9 := Lib.hid (Only.below (((Hb8.out.trans (hb3.mono (by omega))).alloc (Nat.le_trans (show gm ≤ W8.heap.size by omega) hb3.size) (.cells #[.slice A3 j c3] 22)).grown hg9 (by have h4 := hb3.size; simp <;> omega) (fun q hq => by have := (T2.out.lt q hq).1; omega)) (Only.grown (E := (· = gm)) (set_grown w9 gm 2 (.slice A9 (k + 1) c9)) (fun g hg => (Option.some.inj hg).symm)) (by have h4 := hb3.size; have h5 := hg9.size; rw [World.size_alloc] at h5; omega) (fun g hg => by omega))
                clear hown3 hown9 hg9 hat9 hb3 hbx x2 y2 hg3 hat3
                go_wp2_with fail
                go_roundw
                case rel => exact ⟨k + 1, _, _, _, _, by go_num, by omega, Lib.hid (by rw [HXO.out]; exact HMB9.out), HB9⟩
                case measure => simp [intOf] <;> omega
        · obtain rfl : k = L.length := by omega
          have hdk3 : decide (L.length < L.length) = false := decide_eq_false (by omega)
          obtain ⟨hd1, hd2⟩ := HMD.out L HB.out
          have HMf : Hid (MB gm N E1 E2 vN vO (Mac.minI m).next (Mac.minI m).out wr) := Lib.hid (by have := HMB.out; rwa [hd1, hd2] at this)
          obtain ⟨k0, k1, k2, k3, k4⟩ := HMf.out.cells
          have hW2 := Hb.out.trans (Hbr.out.mono hzb)
          have hR := (hW2.block (w.heap.size + 1) (by omega)).trans HRes2.out
          have o0 := blk_cell hR 0
          have o1 := blk_cell hR 1
          have o2 := blk_cell hR 2
          have b0 := blk_free hR 0
          have b1 := blk_free hR 1
          have b2 := blk_free hR 2
          simp at o0 o1 o2
          have HB9 := Lib.hid (B2.out.trans (hW2.mono B2.out.size))
          obtain ⟨An', cn', hvN, -, -⟩ := SSAt.shape (OwnSE.at HMf.out.n)
          obtain ⟨Ao', co', hvO, -, -⟩ := SSAt.shape (OwnSE.at HMf.out.o)
          have HMF2 := Lib.hid (And.intro HMf.out.n (And.intro HMf.out.o HMf.out.d))
          have HlN := Lib.hid HMf.out.l1
          have HlO := Lib.hid HMf.out.l2
          have Hsz : Hid (w.heap.size + 1 < gm) := Lib.hid (by omega)
          clear hR HMf HMB hd1 hd2 HMD HMR HSG HSL hW2
          subst hvN hvO
          go_wp2_with fail
          refine bodyPost_ret (v := .agg #[.int .i64 N, .slice An' (Mac.minI m).next.length cn', .slice Ao' (Mac.minI m).out.length co']) (by simp [results, Try.results22, go_sem, o0, o1, o2]) rfl ⟨_, rfl, ⟨_, _, E1, E2, by rw [HinsE.out], fun g he => ?_, fun g he => ?_, HMF2.out.2.2, ?_, ?_⟩, ?_⟩
          · have h1 := HlN.out g he; simp [World.setCell]; omega
          · have h1 := HlO.out g he; simp [World.setCell]; omega
          · exact OwnSE.mono (((OwnSE.set (OwnSE.set (OwnSE.set HMF2.out.1 (by have := Hsz.out; omega)) (by have := Hsz.out; omega)) (by have := Hsz.out; omega)))) (by have := Hsz.out; omega) (fun _ h => h)
          · exact OwnSE.mono (((OwnSE.set (OwnSE.set (OwnSE.set HMF2.out.2.1 (by have := Hsz.out; omega)) (by have := Hsz.out; omega)) (by have := Hsz.out; omega)))) (by have := Hsz.out; omega) (fun _ h => h)
          · exact ((HB9.out.setCell (by simp only; omega) _).setCell (by simp only; omega) _).setCell (by simp only; omega) _
theorem specMinz_any (v : Value) (m : Mz) (w : World) (h : MachAt w v m) :
    Calls Try.prog 22 #[v] w (OwnMachZ (Mac.minI m) w) := by
  cases hv : Mac.valid m
  · have HC := Lib.hid h
    obtain ⟨An, cn, Ao, co, rfl, hcnm, hcom, hcn1, hco1⟩ := h.shape
    have hb0 := bel_new w (.cells #[.int .i64 m.ins, .slice An m.next.length cn, .slice Ao m.out.length co] 43)
    have hb00 := bel_new (w.alloc (.cells #[.int .i64 m.ins, .slice An m.next.length cn, .slice Ao m.out.length co] 43)) (.cells #[.int .i64 0, .slice none 0 0, .slice none 0 0] 43)
    have B0 := Lib.hid (hb0.trans (hb00.mono hb0.size))
    have PC := Lib.hid ((MCells.boxed w m.ins (.slice An m.next.length cn) (.slice Ao m.out.length co) 43).below hb00)
    have hR : ((w.alloc (.cells #[.int .i64 m.ins, .slice An m.next.length cn, .slice Ao m.out.length co] 43)).alloc (.cells #[.int .i64 0, .slice none 0 0, .slice none 0 0] 43)).heap[w.heap.size + 1]? = some (.cells #[.int .i64 0, .slice none 0 0, .slice none 0 0] 43 (0, 0)) := by
      have := heap_alloc_new (w.alloc (.cells #[.int .i64 m.ins, .slice An m.next.length cn, .slice Ao m.out.length co] 43)) (.cells #[.int .i64 0, .slice none 0 0, .slice none 0 0] 43)
      rwa [World.size_alloc] at this
    have HRes := Lib.hid hR
    have hsz : ((w.alloc (.cells #[.int .i64 m.ins, .slice An m.next.length cn, .slice Ao m.out.length co] 43)).alloc (.cells #[.int .i64 0, .slice none 0 0, .slice none 0 0] 43)).heap.size = w.heap.size + 2 := by simp
    obtain ⟨z, p0, p1, p2⟩ := PC.out
    have HC0 := Lib.hid (HC.out.below B0.out)
    have HV := Lib.hid (specMValid_any _ m _ HC0.out)
    rw [hv] at HV
    have HE : Hid (Mac.minI m = ⟨0, [], []⟩) := Lib.hid (by unfold Mac.minI; rw [hv]; rfl)
    rw [HE.out]
    clear hv hb0 hb00 hR h HE
    go_enter Try.func22, Try.ntmps22
    go_wp2_with fail
    generalize (w.alloc (.cells #[.int .i64 m.ins, .slice An m.next.length cn, .slice Ao m.out.length co] 43)).alloc (.cells #[.int .i64 0, .slice none 0 0, .slice none 0 0] 43) = W at *
    refine HV.out.mono ?_
    rintro e w1 ⟨rfl, hb1⟩
    have B1 := Lib.hid (B0.out.trans (hb1.mono B0.out.size))
    have hR := (hb1.block _ (by omega)).trans HRes.out
    have z1 := hb1.size
    have o0 := blk_cell hR 0
    have o1 := blk_cell hR 1
    have o2 := blk_cell hR 2
    have b0 := blk_free hR 0
    have b1 := blk_free hR 1
    have b2 := blk_free hR 2
    simp at o0 o1 o2
    clear hb1 hR p0 p1 p2 z HV
    go_wp2_with fail
    refine bodyPost_ret (v := .agg #[.int .i64 0, .slice none 0 0, .slice none 0 0]) (by simp [results, Try.results22, go_sem, o0, o1, o2]) rfl ⟨_, rfl, ⟨_, _, (fun _ => False), (fun _ => False), rfl, fun g he => he.elim, fun g he => he.elim, fun g he => he.elim, OwnSE.nil _ _ _ _ _ _, OwnSE.nil _ _ _ _ _ _⟩, ?_⟩
    exact ((B1.out.setCell (by simp only; omega) _).setCell (by simp only; omega) _).setCell (by simp only; omega) _
  · exact specMinz_ok v m w h hv
/-- As a result to read. -/
theorem specMinz_read (v : Value) (m : Mz) (w : World) (h : MachAt w v m) :
    Calls Try.prog 22 #[v] w fun e w' => (∃ u, e = .returned u ∧ MachAt w' u (Mac.minI m)) ∧ Below w.heap.size w w' :=
  (specMinz_any v m w h).mono fun e w' ⟨u, h1, h2, h3⟩ => ⟨⟨u, h1, h2.at⟩, h3⟩
end Go.Proofs.Ytlbfejdbfhgifaa

namespace Go.Proofs.Ytlbfejdbfhgifaa
set_option maxRecDepth 100000
open Go.RowKit Go.Joins Go.ChangeShapes Go.WideShapes Go.ChangeAt Go.Deep
theorem els_ss {w : World} : ∀ {els : List (List Value)}, (∀ e ∈ els, GInts w e) → ∃ (vs : List Value) (xss : List (List Int)), els.flatten = vs ∧ vs.length = els.length ∧ xss.length = els.length ∧ (∀ (i : Nat) (x : List Int) (u : Value), xss[i]? = some x → vs[i]? = some u → Row w 1 u x.length (ints x)) ∧ ∀ x ∈ xss, ∀ y ∈ x, WfI y
  | [], _ => ⟨[], [], rfl, rfl, rfl, by simp, by simp⟩
  | e :: els, h => by
    obtain ⟨vs, xss, h1, h2, h3, h4, h5⟩ := els_ss fun e' h' => h e' (List.mem_cons_of_mem _ h')
    obtain ⟨A, n, c, xs, rfl, hr, hl, hw⟩ := h e (by simp)
    refine ⟨.slice A n c :: vs, xs :: xss, by simp [h1], by simp [h2], by simp [h3], fun i x u hx hu => ?_, fun x hx => ?_⟩
    · cases i with
      | zero =>
        simp at hx hu
        subst hx hu
        exact hr
      | succ i => exact h4 i x u (by simpa using hx) (by simpa using hu)
    · rcases List.mem_cons.1 hx with rfl | hx
      · exact hw
      · exact h5 x hx
section
variable {H : Type} {enc : TypeId × Value → H} {w : World} {r : Reach} {b0 base : Nat} {spare : Nat → Bool} {held : Bool} {v : Value} {d : DataW H} {p : List MemPlace}
theorem rd_intss {n : Nat} {cs : List Value} {y : DataW H × List MemPlace} (h : DataW.trod enc Try.prog w base spare held n 39 cs = some y) : ∃ v xss, cs = [v] ∧ SSAt ints w v xss ∧ ∀ x ∈ xss, ∀ y ∈ x, WfI y := by
  obtain ⟨A, n, c, els, rfl, hr, rfl, hl, hg⟩ := slice_rd (size := 1) Try.underlying39 (by kernel_rfl) (by decide) (fun cs => GInts w cs) (fun _ _ _ _ h => rd_ints h) h
  obtain ⟨vs, xss, h1, h2, h3, h4, h5⟩ := els_ss hg
  exact ⟨_, xss, rfl, ⟨vs, by omega, by rw [h3, ← h1]; exact hr, h4⟩, h5⟩
/-- A machine, as an argument. -/
def AMach (w : World) (v : Value) : Prop := ∃ m : Mz, MachAt w v m ∧ WfI m.ins ∧ (∀ x ∈ m.next, ∀ y ∈ x, WfI y) ∧ ∀ x ∈ m.out, ∀ y ∈ x, WfI y
theorem open_amach (hv : Value.okWide Try.prog w r b0 41 v) (h : DataW.Trod enc Try.prog w base spare held 41 v d p) : AMach w v := by
  obtain ⟨v0, v1, v2, y0, y1, y2, n, rfl, rfl, rfl, h0, h1, h2⟩ := open_agg3 Try.underlying41 (by kernel_rfl) (by kernel_rfl) hv h
  obtain ⟨x, e0, w0⟩ := rd_int h0
  obtain ⟨u1, xss, e1, i1, w1⟩ := rd_intss h1
  obtain ⟨u2, yss, e2, i2, w2⟩ := rd_intss h2
  simp only [List.cons.injEq, and_true] at e0 e1 e2
  subst e0 e1 e2
  exact ⟨{ ins := x, next := xss, out := yss }, ⟨_, _, rfl, i1, i2⟩, w0, w1, w2⟩
end
def TMach (m : Mz) : Ty := fun w v => MachAt w v m
theorem stb_mach (m : Mz) : Stb (fun _ => False) (TMach m) := fun _ _ _ h ho => h.below (only_below ho)
/-- A machine in a box of the law's. -/
structure BoxM (w : World) (g : Nat) (m : Mz) (vn vo : Value) : Prop where
  pc : MCells w g m.ins vn vo
  at_ : MachAt w (.agg #[.int .i64 m.ins, vn, vo]) m
theorem BoxM.below {w w' : World} {g : Nat} {m : Mz} {vn vo : Value} (h : BoxM w g m vn vo) (hb : Below w.heap.size w w') : BoxM w' g m vn vo := ⟨h.pc.below hb, h.at_.below hb⟩
theorem BoxM.made {w : World} {m : Mz} {vn vo : Value} (t : TypeId) (h : MachAt w (.agg #[.int .i64 m.ins, vn, vo]) m) : BoxM (w.alloc (.cells #[.int .i64 m.ins, vn, vo] t)) w.heap.size m vn vo :=
  ⟨MCells.boxed _ _ _ _ _, h.below (bel_alloc _ _)⟩
end Go.Proofs.Ytlbfejdbfhgifaa

namespace Go.Proofs.Ytlbfejdbfhgifaa
open Go.RowKit
set_option maxRecDepth 100000
theorem Kept.atM {v : Value} {m : Mz} {T : Nat} {w : World} (h : Kept (fun w' => MachAt w' v m) T w) : MachAt w v m := by
  obtain ⟨w0, h, _, hb⟩ := h
  exact MachAt.below h hb
theorem Kept.boxM {g : Nat} {vn vo : Value} {m : Mz} {T : Nat} {w : World} (h : Kept (fun w' => BoxM w' g m vn vo) T w) : BoxM w g m vn vo := by
  obtain ⟨w0, h, _, hb⟩ := h
  exact BoxM.below h hb
theorem hasMT {B : Nat} {v : Value} {m : Mz} {w : World} (h : OwnMach B w.heap.size v m w) : Has B w.heap.size (OwnMachE B w.heap.size v m) w := ⟨h.e, Nat.le_refl _, fun _ _ _ h _ ho hE => h.only ho hE⟩
theorem markMachine_only (B T : Nat) (v : Value) (m : Mz) (k : Nat) (w : World) (h : OwnMachE B T v m w) (hT : T ≤ w.heap.size) (hl : m.next.length + total m.next + m.out.length + total m.out ≤ 1048576) (hk : k ≤ 1000000) :
    Calls Try.prog 26 #[v, .int .i64 k] w fun e w' => (∃ k' : Nat, e = .returned (.int .i64 (k' : Nat)) ∧ k' ≤ k + 5000000) ∧ Only (fun g => B ≤ g ∧ g < T) w w' :=
  (markMachine_any B T v m k w h hl hk hT).mono fun _ _ ⟨h1, _, h3⟩ => ⟨⟨_, h1, by omega⟩, h3⟩
end Go.Proofs.Ytlbfejdbfhgifaa

namespace Go.Proofs.Ytlbfejdbfhgifaa
open Go.RowKit
set_option maxRecDepth 100000
/-! What laws do with machines that they made. -/
theorem Kept.atMr {v : Value} {m : Mz} {T : Nat} {w : World} (h : Kept (fun w' => MachAt w' v m) T w) : MachAt w v m := by
  obtain ⟨w0, h1, _, h3⟩ := h
  exact MachAt.below h1 h3
theorem lives_mE (B T : Nat) (v : Value) (m : Mz) : Lives B T (OwnMachE B T v m) := fun E w w' h _ ho hE => h.only ho hE
theorem has_mE {B : Nat} {v : Value} {m : Mz} {w : World} (h : OwnMachE B w.heap.size v m w) : Has B w.heap.size (OwnMachE B w.heap.size v m) w := ⟨h, Nat.le_refl _, lives_mE B _ v m⟩
theorem has_run {B T : Nat} {i : Int} {v : Value} {ns os : List Nat} {k : Nat} {w : World} (h : RunMach B T i v ns os k w) (ht : T ≤ w.heap.size) : Has B T (RunMach B T i v ns os k) w := ⟨h, ht, fun E w w' h _ ho hE => h.only ho hE⟩
theorem has_blockM {w : World} {g : Nat} {o : Obj} (h : w.heap[g]? = some o) : Has g (g + 1) (fun w' => w'.heap[g]? = some o) w := by
  refine ⟨h, by have := heap_lt h; omega, fun E w1 w2 h1 ht ho hE => ?_⟩
  exact (ho.block g (by omega) (hE g (Nat.le_refl _) (by omega))).trans h1
theorem sum_map_leM {α : Type} (f : α → Nat) (b : Nat) : ∀ l : List α, (∀ x ∈ l, f x ≤ b) → (l.map f).sum ≤ b * l.length
  | [], _ => by simp
  | x :: l, h => by
    have h1 := sum_map_leM f b l fun y hy => h y (List.mem_cons_of_mem _ hy)
    have h2 := h x (by simp)
    rw [List.map_cons, List.sum_cons, List.length_cons, Nat.mul_succ]
    omega
theorem minz_len (m : Mz) : (Mac.minI m).next.length + total (Mac.minI m).next + (Mac.minI m).out.length + total (Mac.minI m).out ≤ 1048576 := by
  cases hv : Mac.valid m
  · unfold Mac.minI
    rw [hv]
    simp [Mac.zeroM, total]
  · have hv' := Mac.min_valid hv
    have hs := Mac.valid_sizes hv'
    have h16 : 2 ^ (Mac.minI m).ins.toNat ≤ 2 ^ 4 := Nat.pow_le_pow_right (show 0 < 2 by decide) (by omega)
    unfold Mac.valid at hv'
    rw [Bool.and_eq_true, Bool.and_eq_true, List.all_eq_true, List.all_eq_true] at hv'
    have hr : ∀ l x, Mac.rowOk (Mac.minI m).ins l x = true → x.length ≤ 16 := fun l x h => by
      unfold Mac.rowOk Mac.lenOk at h
      rw [Bool.and_eq_true, decide_eq_true_eq] at h
      omega
    have t1 := sum_map_leM List.length 16 (Mac.minI m).next (fun x hx => hr _ x (hv'.2.1 x hx))
    have t2 := sum_map_leM List.length 16 (Mac.minI m).out (fun x hx => hr _ x (hv'.2.2 x hx))
    unfold total
    omega
end Go.Proofs.Ytlbfejdbfhgifaa
