import Derived.Test.YtlpellciiiflkaaDelete
import Derived.Test.YtlpellciiiflkaaPrimeF
namespace Go.Proofs.Ytlpellciiiflkaa
open Go.RowKit
section
variable {P : Program}
theorem step_append_at {w : World} {ops : Array Oper} {o : Oper} {a : Act} {K : Act → World → Prop} {Q : Exit → Act → World → Prop} {E : Prop} (hgd : o.guard = none) (s x : Operand) (t : TypeId)
    (ho : o.op = .call { callee := .builtin .append, args := #[s, x], argTypes := #[t, t] })
    (base : Nat) (e : TypeId) (i : TypeInfo) (z : Value) (size bytes : Nat) (ht : P.underlying t = some (.slice e)) (hi : P.info? e = some i) (hz : i.zero = some z)
    (hsize : i.size = size) (hby : i.bytes = bytes) (hzs : z.cells.size = size) (hsz : 0 < size)
    (v : Value) (n : Nat) (xs : List Value) (hs : a.eval s = v) (hown : w.ownsRow base e size v n xs) (sv : Value) (m : Nat) (news : List Value) (hx : a.eval x = sv) (hr : Row w size sv m news) (h1 : ∀ u ∈ news, u.oneCell' = true)
    (h63 : n + m ≤ maxLen) (hbytes : (n + m) * bytes ≤ 140737488355328) (hbase : base ≤ w.heap.size)
    (h : ∀ v' w', w'.ownsRow base e size v' (n + m) (xs ++ news) → w.grownBy w' v.ownBlock → K (a.put o.dst v') w') : if Region.wanted o (yielded ops a.tmps) = true then Oper.wp P o a w K Q else E := by
  have hw : Region.wanted o (yielded ops a.tmps) = true := by simp [Region.wanted, hgd]
  rw [if_pos hw]
  obtain ⟨v', w', hrun, h2, h3, h4⟩ := run_append_row_at (P := P) w base t o.type e i z size bytes ht hi hz hsize hby hzs hsz v n xs hown sv m news hr h1 h63 hbytes hbase
  unfold Oper.wp execOp
  simp only [ho, resolve, invoke, builtin, Sem.run_bind, Sem.run_pure, Result.andThen_ok, List.map_toArray, List.map_cons, List.map_nil, hs, hx, hrun]
  exact h v' w' h2 h3
end
def ClonedCubes (n : Nat) (cs : List Value) (w : World) (e : Ending) (w' : World) : Prop :=
  ∃ v', e = .returned v' ∧ w'.ownsRow w.heap.size 25 2 v' n cs ∧ Below w.heap.size w w'
theorem clone_any (B : Nat) (v : Value) (ks : List (Int × Int)) (w : World) (h : w.ownsRow B 25 2 v ks.length (cubes ks)) (hn : ks.length ≤ 1000) :
    Calls Try.prog 42 #[v] w (ClonedCubes ks.length (cubes ks) w) := by
  have he := fun (w : World) (a : Option Addr) (n c : Nat) => Lib.run_eql_slice_nil (P := Try.prog) w 35 25 a n c 0 0 Try.underlying35
  rcases h.2 with ⟨rfl, h0⟩ | ⟨g, cap, cur, rfl, hb, hh, h1, h2, h3, h4⟩
  · have hk : ks = [] := List.eq_nil_of_length_eq_zero h0
    subst hk
    clear h
    go_enter Try.func42, Try.ntmps42
    go_wp2_with fail
    go_ret
    exact ⟨_, rfl, World.ownsRow_nil _ _ _ _, Below.refl _ _⟩
  · have hr := Lib.hid (Row.of_own h)
    have Hown0 := Lib.hid (World.ownsRow_lit (base := w.heap.size) (e := 25) (size := 2) w #[] 0 (Nat.le_refl _) (by unfold maxLen; omega) rfl)
    clear hh h4 h
    go_enter Try.func42, Try.ntmps42
    go_wp2_with (at_builtin; refine append_cubes rfl (.tmp 5) (.tmp 6) rfl w.heap.size _ 0 _ rfl Hown0.out _ ks.length (cubes ks) rfl (hr.out.alloc _) (cubes_one _) (by omega) (by simp) ?_; intro v5 w5 hown5 hg5; have Ho5 := Lib.hid hown5; have Hg5 := Lib.hid hg5; clear hown5 hg5)
    go_ret
    refine ⟨_, rfl, ?_, ((Below.refl _ _).alloc (Nat.le_refl _) _).grown Hg5.out (by simp) (own_ge Hown0.out)⟩
    have := Ho5.out
    simpa using this
def Dropped (ks : List (Int × Int)) (i : Nat) (w : World) (e : Ending) (w' : World) : Prop :=
  ∃ v', e = .returned v' ∧ w'.ownsRow w.heap.size 25 2 v' (ks.eraseIdx i).length (cubes (ks.eraseIdx i)) ∧ Below w.heap.size w w'
theorem drop_any (v : Value) (ks : List (Int × Int)) (i : Nat) (w : World) (h : CubesAt w v ks) (hi : i < ks.length) (hn : ks.length ≤ 1000) :
    Calls Try.prog 49 #[v, .int .i64 i] w (Dropped ks i w) := by
  obtain ⟨i0, hi0, hz0, hz1, hz2⟩ := info_parts info_cube
  obtain ⟨b, o, cap, hv, hcn, hcm, hbl, hcell⟩ := Row.open h (by omega)
  subst hv
  have hr1 : Hid (Row (w.drew.alloc (.cells #[] 25)) 2 (.slice (some ⟨b, o, none⟩) i cap) i (cubes (ks.take i))) := Lib.hid ⟨by rw [cubes_length]; simp; omega, _, cap, rfl, by omega, hcm, fun _ => ⟨b, o, rfl, by simp; omega, fun j u hu => by
    rw [cubes_take, List.getElem?_take] at hu
    split at hu
    · exact (World.cell?_alloc_lt w.drew _ ⟨b, o + j, none⟩ hbl).trans (hcell j u hu)
    · cases hu⟩⟩
  have hnews : ∀ j u, (cubes (ks.drop (i + 1)))[j]? = some u → w.cell? ⟨b, o + (i + 1) * 2 + j, none⟩ = some u := fun j u hu => by
    rw [cubes_drop, List.getElem?_drop] at hu
    rw [Nat.add_assoc]
    exact hcell _ _ hu
  obtain ⟨A, hA, hAn⟩ : ∃ A : Addr, (if cap = i + 1 then some (⟨b, o, none⟩ : Addr) else some ⟨b, o + (i + 1) * 2, none⟩) = some A ∧ Hid (Row w 2 (.slice (some A) (ks.length - (i + 1)) (cap - (i + 1))) (ks.length - (i + 1)) (cubes (ks.drop (i + 1)))) := by
    have hl : (cubes (ks.drop (i + 1))).length = (ks.length - (i + 1)) * 2 := by rw [cubes_length]; simp
    by_cases hc : cap = i + 1
    · refine ⟨⟨b, o, none⟩, by simp [hc], Lib.hid ⟨hl, _, _, rfl, by omega, by omega, fun hp => by omega⟩⟩
    · exact ⟨⟨b, o + (i + 1) * 2, none⟩, by simp [hc], Lib.hid ⟨hl, _, _, rfl, by omega, by omega, fun hp => ⟨b, _, rfl, hbl, hnews⟩⟩⟩
  have Hown0 := Lib.hid (World.ownsRow_lit (base := w.heap.size) (e := 25) (size := 2) w.drew #[] 0 (Nat.le_refl _) (by unfold maxLen; omega) rfl)
  have hwr : IntKind.i64.wrap ((i : Int) + 1) = (i : Int) + 1 := IntWalk.i64_in _ (by omega)
  have hp0 : (0 : Int) ≤ (i : Int) + 1 := by omega
  have hp1 : (i : Int) + 1 ≤ (ks.length : Int) := by omega
  have hp2 : ((i : Int) + 1).toNat = i + 1 := by omega
  have hic : i ≤ cap := by omega
  have HL : Hid (ks.eraseIdx i = ks.take i ++ ks.drop (i + 1)) := Lib.hid (List.eraseIdx_eq_take_drop_succ _ _)
  unfold maxLen at hcm
  clear h hcell hnews
  go_enter Try.func49, Try.ntmps49
  go_wp2_with fail
  go_region_law (first
    | (refine step_append_at rfl (.tmp 5) (.tmp 8) 35 rfl w.heap.size 25 i0 _ 2 16 Try.underlying35 hi0 hz0 hz1 hz2 rfl (by decide) (.slice (some ⟨w.heap.size, 0, none⟩) 0 0) 0 [] (by simp [Act.eval, Act.put]) Hown0.out (.slice (some ⟨b, o, none⟩) i cap) i (cubes (ks.take i)) (by simp [Act.eval, Act.put]) hr1.out (cubes_one _) (by unfold maxLen; omega) (by omega) (by simp) ?_; intro v1 w1 hown1 hg1)
    | (refine step_append_at rfl (.tmp 9) (.tmp 13) 35 rfl w.heap.size 25 i0 _ 2 16 Try.underlying35 hi0 hz0 hz1 hz2 rfl (by decide) v1 (0 + i) ([] ++ cubes (ks.take i)) (by simp [Act.eval, Act.put]) hown1 (.slice (some A) (ks.length - (i + 1)) (cap - (i + 1))) (ks.length - (i + 1)) (cubes (ks.drop (i + 1))) (by simp [Act.eval, Act.put]) (hAn.out.below ((((Below.refl w.heap.size w).drew).alloc (Nat.le_refl _) _).grown hg1 (by simp) (by simp [Value.ownBlock]))) (cubes_one _) (by unfold maxLen; omega) (by omega) (by have := hg1.size; simp at this; omega) ?_; intro v2 w2 hown2 hg2))
  all_goals
    have Ho2 := Lib.hid hown2
    have hb1 := ((((Below.refl w.heap.size w).drew).alloc (Nat.le_refl _) (.cells #[] 25)).grown hg1 (by simp) (by simp [Value.ownBlock]))
    have Hb := Lib.hid (hb1.grown hg2 hb1.size (own_ge hown1))
    clear hown1 hown2 hg1 hg2 hb1
    go_wp2_with fail
    go_ret
    refine ⟨_, rfl, ?_, Hb.out⟩
    have := Ho2.out
    rw [List.nil_append, ← cubes_append, ← HL.out] at this
    have hlen : (ks.eraseIdx i).length = 0 + i + (ks.length - (i + 1)) := by rw [List.length_eraseIdx_of_lt hi]; omega
    rw [hlen]
    exact this
end Go.Proofs.Ytlpellciiiflkaa
