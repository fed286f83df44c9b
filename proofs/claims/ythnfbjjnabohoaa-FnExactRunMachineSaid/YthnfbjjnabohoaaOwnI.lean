import Derived.Test.YthnfbjjnabohoaaIntS
import Derived.Test.YthnfbjjnabohoaaStep
import Derived.Test.YthnfbjjnabohoaaPair
namespace Go.Proofs.Ythnfbjjnabohoaa
open Go.RowKit
set_option maxRecDepth 100000
/-! Slices of ints of the call's own; small lemmas. -/
theorem append_ints {w : World} {ops : Array Oper} {rest : List Oper} {o : Oper} {a : Act} {Q : Exit → Act → World → Prop} (hgd : o.guard = none) (s x : Operand)
    (ho : o.op = .call { callee := .builtin .append, args := #[s, x], argTypes := #[31, 31] })
    (base : Nat) (v : Value) (n : Nat) (xs : List Value) (hs : a.eval s = v) (hown : w.ownsRow base 3 1 v n xs) (sv : Value) (m : Nat) (news : List Value) (hx : a.eval x = sv) (hr : Row w 1 sv m news) (h1 : ∀ u ∈ news, u.oneCell' = true)
    (h63 : n + m ≤ 10000000) (hbase : base ≤ w.heap.size)
    (h : ∀ v' w', w'.ownsRow base 3 1 v' (n + m) (xs ++ news) → w.grownBy w' v.ownBlock → (v'.ownBlock = v.ownBlock ∨ v'.ownBlock = some w.heap.size) → wpList Try.prog ops Q rest (a.put o.dst v') w') : wpList Try.prog ops Q (o :: rest) a w := by
  obtain ⟨i, hi, hz0, hz1, hz2⟩ := info_parts info_int
  exact wpList_append_at hgd s x 31 ho base 3 i _ 1 8 Try.underlying31 hi hz0 hz1 hz2 rfl (by decide) v n xs hs hown sv m news hx hr h1 (by unfold maxLen; omega) (by omega) hbase h
theorem ints_one (xs : List Int) : ∀ u ∈ ints xs, u.oneCell' = true := by
  intro u hu
  obtain ⟨x, _, rfl⟩ := List.mem_map.1 hu
  rfl
theorem own_ge0 {w : World} {base n size : Nat} {e : TypeId} {v : Value} {xs : List Value} (h : w.ownsRow base e size v n xs) : ∀ k, v.ownBlock = some k → base ≤ k := fun k hk => (h.lt k hk).1
def OwnInts (xs : List Int) (w : World) (e : Ending) (w' : World) : Prop := ∃ v, e = .returned v ∧ w'.ownsRow w.heap.size 3 1 v xs.length (ints xs) ∧ Below w.heap.size w w'
def nats (xs : List Nat) : List Int := xs.map Int.ofNat
theorem nats_length (xs : List Nat) : (nats xs).length = xs.length := List.length_map _
def NatsAt (w : World) (v : Value) (xs : List Nat) : Prop := IntsAt w v (nats xs)
theorem nats_cell {w : World} {A : Option Addr} {n c : Nat} {xs : List Nat} (h : Row w 1 (.slice A n c) n (ints (nats xs))) (hn : n = xs.length) {i : Nat} (hi : i < xs.length) : ∃ b o x, A = some ⟨b, o, none⟩ ∧ b < w.heap.size ∧ Hid (xs[i]? = some x) ∧ w.cell? ⟨b, o + i, none⟩ = some (.int .i64 (x : Nat)) := by
  subst hn
  obtain ⟨b, o, c', hv, _, _, hbl, hcell⟩ := h.open (by omega)
  injection hv with hv1
  obtain ⟨x, hx⟩ := at_some hi
  exact ⟨b, o, x, hv1, hbl, Lib.hid hx, hcell i _ (by unfold ints nats; rw [List.getElem?_map, List.getElem?_map, hx]; rfl)⟩
def nints (xs : List Nat) : List Value := ints (nats xs)
theorem nints_length (xs : List Nat) : (nints xs).length = xs.length := by unfold nints; rw [ints_length, nats_length]
theorem nints_one (xs : List Nat) : ∀ u ∈ nints xs, u.oneCell' = true := ints_one _
theorem nints_rep (m : Nat) : nints (List.replicate m 0) = List.replicate m (Value.int .i64 0) := by
  unfold nints ints nats
  rw [List.map_replicate, List.map_replicate]
  rfl
theorem nats_own {w : World} {b n : Nat} {v : Value} {xs : List Nat} (h : w.ownsRow b 3 1 v n (nints xs)) (hn : xs.length = n) : NatsAt w v xs := by
  have := Row.of_own h
  unfold NatsAt IntsAt
  rw [nats_length, hn]
  exact this
theorem own_nil (w : World) (w' : World) (hb : Below w.heap.size w w') : OwnInts [] w (.returned (.slice none 0 0)) w' := ⟨_, rfl, World.ownsRow_nil _ _ _ _, hb⟩
theorem nints_append (a b : List Nat) : nints (a ++ b) = nints a ++ nints b := by unfold nints ints nats; rw [List.map_append, List.map_append]
theorem own_lit0 (w w' : World) (hb : Below w.heap.size w w') (t : TypeId) : OwnInts [] w (.returned (.slice (some ⟨w'.heap.size, 0, none⟩) 0 0)) (w'.alloc (.cells #[] 3)) :=
  ⟨_, rfl, World.ownsRow_lit (base := w.heap.size) (e := 3) (size := 1) w' #[] 0 hb.size (by unfold maxLen; omega) rfl, hb.alloc hb.size _⟩
theorem set_grown (w : World) (g i : Nat) (v : Value) : w.grownBy (w.setCell ⟨g, i, none⟩ v) (some g) :=
  ⟨rfl, rfl, rfl, by simp [World.setCell], fun k _ hk => heap_setCell_other w ⟨g, i, none⟩ k _ (fun e => hk (by simp [e]))⟩
theorem own_set {w : World} {base n size : Nat} {e : TypeId} {v : Value} {xs : List Value} {g i : Nat} {u : Value} (h : w.ownsRow base e size v n xs) (hg : g < base) : (w.setCell ⟨g, i, none⟩ u).ownsRow base e size v n xs :=
  own_kept h (set_grown w g i u) fun q hq e => by
    have h1 := (h.lt q hq).1
    have h2 := Option.some.inj e
    omega
theorem run_make_cap {P : Program} (t e : TypeId) (z : Value) (size bytes : Nat) (ht : P.underlying t = some (.slice e)) (hinfo : (P.info? e).map (fun i => (i.zero, i.size, i.bytes)) = some (some z, size, bytes))
    (kl kc : IntKind) (n : Nat) (hbytes : bytes * n ≤ 281474976710656) (h63 : n ≤ 9223372036854775807) (w : World) :
    (Instr.makeSlice t (.int kl 0) (.int kc (n : Int))).run P w = .ok (.slice (some ⟨w.heap.size, 0, none⟩) 0 n) (w.alloc (.cells (madeCells z.cells (n * size)) e)) := by
  obtain ⟨i, hi, hzz⟩ := Option.map_eq_some_iff.1 hinfo
  simp only [Prod.mk.injEq] at hzz
  obtain ⟨hz, hs, hb⟩ := hzz
  have hb' : (i.bytes : Int) * (n : Int) ≤ 281474976710656 := by
    have h : ((i.bytes * n : Nat) : Int) ≤ 281474976710656 := by rw [hb]; omega
    rwa [Int.natCast_mul] at h
  have hr := run_make (P := P) w t e i z ht hi hz kl kc 0 n (by omega) (by omega) hb' (by omega)
  simp only [Int.toNat_natCast, Int.toNat_zero, hs] at hr
  exact hr
theorem bel_new (w : World) (o : Obj) : Below w.heap.size w (w.alloc o) := (Below.refl _ _).alloc (Nat.le_refl _) o
theorem nats_row {w : World} {A : Option Addr} {c : Nat} {xs : List Nat} (h : NatsAt w (.slice A xs.length c) xs) : Row w 1 (.slice A xs.length c) xs.length (ints (nats xs)) := by
  have := h; unfold NatsAt IntsAt at this; rwa [nats_length] at this
theorem NatsAt.shape {w : World} {v : Value} {xs : List Nat} (h : NatsAt w v xs) : ∃ A c, v = .slice A xs.length c ∧ xs.length ≤ c ∧ c ≤ maxLen := by
  have := Row.shape h
  rwa [nats_length] at this
theorem NatsAt.below {w w' : World} {v : Value} {xs : List Nat} (h : NatsAt w v xs) (hb : Below w.heap.size w w') : NatsAt w' v xs := Row.below h hb
theorem slice_of_own {w : World} {B n size : Nat} {e : TypeId} {v : Value} {cs : List Value} (h : w.ownsRow B e size v n cs) : ∃ A c, v = .slice A n c := by
  obtain ⟨A, c, hv, -⟩ := (Row.of_own h).shape
  exact ⟨A, c, hv⟩
theorem heap_lt {w : World} {g : Nat} {o : Obj} (h : w.heap[g]? = some o) : g < w.heap.size := by
  rcases Nat.lt_or_ge g w.heap.size with hl | hl
  · exact hl
  · rw [Array.getElem?_eq_none hl] at h; cases h
theorem nints_snoc (l : List Nat) (n : Nat) : nints (l ++ [n]) = nints l ++ [.int .i64 (n : Int)] := by unfold nints ints nats; rw [List.map_append, List.map_append]; rfl
theorem own_nats {w : World} {B : Nat} {v : Value} {xs : List Nat} (h : w.ownsRow B 3 1 v xs.length (nints xs)) : NatsAt w v xs := nats_own h rfl
theorem ints_snoc (l : List Int) (n : Int) : ints (l ++ [n]) = ints l ++ [.int .i64 n] := by unfold ints; rw [List.map_append]; rfl
/-- An int of a slice, where it lies. -/
theorem ints_open {w wr : World} {A : Option Addr} {n c : Nat} {xs : List Int} (h : Row w 1 (.slice A n c) n (ints xs)) (hb : Below w.heap.size w wr) {i : Nat} (hn : n = xs.length) (hi : i < xs.length) :
    ∃ b o x, A = some ⟨b, o, none⟩ ∧ b < w.heap.size ∧ Hid (xs[i]? = some x) ∧ wr.cell? ⟨b, o + i, none⟩ = some (.int .i64 x) := by
  subst hn
  obtain ⟨b, o, c', hv, _, _, hbl, hcell⟩ := h.open (by omega)
  obtain ⟨rfl, _⟩ : A = some ⟨b, o, none⟩ ∧ True := by injection hv with e1; exact ⟨e1, trivial⟩
  obtain ⟨x, hx, hs⟩ := ints_at hi
  exact ⟨b, o, x, rfl, hbl, Lib.hid hx, (hb.cell (p := ⟨b, _, none⟩) hbl).trans (hcell _ _ hs)⟩
end Go.Proofs.Ythnfbjjnabohoaa
