import Derived.Test.YtopimdakpnnbhaaS05
import Derived.Test.YtopimdakpnnbhaaS08
import Derived.Test.YtopimdakpnnbhaaS02
import Derived.Test.YtopimdakpnnbhaaS01
set_option linter.unusedVariables false
set_option linter.unusedSimpArgs false
namespace Go.Proofs.Ytopimdakpnnbhaa
/-! Runs of machines, plainly. -/
namespace Mac
def stepN (m : Mz) (s : Nat) (x : Int) : Nat := ((m.next.getD s []).getD x.toNat 0).toNat
def stepO (m : Mz) (s : Nat) (x : Int) : Int := (m.out.getD s []).getD x.toNat 0
/-- The state behind some inputs, and the outputs. -/
def st (m : Mz) (ins : List Int) : Nat := ins.foldl (stepN m) 0
def outs (m : Mz) : Nat → List Int → List Int
  | _, [] => []
  | s, x :: xs => stepO m s x :: outs m (stepN m s x) xs
theorem outs_append (m : Mz) : ∀ (xs ys : List Int) (s : Nat), outs m s (xs ++ ys) = outs m s xs ++ outs m (xs.foldl (stepN m) s) ys
  | [], _, _ => rfl
  | x :: xs, ys, s => by rw [List.cons_append, outs, outs, outs_append m xs ys, List.foldl_cons, List.cons_append]
theorem outs_length (m : Mz) : ∀ (xs : List Int) (s : Nat), (outs m s xs).length = xs.length
  | [], _ => rfl
  | x :: xs, s => by rw [outs, List.length_cons, outs_length m xs, List.length_cons]
def inRange (m : Mz) (x : Int) : Bool := inOk ((2 ^ m.ins.toNat : Nat) : Int) x
def runOk (m : Mz) (ins : List Int) : Bool := valid m && decide (ins.length ≤ 40) && ins.all (inRange m)
def runI (m : Mz) (ins : List Int) : List Int := if runOk m ins then outs m 0 ins else []
theorem runI_length (m : Mz) (ins : List Int) : (runI m ins).length ≤ 40 := by
  unfold runI
  split
  · rename_i h
    unfold runOk at h
    simp at h
    rw [outs_length]
    exact h.1.2
  · simp
/-- What a valid machine's rows hold. -/
theorem valid_row {m : Mz} (h : valid m = true) {s : Nat} (hs : s < m.next.length) {x : Nat} (hx : x < 2 ^ m.ins.toNat) :
    ∃ r q y o, m.next[s]? = some r ∧ m.out[s]? = some q ∧ r.length = 2 ^ m.ins.toNat ∧ q.length = 2 ^ m.ins.toNat ∧ r[x]? = some ((y : Nat) : Int) ∧ y < m.next.length ∧ q[x]? = some o ∧ 0 ≤ o ∧ o < 8 ∧ stepN m s x = y ∧ stepO m s x = o := by
  unfold valid at h
  rw [Bool.and_eq_true, Bool.and_eq_true] at h
  obtain ⟨h0, h1, h2⟩ := h
  unfold sizes at h0
  rw [decide_eq_true_eq] at h0
  obtain ⟨_, _, _, _, h5⟩ := h0
  have hso : s < m.out.length := by omega
  have e1 : m.next[s]? = some m.next[s] := List.getElem?_eq_getElem hs
  have e2 : m.out[s]? = some m.out[s] := List.getElem?_eq_getElem hso
  have g1 := List.all_eq_true.1 h1 _ (List.getElem_mem hs)
  have g2 := List.all_eq_true.1 h2 _ (List.getElem_mem hso)
  generalize m.next[s] = r at e1 g1
  generalize m.out[s] = q at e2 g2
  unfold rowOk lenOk at g1 g2
  rw [Bool.and_eq_true, decide_eq_true_eq] at g1 g2
  have l1 : r.length = 2 ^ m.ins.toNat := by omega
  have l2 : q.length = 2 ^ m.ins.toNat := by omega
  have f1 : r[x]? = some (r[x]'(by omega)) := List.getElem?_eq_getElem _
  have f2 : q[x]? = some (q[x]'(by omega)) := List.getElem?_eq_getElem _
  have k1 := List.all_eq_true.1 g1.2 _ (List.getElem_mem (show x < r.length by omega))
  have k2 := List.all_eq_true.1 g2.2 _ (List.getElem_mem (show x < q.length by omega))
  generalize r[x]'(by omega) = y at f1 k1
  generalize q[x]'(by omega) = o at f2 k2
  unfold inOk at k1 k2
  rw [decide_eq_true_eq] at k1 k2
  obtain ⟨y', rfl⟩ := Int.eq_ofNat_of_zero_le k1.1
  refine ⟨r, q, y', o, e1, e2, l1, l2, f1, by omega, f2, k2.1, k2.2, ?_, ?_⟩
  · unfold stepN
    simp [List.getD_eq_getElem?_getD, e1, f1]
  · unfold stepO
    simp [List.getD_eq_getElem?_getD, e2, f2]
theorem st_snoc {m : Mz} {ins : List Int} {k : Nat} {x : Int} (h : ins[k]? = some x) : st m (ins.take (k + 1)) = stepN m (st m (ins.take k)) x := by
  unfold st
  rw [List.take_add_one, h, List.foldl_append]
  rfl
theorem outs_snoc {m : Mz} {ins : List Int} {k : Nat} {x : Int} (h : ins[k]? = some x) : outs m 0 (ins.take (k + 1)) = outs m 0 (ins.take k) ++ [stepO m (st m (ins.take k)) x] := by
  rw [List.take_add_one, h, outs_append]
  rfl
theorem inRange_nat {m : Mz} {x : Int} (h : inRange m x = true) : ∃ n : Nat, x = n ∧ n < 2 ^ m.ins.toNat := by
  unfold inRange inOk at h
  rw [decide_eq_true_eq] at h
  obtain ⟨n, rfl⟩ := Int.eq_ofNat_of_zero_le h.1
  exact ⟨n, rfl, by omega⟩
end Mac
end Go.Proofs.Ytopimdakpnnbhaa

namespace Go.Proofs.Ytopimdakpnnbhaa
namespace Cir
/-! The machine of a circuit runs as the circuit does, plainly. -/
def outN (c : Ci) : Nat → List Nat → List Nat
  | _, [] => []
  | s, x :: xs => num (outsOf c s x) :: outN c (nextOf c s x) xs
theorem outN_length (c : Ci) : ∀ (xs : List Nat) (s : Nat), (outN c s xs).length = xs.length
  | [], _ => rfl
  | x :: xs, s => by rw [outN, List.length_cons, outN_length c xs, List.length_cons]
theorem outN_get (c : Ci) : ∀ (xs : List Nat) (s i : Nat), (outN c s xs)[i]? = (xs[i]?).map fun x => num (outsOf c (runN c s (xs.take i)) x)
  | [], _, i => by simp [outN]
  | x :: xs, s, 0 => rfl
  | x :: xs, s, i + 1 => by
    rw [outN, List.getElem?_cons_succ, outN_get c xs, List.getElem?_cons_succ, List.take_succ_cons]
    rfl
theorem sim_out {c : Ci} {s : Nat} {xs : List Nat} {i : Nat} (hi : i < xs.length) : ∃ row, (simL c (bits s c.next.length) (rowsN c.ins xs))[i]? = some row ∧ (outN c s xs)[i]? = some (num row) ∧ row.length = c.outs.length := by
  have hx := List.getElem?_eq_getElem hi
  exact ⟨outsOf c (runN c s (xs.take i)) xs[i], by rw [simL_rows, hx]; rfl, by rw [outN_get, hx]; rfl, lits_len _ _⟩
theorem range_get {n x : Nat} (hx : x < n) (f : Nat → Nat) : ((List.range n).map f)[x]? = some (f x) := by
  rw [List.getElem?_map, List.getElem?_range hx]; rfl
theorem machN_step {c : Ci} (hc : Ok c) {k s x : Nat} (hs : (reach c)[k]? = some s) (hx : x < 2 ^ c.ins) : Mac.stepO (machN c) k (x : Nat) = (num (outsOf c s x) : Nat) ∧ (reach c)[Mac.stepN (machN c) k (x : Nat)]? = some (nextOf c s x) := by
  constructor
  · unfold Mac.stepO machN rowO nats
    simp only [List.getD_eq_getElem?_getD, List.getElem?_map, hs, Option.map_some, Option.getD_some, Int.toNat_natCast, List.getElem?_range hx]
    rfl
  · obtain ⟨i, h1, h2, -⟩ := idxOf_mem (reach_closed hc (List.mem_of_getElem? hs) hx)
    have : Mac.stepN (machN c) k (x : Nat) = i := by
      unfold Mac.stepN machN rowI rowN
      simp only [List.getD_eq_getElem?_getD, List.getElem?_map, hs, Option.map_some, Option.getD_some, Int.toNat_natCast, List.getElem?_range hx, h1]
    rw [this, h2]
theorem mach_outs {c : Ci} (hc : Ok c) : ∀ (xs : List Nat) (s k : Nat), Inputs c xs → (reach c)[k]? = some s → Mac.outs (machN c) k (nats xs) = nats (outN c s xs)
  | [], _, _, _, _ => rfl
  | x :: xs, s, k, hp, hk => by
    obtain ⟨h1, h2⟩ := machN_step hc hk (hp x (by simp))
    show Mac.stepO (machN c) k (x : Nat) :: Mac.outs (machN c) (Mac.stepN (machN c) k (x : Nat)) (nats xs) = _
    rw [h1, mach_outs hc xs _ _ (fun y hy => hp y (List.mem_cons_of_mem _ hy)) h2]
    rfl
theorem reach_pos (c : Ci) : 0 < (reach c).length := (List.getElem?_eq_some_iff.1 (bfs_get (c := c) 9 0 (l := [0]) (i := 0) rfl)).1
theorem reach_first (c : Ci) : (reach c)[0]? = some 0 := bfs_get (c := c) 9 0 (l := [0]) (i := 0) rfl
theorem machN_valid {c : Ci} (hc : Ok c) : Mac.valid (machN c) = true := by
  have h8 := (reach_sts c).len hc
  have h0 := reach_pos c
  have hi := hc.ins
  have ho : 2 ^ c.outs.length ≤ 2 ^ 3 := Nat.pow_le_pow_right (show 0 < 2 by decide) hc.outss
  unfold Mac.valid
  rw [Bool.and_eq_true, Bool.and_eq_true]
  refine ⟨?_, List.all_eq_true.2 fun r hr => ?_, List.all_eq_true.2 fun r hr => ?_⟩
  · show decide (0 ≤ (c.ins : Int) ∧ (c.ins : Int) ≤ 4 ∧ 1 ≤ ((reach c).map (rowI c)).length ∧ ((reach c).map (rowI c)).length ≤ 8 ∧ ((reach c).map fun s => nats (rowO c s)).length = ((reach c).map (rowI c)).length) = true
    rw [decide_eq_true_iff, List.length_map, List.length_map]
    exact ⟨by omega, by omega, by omega, by omega, rfl⟩
  · obtain ⟨s, hs, rfl⟩ := List.mem_map.1 (show r ∈ (reach c).map (rowI c) from hr)
    unfold Mac.rowOk Mac.lenOk
    rw [Bool.and_eq_true, decide_eq_true_iff]
    refine ⟨by unfold rowI rowN machN; simp, List.all_eq_true.2 fun y hy => ?_⟩
    unfold rowI rowN at hy
    rw [List.map_map] at hy
    obtain ⟨x, hx, rfl⟩ := List.mem_map.1 hy
    obtain ⟨i, h1, h2, -⟩ := idxOf_mem (reach_closed hc hs (List.mem_range.1 hx))
    have := (List.getElem?_eq_some_iff.1 h2).1
    unfold Mac.inOk machN
    rw [decide_eq_true_iff]
    simp only [Function.comp_apply, h1, List.length_map]
    omega
  · obtain ⟨s, hs, rfl⟩ := List.mem_map.1 (show r ∈ (reach c).map (fun s => nats (rowO c s)) from hr)
    unfold Mac.rowOk Mac.lenOk
    rw [Bool.and_eq_true, decide_eq_true_iff]
    refine ⟨by unfold rowO nats machN; simp, List.all_eq_true.2 fun y hy => ?_⟩
    unfold rowO nats at hy
    rw [List.map_map] at hy
    obtain ⟨x, hx, rfl⟩ := List.mem_map.1 hy
    have hl := num_lt (outsOf c s x)
    rw [show (outsOf c s x).length = c.outs.length from lits_len _ _] at hl
    unfold Mac.inOk
    rw [decide_eq_true_iff]
    simp only [Function.comp_apply, Int.ofNat_eq_natCast]
    omega
theorem mach_run {c : Ci} (hc : Ok c) {xs : List Nat} (hp : Inputs c xs) (hl : xs.length ≤ 40) : Mac.runI (machN c) (nats xs) = nats (outN c 0 xs) := by
  have hok : Mac.runOk (machN c) (nats xs) = true := by
    unfold Mac.runOk
    rw [machN_valid hc, decide_eq_true (by unfold nats; rw [List.length_map]; omega), Bool.true_and, Bool.true_and, List.all_eq_true]
    intro y hy
    unfold nats at hy
    obtain ⟨x, hx, rfl⟩ := List.mem_map.1 hy
    have := hp x hx
    unfold Mac.inRange Mac.inOk machN
    rw [decide_eq_true_iff]
    simp only [Int.toNat_natCast, Int.ofNat_eq_natCast]
    omega
  unfold Mac.runI
  rw [hok, if_pos rfl]
  exact mach_outs hc xs 0 0 hp (reach_first c)
theorem machN_len (c : Ci) : (machN c).next.length = (reach c).length := by unfold machN; simp
end Cir
end Go.Proofs.Ytopimdakpnnbhaa

namespace Go.Proofs.Ytopimdakpnnbhaa
open Go.RowKit
set_option maxRecDepth 100000
/-! What laws do with slices of slices of ints. -/
end Go.Proofs.Ytopimdakpnnbhaa

namespace Go.Proofs.Ytopimdakpnnbhaa
open Go.RowKit
set_option maxRecDepth 100000
def SzMach (m : Mz) (w : World) (e : Ending) (w' : World) : Prop :=
  ∃ r : Int, e = .returned (.int .i64 r) ∧ (r = -1 ∨ (0 ≤ r ∧ r ≤ 1048576 ∧ m.next.length + total m.next + m.out.length + total m.out ≤ 1048576)) ∧ Below w.heap.size w w'
/-- What toMachine makes. -/
def OwnMach (B T : Nat) (v : Value) (m : Mz) (w : World) : Prop :=
  ∃ vn vo M, v = .agg #[.int .i64 m.ins, vn, vo] ∧ B ≤ M ∧ M ≤ T ∧ OwnIntSS B M w vn m.next ∧ OwnIntSS M T w vo m.out
theorem OwnMach.at {B T : Nat} {v : Value} {m : Mz} {w : World} (h : OwnMach B T v m w) : MachAt w v m := by
  obtain ⟨vn, vo, M, hv, _, _, h1, h2⟩ := h
  exact ⟨vn, vo, hv, OwnSS.at h1, OwnSS.at h2⟩
theorem OwnMach.below {B T : Nat} {v : Value} {m : Mz} {w w' : World} (h : OwnMach B T v m w) (hb : Below w.heap.size w w') : OwnMach B T v m w' := by
  obtain ⟨vn, vo, M, hv, e1, e2, h1, h2⟩ := h
  exact ⟨vn, vo, M, hv, e1, e2, OwnSS.below h1 hb, OwnSS.below h2 hb⟩
def ToMach (m : Mz) (w : World) (e : Ending) (w' : World) : Prop := ∃ v, e = .returned v ∧ OwnMach w.heap.size w'.heap.size v m w' ∧ Below w.heap.size w w'
theorem OwnMach.e {B T : Nat} {v : Value} {m : Mz} {w : World} (h : OwnMach B T v m w) : OwnMachE B T v m w := by
  obtain ⟨vn, vo, M, hv, e1, e2, h1, h2⟩ := h
  exact ⟨vn, vo, _, _, hv, fun g h => by have := h.2; omega, fun g h => by have := h.2; omega, fun g h h' => by have := h.2; have := h'.1; omega, OwnSS.se h1, OwnSE.mono (OwnSS.se h2) e1 (fun g h => h)⟩
end Go.Proofs.Ytopimdakpnnbhaa

namespace Go.Proofs.Ytopimdakpnnbhaa
open Go.RowKit
set_option maxRecDepth 100000
/-! MachineValid, both. -/
theorem ints_row {w : World} {B : Option Addr} {n m : Nat} {x : List Int} (h : Row w 1 (.slice B n m) n (ints x)) (hn : n = x.length) {i : Nat} {y : Int} (hy : x[i]? = some y) : ∃ b o, B = some ⟨b, o, none⟩ ∧ b < w.heap.size ∧ w.cell? ⟨b, o + i, none⟩ = some (.int .i64 y) := by
  subst hn
  obtain ⟨hi, _⟩ := List.getElem?_eq_some_iff.1 hy
  obtain ⟨b, o, c', hv, _, _, hbl, hcell⟩ := h.open (by omega)
  injection hv with hv1
  exact ⟨b, o, hv1, hbl, hcell i _ (by unfold ints; rw [List.getElem?_map, hy]; rfl)⟩
set_option maxHeartbeats 4000000 in
theorem rowsWithin_any (v : Value) (xss : List (List Int)) (N L : Nat) (w : World) (h : SSAt ints w v xss) (hN : N ≤ 4) (hL : L ≤ 8) :
    Calls Try.prog 73 #[v, .int .i64 N, .int .i64 L] w fun e w' => e = .returned (.bool (xss.all (Mac.rowOk N L))) ∧ w = w' := by
  obtain ⟨A, c, hv, hc, hcm⟩ := h.shape
  subst hv
  unfold maxLen at hcm
  have H := Lib.hid h
  obtain ⟨M, e, hM⟩ : ∃ M : Nat, (2 : Int) ^ N = (M : Int) ∧ M = 2 ^ N := ⟨2 ^ N, two_pow N, rfl⟩
  have hM16 : M ≤ 16 := by rw [hM]; exact Nat.pow_le_pow_right (show 0 < 2 by decide) hN
  have hwM := IntWalk.i64_in (M : Int) (by omega)
  have HLen : Hid (∀ r : List Int, Mac.rowOk N L r = (decide ((r.length : Int) = (M : Int)) && r.all (Mac.inOk L))) := Lib.hid fun r => by
    unfold Mac.rowOk Mac.lenOk
    rw [Int.toNat_natCast, ← hM]
  have h0 : Hid (xss.all (Mac.rowOk N L) = (xss.drop 0).all (Mac.rowOk N L)) := Lib.hid rfl
  generalize xss.all (Mac.rowOk N L) = res at h0 ⊢
  clear h hM
  go_enter Try.func73, Try.ntmps73
  go_wp2_with fail
  go_loop [13] (fun i => ∃ k : Nat, k ≤ xss.length ∧ i = .int .i64 k ∧ Hid (res = (xss.drop k).all (Mac.rowOk N L))) (fun i => xss.length - (intOf i).toNat)
  case atStart => exact ⟨0, Nat.zero_le _, rfl, h0⟩
  case round =>
    obtain ⟨k, hk, rfl, hres⟩ := hrel
    clear h0
    by_cases hlt : k < xss.length
    · obtain ⟨x, hx⟩ := at_some hlt
      obtain ⟨b, o, Bx, m, rfl, hbl, hc1, hm1, hm2, hr⟩ := ss_open H.out (Below.refl _ _) hx
      have Hr := Lib.hid hr
      have Hstep := Lib.hid (Mac.all_dropG (p := Mac.rowOk N L) hx)
      unfold maxLen at hm2
      clear hr hx
      by_cases hle : (x.length : Int) = (M : Int)
      · have hle2 : ((x.length : Int) != (M : Int)) = false := by rw [hle]; simp
        have Hn : Hid (res = ((x.drop 0).all (Mac.inOk L) && (xss.drop (k + 1)).all (Mac.rowOk N L))) := Lib.hid (by rw [hres.out, Hstep.out, HLen.out x, decide_eq_true hle]; rfl)
        clear hle
        go_wp2_with fail
        go_loop [24] (fun i => ∃ j : Nat, j ≤ x.length ∧ i = .int .i64 j ∧ Hid (res = ((x.drop j).all (Mac.inOk L) && (xss.drop (k + 1)).all (Mac.rowOk N L)))) (fun i => x.length - (intOf i).toNat)
        case atStart => exact ⟨0, Nat.zero_le _, rfl, Hn⟩
        case round =>
          obtain ⟨j, hj, rfl, hres2⟩ := hrel
          clear Hn
          by_cases hlj : j < x.length
          · obtain ⟨y, hy⟩ := at_some hlj
            obtain ⟨b2, o2, rfl, hbl2, hc2⟩ := ints_row Hr.out rfl hy
            have Hs2 := Lib.hid (Mac.all_dropG (p := Mac.inOk L) hy)
            clear hy
            by_cases hy0 : y < 0
            · obtain rfl : res = false := by rw [hres2.out, Hs2.out, show Mac.inOk L y = false from decide_eq_false (by omega)]; rfl
              go_wp2_with fail
              go_ret
              exact ⟨rfl, rfl⟩
            · by_cases hyL : (L : Int) ≤ y
              · obtain rfl : res = false := by rw [hres2.out, Hs2.out, show Mac.inOk L y = false from decide_eq_false (by omega)]; rfl
                go_wp2_with fail
                go_ret
                exact ⟨rfl, rfl⟩
              · have Hn3 : Hid (res = ((x.drop (j + 1)).all (Mac.inOk L) && (xss.drop (k + 1)).all (Mac.rowOk N L))) := Lib.hid (by rw [hres2.out, Hs2.out, show Mac.inOk L y = true from decide_eq_true (by omega)]; rfl)
                go_wp2_with fail
                go_round
                case rel => exact ⟨j + 1, by omega, by go_num, Hn3⟩
                case measure => simp [intOf] <;> omega
          · have Hn3 : Hid (res = (xss.drop (k + 1)).all (Mac.rowOk N L)) := Lib.hid (by rw [hres2.out, List.drop_eq_nil_of_le (by omega : x.length ≤ j)]; rfl)
            go_wp2_with fail
            go_round
            case rel => exact ⟨k + 1, by omega, by go_num, Hn3⟩
            case measure => simp [intOf] <;> omega
      · have hle2 : ((x.length : Int) != (M : Int)) = true := by simp; omega
        obtain rfl : res = false := by rw [hres.out, Hstep.out, HLen.out x, decide_eq_false hle]; rfl
        go_wp2_with fail
        go_ret
        exact ⟨rfl, rfl⟩
    · obtain rfl : res = true := by rw [hres.out, List.drop_eq_nil_of_le (by omega : xss.length ≤ k)]; rfl
      go_wp2_with fail
      go_ret
      exact ⟨rfl, rfl⟩
theorem mach_sizes {m : Mz} (h : Mac.sizes m = true) : 0 ≤ m.ins ∧ m.ins ≤ 4 ∧ 1 ≤ m.next.length ∧ m.next.length ≤ 8 ∧ m.out.length = m.next.length := by
  unfold Mac.sizes at h
  simpa using h
set_option maxHeartbeats 4000000 in
theorem implMValid_any (v : Value) (m : Mz) (w : World) (h : MachAt w v m) :
    Calls Try.prog 24 #[v] w fun e w' => e = .returned (.bool (Mac.valid m)) ∧ Below w.heap.size w w' := by
  obtain ⟨An, cn, Ao, co, rfl, lcn, lco, lcn2, lco2⟩ := h.shape
  obtain ⟨vn, vo, hv, r1, r2⟩ := h
  simp only [Value.agg.injEq, Array.mk.injEq, List.cons.injEq, and_true, true_and] at hv
  obtain ⟨rfl, rfl⟩ := hv
  unfold maxLen at lcn lco
  have B0 := Lib.hid (bel_alloc w (.cells #[.int .i64 m.ins, .slice An m.next.length cn, .slice Ao m.out.length co] 39))
  obtain ⟨z, p0, p1, p2⟩ := MCells.boxed w m.ins (.slice An m.next.length cn) (.slice Ao m.out.length co) 39
  have R1 := Lib.hid (r1.below B0.out)
  have R2 := Lib.hid (r2.below B0.out)
  generalize hW : w.alloc (.cells #[.int .i64 m.ins, .slice An m.next.length cn, .slice Ao m.out.length co] 39) = W at *
  clear r1 r2
  cases hs : Mac.sizes m
  · have hv : Mac.valid m = false := by unfold Mac.valid; rw [hs]; rfl
    rw [hv]
    rcases Mac.sizes_cases hs with g | ⟨g0, g1⟩ | ⟨g0, g1, g2⟩ | ⟨g0, g1, g2, g3⟩ | ⟨g0, g1, g2, g3, g4⟩
    case inr.inr.inr.inr =>
      have g5 : ((m.out.length : Int) != m.next.length) = true := by simpa using g4
      clear hs hv g4
      go_enter Try.func24, Try.ntmps24
      go_wp2_with fail
      go_ret
      exact ⟨rfl, B0.out⟩
    all_goals
      clear hs hv
      go_enter Try.func24, Try.ntmps24
      go_wp2_with fail
      go_ret
      exact ⟨rfl, B0.out⟩
  · obtain ⟨s1, s2, s3, s4, s5⟩ := mach_sizes hs
    have hv : Mac.valid m = (m.next.all (Mac.rowOk m.ins m.next.length) && m.out.all (Mac.rowOk m.ins 8)) := by unfold Mac.valid; rw [hs]; rfl
    rw [hv]
    obtain ⟨N, hN⟩ := Int.eq_ofNat_of_zero_le s1
    have hN4 : N ≤ 4 := by omega
    have C1 : Hid (∀ w, SSAt ints w (.slice An m.next.length cn) m.next → Calls Try.prog 73 #[.slice An m.next.length cn, .int .i64 m.ins, .int .i64 m.next.length] w fun e w' => e = .returned (.bool (m.next.all (Mac.rowOk m.ins m.next.length))) ∧ w = w') := Lib.hid fun w h => by rw [hN]; exact rowsWithin_any _ _ N _ w h hN4 s4
    have C2 : Hid (∀ w, SSAt ints w (.slice Ao m.out.length co) m.out → Calls Try.prog 73 #[.slice Ao m.out.length co, .int .i64 m.ins, .int .i64 8] w fun e w' => e = .returned (.bool (m.out.all (Mac.rowOk m.ins 8))) ∧ w = w') := Lib.hid fun w h => by rw [hN]; exact rowsWithin_any _ _ N 8 w h hN4 (Nat.le_refl _)
    have g5 : ((m.out.length : Int) != m.next.length) = false := by simp; omega
    have t1 : ¬ (m.ins < 0) := by omega
    have t2 : ¬ (4 < m.ins) := by omega
    have t3 : ¬ ((m.next.length : Int) < 1) := by omega
    have t4 : ¬ (8 < (m.next.length : Int)) := by omega
    have S5 := Lib.hid s5
    generalize m.next.all (Mac.rowOk m.ins m.next.length) = a1 at *
    generalize m.out.all (Mac.rowOk m.ins 8) = a2 at *
    clear hs hv hN s5 s1 s2 s3 s4
    cases a1
    · go_enter Try.func24, Try.ntmps24
      go_wp2_with fail
      refine (C1.out _ R1.out).mono ?_
      rintro e w' ⟨rfl, rfl⟩
      go_wp2_with fail
      go_ret
      exact ⟨rfl, B0.out⟩
    · go_enter Try.func24, Try.ntmps24
      go_wp2_with fail
      refine (C1.out _ R1.out).mono ?_
      rintro e w' ⟨rfl, rfl⟩
      go_wp2_with fail
      refine (C2.out _ R2.out).mono ?_
      rintro e w' ⟨rfl, rfl⟩
      go_wp2_with fail
      go_ret
      exact ⟨rfl, B0.out⟩
end Go.Proofs.Ytopimdakpnnbhaa

namespace Go.Proofs.Ytopimdakpnnbhaa
open Go.RowKit
set_option maxRecDepth 100000
theorem in_le (n x : Int) : decide (0 ≤ x ∧ x ≤ n - 1) = Mac.inOk n x := by
  unfold Mac.inOk
  exact decide_eq_decide.2 ⟨fun h => by omega, fun h => by omega⟩
theorem in_le8 (x : Int) : decide (0 ≤ x ∧ x ≤ 7) = Mac.inOk 8 x := in_le 8 x
set_option maxHeartbeats 8000000 in
theorem specMValid_any (v : Value) (m : Mz) (w : World) (h : MachAt w v m) :
    Calls Try.prog 25 #[v] w fun e w' => e = .returned (.bool (Mac.valid m)) ∧ Below w.heap.size w w' := by
  obtain ⟨An, cn, Ao, co, rfl, lcn, lco, lcn2, lco2⟩ := h.shape
  obtain ⟨vn, vo, hv, r1, r2⟩ := h
  simp only [Value.agg.injEq, Array.mk.injEq, List.cons.injEq, and_true, true_and] at hv
  obtain ⟨rfl, rfl⟩ := hv
  unfold maxLen at lcn lco
  have B0 := Lib.hid (bel_alloc w (.cells #[.int .i64 m.ins, .slice An m.next.length cn, .slice Ao m.out.length co] 39))
  have PC := Lib.hid (MCells.boxed w m.ins (.slice An m.next.length cn) (.slice Ao m.out.length co) 39)
  obtain ⟨z, p0, p1, p2⟩ := PC.out
  have R1 := Lib.hid (r1.below B0.out)
  have R2 := Lib.hid (r2.below B0.out)
  generalize hW : w.alloc (.cells #[.int .i64 m.ins, .slice An m.next.length cn, .slice Ao m.out.length co] 39) = W at *
  clear r1 r2
  cases hs : Mac.sizes m
  · have hv : Mac.valid m = false := by unfold Mac.valid; rw [hs]; rfl
    rw [hv]
    have hsc : (decide (0 ≤ m.ins ∧ m.ins ≤ 4) = false) ∨ (decide (0 ≤ m.ins ∧ m.ins ≤ 4) = true ∧ decide ((1 : Int) ≤ m.next.length ∧ (m.next.length : Int) ≤ 8) = false) ∨ (decide (0 ≤ m.ins ∧ m.ins ≤ 4) = true ∧ decide ((1 : Int) ≤ m.next.length ∧ (m.next.length : Int) ≤ 8) = true ∧ ((m.out.length : Int) != m.next.length) = true) := by
      rcases Mac.sizes_cases hs with g | ⟨g0, g1⟩ | ⟨g0, g1, g2⟩ | ⟨g0, g1, g2, g3⟩ | ⟨g0, g1, g2, g3, g4⟩
      · exact .inl (decide_eq_false (by omega))
      · exact .inl (decide_eq_false (by omega))
      · exact .inr (.inl ⟨decide_eq_true ⟨g0, g1⟩, decide_eq_false (by omega)⟩)
      · exact .inr (.inl ⟨decide_eq_true ⟨g0, g1⟩, decide_eq_false (by omega)⟩)
      · exact .inr (.inr ⟨decide_eq_true ⟨g0, g1⟩, decide_eq_true ⟨g2, g3⟩, by simpa using g4⟩)
    clear hs hv
    rcases hsc with h1 | ⟨h1, h2⟩ | ⟨h1, h2, h3⟩
    · have H1 := Lib.hid h1
      clear h1
      go_enter Try.func25, Try.ntmps25
      go_wp2_with fail
      refine (l1In_any _ _ _ _).mono ?_
      rintro e w' ⟨rfl, rfl⟩
      rw [H1.out]
      go_wp2_with fail
      go_ret
      exact ⟨rfl, B0.out⟩
    · have H1 := Lib.hid h1
      have H2 := Lib.hid h2
      clear h1 h2
      go_enter Try.func25, Try.ntmps25
      go_wp2_with fail
      refine (l1In_any _ _ _ _).mono ?_
      rintro e w' ⟨rfl, rfl⟩
      rw [H1.out]
      go_wp2_with fail
      refine (l1In_any _ _ _ _).mono ?_
      rintro e w' ⟨rfl, rfl⟩
      rw [H2.out]
      go_wp2_with fail
      go_ret
      exact ⟨rfl, B0.out⟩
    · have H1 := Lib.hid h1
      have H2 := Lib.hid h2
      clear h1 h2
      go_enter Try.func25, Try.ntmps25
      go_wp2_with fail
      refine (l1In_any _ _ _ _).mono ?_
      rintro e w' ⟨rfl, rfl⟩
      rw [H1.out]
      go_wp2_with fail
      refine (l1In_any _ _ _ _).mono ?_
      rintro e w' ⟨rfl, rfl⟩
      rw [H2.out]
      go_wp2_with fail
      go_ret
      exact ⟨rfl, B0.out⟩
  · obtain ⟨s1, s2, s3, s4, s5⟩ := mach_sizes hs
    have hv : Mac.valid m = ((m.next.zip m.out).drop 0).all (Mac.pairOk m.ins m.next.length) := by rw [Mac.valid_zip, hs]; rfl
    have H0 := Lib.hid hv
    have H1 : Hid (decide (0 ≤ m.ins ∧ m.ins ≤ 4) = true) := Lib.hid (decide_eq_true ⟨s1, s2⟩)
    have H2 : Hid (decide ((1 : Int) ≤ m.next.length ∧ (m.next.length : Int) ≤ 8) = true) := Lib.hid (decide_eq_true ⟨by omega, by omega⟩)
    have g5 : ((m.out.length : Int) != m.next.length) = false := by simp; omega
    have S5 := Lib.hid s5
    generalize Mac.valid m = res at *
    obtain ⟨N, hN⟩ := Int.eq_ofNat_of_zero_le s1
    have hN4 : N ≤ 4 := by omega
    obtain ⟨M, e, hM⟩ : ∃ M : Nat, (2 : Int) ^ N = (M : Int) ∧ M = 2 ^ N := ⟨2 ^ N, two_pow N, rfl⟩
    have hM16 : M ≤ 16 := by rw [hM]; exact Nat.pow_le_pow_right (show 0 < 2 by decide) hN4
    have hwM := IntWalk.i64_in (M : Int) (by omega)
    have HLen : Hid (∀ p : List Int × List Int, Mac.pairOk m.ins m.next.length p = (decide ((p.1.length : Int) = (M : Int)) && decide ((p.2.length : Int) = (M : Int)) && (p.1.zip p.2).all (Mac.entOk m.next.length))) := Lib.hid fun p => by
      unfold Mac.pairOk Mac.lenOk
      rw [hN, Int.toNat_natCast, ← hM]
    have HI1 := Lib.hid fun x : Int => in_le (m.next.length : Int) x
    have HI2 := Lib.hid in_le8
    rw [hN] at p0 PC H1 hW
    rw [hN]
    clear hs hv hM s5 s1 s2 hN
    go_enter Try.func25, Try.ntmps25
    go_wp2_with fail
    refine (l1In_any _ _ _ _).mono ?_
    rintro e w' ⟨rfl, rfl⟩
    rw [H1.out]
    go_wp2_with fail
    refine (l1In_any _ _ _ _).mono ?_
    rintro e w' ⟨rfl, rfl⟩
    rw [H2.out]
    go_wp2_with fail
    clear hW
    go_loopw [4] (fun i wr => ∃ k : Nat, k ≤ m.next.length ∧ i = .int .i64 k ∧ Hid (res = ((m.next.zip m.out).drop k).all (Mac.pairOk m.ins m.next.length)) ∧ Below W.heap.size W wr) (fun i _ => m.next.length - (intOf i).toNat)
    case atStart => exact ⟨0, Nat.zero_le _, rfl, H0, Below.refl _ _⟩
    case round =>
      obtain ⟨k, hk, rfl, hres, hb⟩ := hrel
      clear H0 p0 p1 p2
      by_cases hlt : k < m.next.length
      · obtain ⟨x, hx⟩ := at_some hlt
        obtain ⟨y, hy⟩ := at_some (show k < m.out.length by rw [S5.out]; exact hlt)
        have hko : k < m.out.length := by rw [S5.out]; exact hlt
        obtain ⟨b, o, Bx, mx, rfl, hbl, hc1, hm1, hm2, hr⟩ := ss_open R1.out hb hx
        obtain ⟨b', o', By, my, rfl, hbl', hc1', hm1', hm2', hr'⟩ := ss_open R2.out hb hy
        have Hr := Lib.hid hr
        have Hr' := Lib.hid hr'
        have Hstep := Lib.hid (Mac.all_dropG (p := Mac.pairOk m.ins m.next.length) (Mac.zip_get hx hy))
        obtain ⟨zr, p0, p1, p2⟩ := PC.out.below hb
        have g0 := gw_cell p0 zr
        have g1 := gw_cell p1 zr
        have g2 := gw_cell p2 zr
        have g3 := gw_cell hc1 (show b < wr.heap.size by have := hb.size; omega)
        have g4 := gw_cell hc1' (show b' < wr.heap.size by have := hb.size; omega)
        have Hb := Lib.hid hb
        have hz := hb.size
        unfold maxLen at hm2 hm2'
        have hko2 : k < co := by omega
        have hkn2 : k < cn := by omega
        clear hr hr' hx hy hb p0 p1 p2 hc1 hc1'
        by_cases hle : (x.length : Int) = (M : Int)
        · by_cases hle' : (y.length : Int) = (M : Int)
          · have hx2 : ((x.length : Int) != (M : Int)) = false := by rw [hle]; simp
            have hy2 : ((y.length : Int) != (M : Int)) = false := by rw [hle']; simp
            have Hn : Hid (res = (((x.zip y).drop 0).all (Mac.entOk m.next.length) && ((m.next.zip m.out).drop (k + 1)).all (Mac.pairOk m.ins m.next.length))) := Lib.hid (by rw [hres.out, Hstep.out, HLen.out (x, y), decide_eq_true hle, decide_eq_true hle']; rfl)
            have HMx : Hid (x.length = M) := Lib.hid (by omega)
            have HMy : Hid (y.length = M) := Lib.hid (by omega)
            clear hle hle'
            go_wp2_with fail
            refine wp_region_grow (by kernel_rfl) (by kernel_rfl) ?_
            repeat (go_big_quiet_step ((fail)))
            refine wpQuiet_nil ?_
            intro _ hw'
            obtain ⟨nq, hw''⟩ := hw'
            subst hw''
            have hgq := gw_below nq
            generalize gw nq = wq at *
            clear nq
            obtain ⟨W1, hW1⟩ : ∃ W1, W1 = wq := ⟨_, rfl⟩
            subst hW1
            have Hb1 := Lib.hid (Hb.out.trans (hgq.mono hz))
            have Hrq := Lib.hid (Hr.out.below hgq)
            have Hrq' := Lib.hid (Hr'.out.below hgq)
            obtain ⟨-, p0, p1, p2⟩ := PC.out.below Hb1.out
            have q3 := (hgq.cell (p := ⟨b, o + k, none⟩) (show b < wr.heap.size by omega)).trans (g3 ⟨wr, Below.refl _ _⟩)
            have q4 := (hgq.cell (p := ⟨b', o' + k, none⟩) (show b' < wr.heap.size by omega)).trans (g4 ⟨wr, Below.refl _ _⟩)
            clear hgq g0 g1 g2 g3 g4
            go_wp2_with fail
            go_loop [5] (fun i => ∃ j : Nat, j ≤ M ∧ i = .int .i64 j ∧ Hid (res = (((x.zip y).drop j).all (Mac.entOk m.next.length) && ((m.next.zip m.out).drop (k + 1)).all (Mac.pairOk m.ins m.next.length)))) (fun i => M - (intOf i).toNat)
            case atStart => exact ⟨0, Nat.zero_le _, rfl, Hn⟩
            case round =>
              obtain ⟨j, hj, rfl, hres2⟩ := hrel
              clear Hn
              by_cases hlj : j < M
              · obtain ⟨xe, hxe⟩ := at_some (show j < x.length by rw [HMx.out]; exact hlj)
                obtain ⟨ye, hye⟩ := at_some (show j < y.length by rw [HMy.out]; exact hlj)
                have hjx : j < x.length := by rw [HMx.out]; exact hlj
                have hjy : j < y.length := by rw [HMy.out]; exact hlj
                have hjx2 : j < mx := by omega
                have hjy2 : j < my := by omega
                obtain ⟨b2, o2, rfl, hbl2, hc2⟩ := ints_row Hrq.out rfl hxe
                obtain ⟨b3, o3, rfl, hbl3, hc3⟩ := ints_row Hrq'.out rfl hye
                have Hs2 := Lib.hid (Mac.all_dropG (p := Mac.entOk m.next.length) (Mac.zip_get hxe hye))
                have HE : Hid (Mac.entOk m.next.length (xe, ye) = (Mac.inOk m.next.length xe && Mac.inOk 8 ye)) := Lib.hid rfl
                clear hxe hye
                cases h1 : Mac.inOk m.next.length xe
                · have HH1 := Lib.hid h1
                  obtain rfl : res = false := by rw [hres2.out, Hs2.out, HE.out, h1]; rfl
                  clear h1
                  go_wp2_with fail
                  refine (l1In_any _ _ _ _).mono ?_
                  rintro e w' ⟨rfl, rfl⟩
                  rw [HI1.out, HH1.out]
                  go_wp2_with fail
                  go_ret
                  exact ⟨rfl, B0.out.trans (Hb1.out.mono B0.out.size)⟩
                · have HH1 := Lib.hid h1
                  cases h2 : Mac.inOk 8 ye
                  · have HH2 := Lib.hid h2
                    obtain rfl : res = false := by rw [hres2.out, Hs2.out, HE.out, h1, h2]; rfl
                    clear h1 h2
                    go_wp2_with fail
                    refine (l1In_any _ _ _ _).mono ?_
                    rintro e w' ⟨rfl, rfl⟩
                    rw [HI1.out, HH1.out]
                    go_wp2_with fail
                    refine (l1In_any _ _ _ _).mono ?_
                    rintro e w' ⟨rfl, rfl⟩
                    rw [HI2.out, HH2.out]
                    go_wp2_with fail
                    go_ret
                    exact ⟨rfl, B0.out.trans (Hb1.out.mono B0.out.size)⟩
                  · have HH2 := Lib.hid h2
                    have Hn3 : Hid (res = (((x.zip y).drop (j + 1)).all (Mac.entOk m.next.length) && ((m.next.zip m.out).drop (k + 1)).all (Mac.pairOk m.ins m.next.length))) := Lib.hid (by rw [hres2.out, Hs2.out, HE.out, h1, h2]; rfl)
                    clear h1 h2
                    go_wp2_with fail
                    refine (l1In_any _ _ _ _).mono ?_
                    rintro e w' ⟨rfl, rfl⟩
                    rw [HI1.out, HH1.out]
                    go_wp2_with fail
                    refine (l1In_any _ _ _ _).mono ?_
                    rintro e w' ⟨rfl, rfl⟩
                    rw [HI2.out, HH2.out]
                    go_wp2_with fail
                    go_round
                    case rel => exact ⟨j + 1, by omega, by go_num, Hn3⟩
                    case measure => simp [intOf] <;> omega
              · have Hn3 : Hid (res = ((m.next.zip m.out).drop (k + 1)).all (Mac.pairOk m.ins m.next.length)) := Lib.hid (by rw [hres2.out, List.drop_eq_nil_of_le (by rw [List.length_zip, HMx.out]; omega)]; rfl)
                go_wp2_with fail
                go_roundw
                case rel => exact ⟨k + 1, by omega, by go_num, Hn3, Hb1.out⟩
                case measure => simp [intOf] <;> omega
          · have hx2 : ((x.length : Int) != (M : Int)) = false := by rw [hle]; simp
            have hy2 : ((y.length : Int) != (M : Int)) = true := by simp; omega
            obtain rfl : res = false := by rw [hres.out, Hstep.out, HLen.out (x, y), decide_eq_true hle, decide_eq_false hle']; rfl
            clear hle hle'
            go_wp2_with fail
            refine wp_region_grow (by kernel_rfl) (by kernel_rfl) ?_
            repeat (go_big_quiet_step ((fail)))
            refine wpQuiet_nil ?_
            intro _ hw'
            obtain ⟨nq, hw''⟩ := hw'
            subst hw''
            have hgq := gw_below nq
            generalize gw nq = wq at *
            clear nq
            have Hb1 := Lib.hid (Hb.out.trans (hgq.mono hz))
            clear hgq g0 g1 g2 g3 g4
            go_wp2_with fail
            go_ret
            exact ⟨rfl, B0.out.trans (Hb1.out.mono B0.out.size)⟩
        · have hx2 : ((x.length : Int) != (M : Int)) = true := by simp; omega
          obtain rfl : res = false := by rw [hres.out, Hstep.out, HLen.out (x, y), decide_eq_false hle]; rfl
          clear hle
          go_wp2_with fail
          refine wp_region_grow (by kernel_rfl) (by kernel_rfl) ?_
          repeat (go_big_quiet_step ((fail)))
          refine wpQuiet_nil ?_
          intro _ hw'
          obtain ⟨nq, hw''⟩ := hw'
          subst hw''
          have hgq := gw_below nq
          generalize gw nq = wq at *
          clear nq
          have Hb1 := Lib.hid (Hb.out.trans (hgq.mono hz))
          clear hgq g0 g1 g2 g3 g4
          go_wp2_with fail
          go_ret
          exact ⟨rfl, B0.out.trans (Hb1.out.mono B0.out.size)⟩
      · obtain rfl : res = true := by rw [hres.out, List.drop_eq_nil_of_le (by rw [List.length_zip]; omega)]; rfl
        go_wp2_with fail
        go_ret
        exact ⟨rfl, B0.out.trans (hb.mono B0.out.size)⟩
end Go.Proofs.Ytopimdakpnnbhaa

namespace Go.Proofs.Ytopimdakpnnbhaa
open Go.RowKit
set_option maxRecDepth 100000
/-! RunMachine, both. -/
set_option maxHeartbeats 8000000 in
theorem implRun_any (v vi : Value) (m : Mz) (ins : List Int) (w : World) (h : MachAt w v m) (hi : IntsAt w vi ins) :
    Calls Try.prog 32 #[v, vi] w (OwnInts (Mac.runI m ins) w) := by
  have HC := Lib.hid h
  obtain ⟨An, cn, Ao, co, rfl, hcn, hco, hcn1, hco1⟩ := h.shape
  obtain ⟨Ai, ci, rfl, hci, hcim⟩ := Row.shape hi
  unfold maxLen at hcim
  have B0 := Lib.hid (bel_alloc w (.cells #[.int .i64 m.ins, .slice An m.next.length cn, .slice Ao m.out.length co] 39))
  have PC := Lib.hid (MCells.boxed w m.ins (.slice An m.next.length cn) (.slice Ao m.out.length co) 39)
  have hsz : (w.alloc (.cells #[.int .i64 m.ins, .slice An m.next.length cn, .slice Ao m.out.length co] 39)).heap.size = w.heap.size + 1 := by simp
  obtain ⟨z, p0, p1, p2⟩ := PC.out
  have HC := Lib.hid (HC.out.below B0.out)
  have Hi := Lib.hid (Row.below hi B0.out)
  have HV := Lib.hid (implMValid_any _ m _ HC.out)
  generalize hW : w.alloc (.cells #[.int .i64 m.ins, .slice An m.next.length cn, .slice Ao m.out.length co] 39) = W at *
  clear hi
  cases hv : Mac.valid m
  · rw [hv] at HV
    have HR : Hid (Mac.runI m ins = []) := Lib.hid (by unfold Mac.runI Mac.runOk; rw [hv]; rfl)
    rw [HR.out]
    clear HR hv
    go_enter Try.func32, Try.ntmps32
    go_wp2_with fail
    refine HV.out.mono ?_
    rintro e w1 ⟨rfl, hb1⟩
    have B := Lib.hid (B0.out.trans (hb1.mono B0.out.size))
    clear hb1
    go_wp2_with fail
    go_ret
    exact own_nil _ _ B.out
  · rw [hv] at HV
    have Hv := Lib.hid hv
    by_cases hl : (40 : Int) < ins.length
    · have HR : Hid (Mac.runI m ins = []) := Lib.hid (by unfold Mac.runI Mac.runOk; rw [hv, decide_eq_false (by omega)]; rfl)
      rw [HR.out]
      clear HR hv
      go_enter Try.func32, Try.ntmps32
      go_wp2_with fail
      refine HV.out.mono ?_
      rintro e w1 ⟨rfl, hb1⟩
      have B := Lib.hid (B0.out.trans (hb1.mono B0.out.size))
      clear hb1
      go_wp2_with fail
      go_ret
      exact own_nil _ _ B.out
    · obtain ⟨s1, s2, s3, s4, s5⟩ := mach_sizes (m := m) (by have h := hv; unfold Mac.valid at h; simp only [Bool.and_eq_true] at h; exact h.1)
      obtain ⟨N, hN⟩ := Int.eq_ofNat_of_zero_le s1
      have hN4 : N ≤ 4 := by omega
      obtain ⟨M, eM, hM⟩ : ∃ M : Nat, (2 : Int) ^ N = (M : Int) ∧ M = 2 ^ N := ⟨2 ^ N, two_pow N, rfl⟩
      have hM16 : M ≤ 16 := by rw [hM]; exact Nat.pow_le_pow_right (show 0 < 2 by decide) hN4
      have hwM := IntWalk.i64_in (M : Int) (by omega)
      have HM : Hid (2 ^ m.ins.toNat = M) := Lib.hid (by rw [hN, hM]; rfl)
      have HR0 : Hid (Mac.runI m ins = if (ins.drop 0).all (Mac.inRange m) then Mac.outs m 0 ins else []) := Lib.hid (by unfold Mac.runI Mac.runOk; rw [hv, decide_eq_true (by omega)]; rfl)
      have HRow : Hid (∀ s x : Nat, s < m.next.length → x < M → ∃ r q y o, m.next[s]? = some r ∧ m.out[s]? = some q ∧ r.length = M ∧ q.length = M ∧ r[x]? = some ((y : Nat) : Int) ∧ y < m.next.length ∧ q[x]? = some o ∧ 0 ≤ o ∧ o < 8 ∧ Mac.stepN m s x = y ∧ Mac.stepO m s x = o) := Lib.hid fun s x hs hx => by
        have := Mac.valid_row hv hs (by rw [HM.out]; exact hx)
        rwa [HM.out] at this
      have HRg : Hid (∀ x : Int, Mac.inRange m x = Mac.inOk (M : Int) x) := Lib.hid fun x => by unfold Mac.inRange; rw [HM.out]
      rw [hN] at p0 HC PC HV hW ⊢
      generalize Mac.runI m ins = res at *
      have S5 := Lib.hid s5
      clear hv hM s1 s2 hN s5
      go_enter Try.func32, Try.ntmps32
      go_wp2_with fail
      refine HV.out.mono ?_
      rintro e w1 ⟨rfl, hb1⟩
      have B1 := Lib.hid (B0.out.trans (hb1.mono B0.out.size))
      have PC1 := Lib.hid (PC.out.below hb1)
      have HC1 := Lib.hid (HC.out.below hb1)
      have Hi1 := Lib.hid (Row.below Hi.out hb1)
      have z1 := hb1.size
      clear hb1 p0 p1 p2 z PC HC Hi HV hW
      go_wp2_with fail
      go_loopw [5, 6, 19] (fun v s i wr => ∃ (vv : Value) (k st : Nat), vv = v ∧ k ≤ ins.length ∧ i = .int .i64 k ∧ s = .int .i64 st ∧ st < m.next.length ∧ Hid (st = Mac.st m (ins.take k)) ∧ Hid (res = if (ins.drop k).all (Mac.inRange m) then Mac.outs m 0 ins else []) ∧ Hid (wr.ownsRow w1.heap.size 3 1 v k (ints (Mac.outs m 0 (ins.take k)))) ∧ Below w1.heap.size w1 wr) (fun v s i _ => ins.length - (intOf i).toNat)
      case atStart => exact ⟨_, 0, 0, rfl, Nat.zero_le _, rfl, rfl, by omega, Lib.hid rfl, HR0, Lib.hid (World.ownsRow_nil _ _ _ _), Below.refl _ _⟩
      case round =>
        obtain ⟨vv, k, st, hvv, hk, rfl, rfl, hst, Hst, hres, Ho, hb⟩ := hrel
        subst hvv
        clear HR0
        have Hb := Lib.hid hb
        have hzb := hb.size
        obtain ⟨z, p0, p1, p2⟩ := PC1.out.below hb
        by_cases hlt : k < ins.length
        · obtain ⟨b, o, x, rfl, hbl, hx, hs0⟩ := ints_open Hi1.out hb rfl hlt
          have Hdr := Lib.hid (Mac.all_dropG (p := Mac.inRange m) hx.out)
          clear hb
          cases hr : Mac.inRange m x
          · have HR : Hid (res = []) := Lib.hid (by rw [hres.out, Hdr.out, hr]; rfl)
            rw [HRg.out] at hr
            unfold Mac.inOk at hr
            rw [decide_eq_false_iff_not] at hr
            rw [HR.out]
            by_cases hx0 : x < 0
            · clear hr
              go_wp2_with fail
              go_ret
              exact own_nil _ _ (B1.out.trans (Hb.out.mono B1.out.size))
            · have hxM : (M : Int) ≤ x := by omega
              clear hr
              go_wp2_with fail
              go_ret
              exact own_nil _ _ (B1.out.trans (Hb.out.mono B1.out.size))
          · obtain ⟨X, rfl, hXM⟩ := Mac.inRange_nat hr
            rw [HM.out] at hXM
            have Hn : Hid (res = if (ins.drop (k + 1)).all (Mac.inRange m) then Mac.outs m 0 ins else []) := Lib.hid (by rw [hres.out, Hdr.out, hr]; rfl)
            obtain ⟨r, q, y, O, e1, e2, l1, l2, f1, hy, f2, hO1, hO2, g1, g2⟩ := HRow.out st X hst hXM
            obtain ⟨mn, mo, hmv, rn, ro⟩ := HC1.out
            simp only [Value.agg.injEq, Array.mk.injEq, List.cons.injEq, and_true, true_and] at hmv
            obtain ⟨-, rfl, rfl⟩ := hmv
            obtain ⟨bn, on, Bn, mn, rfl, hbn, hcn1', hn1, hn2, hrn⟩ := ss_open rn (Below.refl _ _) e1
            obtain ⟨bo, oo, Bo, mo, rfl, hbo, hco1', ho1, ho2, hro⟩ := ss_open ro (Below.refl _ _) e2
            obtain ⟨bn', on', rfl, hbn', hcy⟩ := ints_row hrn rfl f1
            obtain ⟨bo', oo', rfl, hbo', hcO⟩ := ints_row hro rfl f2
            rw [l1] at hcn1' hn1
            rw [l2] at hco1' ho1
            have K : ∀ w', Below w1.heap.size w1 w' → w'.cell? ⟨bn, on + st, none⟩ = some (.slice (some ⟨bn', on', none⟩) M mn) ∧ w'.cell? ⟨bo, oo + st, none⟩ = some (.slice (some ⟨bo', oo', none⟩) M mo) ∧ w'.cell? ⟨bn', on' + X, none⟩ = some (.int .i64 y) ∧ w'.cell? ⟨bo', oo' + X, none⟩ = some (.int .i64 O) := fun w' hb =>
              ⟨(hb.cell (p := ⟨bn, on + st, none⟩) hbn).trans hcn1', (hb.cell (p := ⟨bo, oo + st, none⟩) hbo).trans hco1', (hb.cell (p := ⟨bn', on' + X, none⟩) hbn').trans hcy, (hb.cell (p := ⟨bo', oo' + X, none⟩) hbo').trans hcO⟩
            have HK := Lib.hid K
            obtain ⟨k1, k2, k3, k4⟩ := K wr Hb.out
            clear K hcn1' hco1' hcy hcO
            have HSt : Hid (y = Mac.st m (ins.take (k + 1))) := Lib.hid (by rw [Mac.st_snoc hx.out, ← Hst.out, g1])
            have HOu : Hid (ints (Mac.outs m 0 (ins.take (k + 1))) = ints (Mac.outs m 0 (ins.take k)) ++ [.int .i64 O]) := Lib.hid (by rw [Mac.outs_snoc hx.out, ← Hst.out, g2, ints_snoc])
            unfold maxLen at hn2 ho2
            have Hlit := Lib.hid (Row.of_own (World.ownsRow_lit (base := wr.heap.size) (e := 3) (size := 1) wr #[.int .i64 O] 1 (Nat.le_refl _) (by unfold maxLen; omega) rfl))
            have hbm := bel_alloc wr (.cells #[.int .i64 O] 3)
            have Hb7 : Hid (∀ w7, (wr.alloc (.cells #[.int .i64 O] 3)).grownBy w7 vv.ownBlock → Below w1.heap.size w1 w7) := Lib.hid fun w7 hg => (Hb.out.alloc hzb _).grown hg (Hb.out.alloc hzb _).size (own_ge0 Ho.out)
            have hd1 : decide (st < m.next.length) = true := decide_eq_true hst
            have hd2 : st < m.out.length := by have := S5.out; omega
            have hd3 : decide (X < M) = true := decide_eq_true hXM
            clear hr e1 e2 f1 f2 g1 g2 hrn hro rn ro l1 l2 hbm
            go_wp2_with (at_builtin; refine append_ints rfl (.tmp 32) (.tmp 41) rfl w1.heap.size _ k _ rfl (Ho.out.alloc _) _ 1 [.int .i64 O] rfl Hlit.out (by simp [Value.oneCell']) (by omega) (by simp; omega) ?_; intro v7 w7 hown7 hg7 hat7; have Ho7 := Lib.hid hown7; have B7 := Lib.hid (Hb7.out w7 hg7); obtain ⟨j1, j2, j3, j4⟩ := HK.out w7 B7.out; obtain ⟨z7, r0, r1, r2⟩ := PC1.out.below B7.out; clear hown7 hg7 hat7 p0 p1 p2 k1 k2 k3 k4)
            go_roundw
            case rel => exact ⟨_, k + 1, y, rfl, by omega, by go_num, rfl, hy, HSt, Hn, Lib.hid (by rw [HOu.out]; exact Ho7.out), B7.out⟩
            case measure => simp [intOf] <;> omega
        · obtain rfl : k = ins.length := by omega
          have HR : Hid (res = Mac.outs m 0 ins) := Lib.hid (by rw [hres.out, List.drop_eq_nil_of_le (Nat.le_refl _)]; rfl)
          go_wp2_with fail
          go_ret
          exact ⟨_, rfl, by rw [HR.out, Mac.outs_length]; have := Ho.out; rw [List.take_length] at this; exact own_mono this (by omega), B1.out.trans (Hb.out.mono B1.out.size)⟩
end Go.Proofs.Ytopimdakpnnbhaa

namespace Go.Proofs.Ytopimdakpnnbhaa
set_option maxRecDepth 100000
open Go.RowKit Go.Joins Go.ChangeShapes Go.WideShapes Go.ChangeAt Go.Deep
theorem els_ss {w : World} : ∀ {els : List (List Value)}, (∀ e ∈ els, GInts w e) → ∃ (vs : List Value) (xss : List (List Int)), els.flatten = vs ∧ vs.length = els.length ∧ xss.length = els.length ∧ (∀ (i : Nat) (x : List Int) (u : Value), xss[i]? = some x → vs[i]? = some u → Row w 1 u x.length (ints x)) ∧ ∀ x ∈ xss, ∀ y ∈ x, WfI y
  | [], _ => ⟨[], [], rfl, rfl, rfl, by simp, by simp⟩
  | e :: els, h => by
    obtain ⟨vs, xss, h1, h2, h3, h4, h5⟩ := els_ss fun e' h' => h e' (List.mem_cons_of_mem _ h')
    obtain ⟨A, n, c, xs, rfl, hr, hl, hw⟩ := h e (by simp)
    refine ⟨.slice A n c :: vs, xs :: xss, by simp [h1], by simp [h2], by simp [h3], fun i x u hx hu => ?_, fun x hx => ?_⟩
    · cases i with
      | zero =>
        simp at hx hu
        subst hx hu
        exact hr
      | succ i => exact h4 i x u (by simpa using hx) (by simpa using hu)
    · rcases List.mem_cons.1 hx with rfl | hx
      · exact hw
      · exact h5 x hx
section
variable {H : Type} {enc : TypeId × Value → H} {w : World} {r : Reach} {b0 base : Nat} {spare : Nat → Bool} {held : Bool} {v : Value} {d : DataW H} {p : List MemPlace}
theorem rd_intss {n : Nat} {cs : List Value} {y : DataW H × List MemPlace} (h : DataW.trod enc Try.prog w base spare held n 37 cs = some y) : ∃ v xss, cs = [v] ∧ SSAt ints w v xss ∧ ∀ x ∈ xss, ∀ y ∈ x, WfI y := by
  obtain ⟨A, n, c, els, rfl, hr, rfl, hl, hg⟩ := slice_rd (size := 1) Try.underlying37 (by kernel_rfl) (by decide) (fun cs => GInts w cs) (fun _ _ _ _ h => rd_ints h) h
  obtain ⟨vs, xss, h1, h2, h3, h4, h5⟩ := els_ss hg
  exact ⟨_, xss, rfl, ⟨vs, by omega, by rw [h3, ← h1]; exact hr, h4⟩, h5⟩
/-- A machine, as an argument. -/
def AMach (w : World) (v : Value) : Prop := ∃ m : Mz, MachAt w v m ∧ WfI m.ins ∧ (∀ x ∈ m.next, ∀ y ∈ x, WfI y) ∧ ∀ x ∈ m.out, ∀ y ∈ x, WfI y
end
def TMach (m : Mz) : Ty := fun w v => MachAt w v m
theorem stb_mach (m : Mz) : Stb (fun _ => False) (TMach m) := fun _ _ _ h ho => h.below (only_below ho)
/-- A machine in a box of the law's. -/
structure BoxM (w : World) (g : Nat) (m : Mz) (vn vo : Value) : Prop where
  pc : MCells w g m.ins vn vo
  at_ : MachAt w (.agg #[.int .i64 m.ins, vn, vo]) m
theorem BoxM.below {w w' : World} {g : Nat} {m : Mz} {vn vo : Value} (h : BoxM w g m vn vo) (hb : Below w.heap.size w w') : BoxM w' g m vn vo := ⟨h.pc.below hb, h.at_.below hb⟩
theorem BoxM.made {w : World} {m : Mz} {vn vo : Value} (t : TypeId) (h : MachAt w (.agg #[.int .i64 m.ins, vn, vo]) m) : BoxM (w.alloc (.cells #[.int .i64 m.ins, vn, vo] t)) w.heap.size m vn vo :=
  ⟨MCells.boxed _ _ _ _ _, h.below (bel_alloc _ _)⟩
end Go.Proofs.Ytopimdakpnnbhaa
