import Derived.Test.YtdgminjbgjbamaaProg
import Derived.Test.YtdgminjbgjbamaaS02
import Derived.Test.YtdgminjbgjbamaaS01
import Derived.Test.YtdgminjbgjbamaaS06
import Derived.Test.YtdgminjbgjbamaaS04
import Derived.Test.YtdgminjbgjbamaaS08
import Derived.Laws.BytesArg
import Derived.Test.YtdgminjbgjbamaaS07
import Derived.BigRegion
import Derived.Deep.Cut
import Derived.Great.BuildSlice
set_option linter.unusedVariables false
set_option linter.unusedSimpArgs false
namespace Go.Proofs.Ytdgminjbgjbamaa
open Go.RowKit
/-- The two numbers that DrawDecoder draws. -/
def DrewDec (w : World) (e : Ending) (w' : World) : Prop :=
  ∃ x y : Int, e = .returned (.tuple #[.int .i64 x, .int .i64 y]) ∧ -1 ≤ x ∧ x ≤ 3 ∧ -1 ≤ y ∧ y ≤ 5 ∧ Below w.heap.size w w'
theorem drawDecoder_any (v : Value) (bs : List Int) (w : World) (h : Row w 1 v bs.length (bs.map (Value.int .u8))) (hb : ∀ x ∈ bs, (Lit.int .u8 x).wf = true) (hl : bs.length ≤ 1048576) :
    Calls Try.prog 26 #[v] w (DrewDec w) := by
  have H := Lib.hid h
  clear h
  go_enter Try.func26, Try.ntmps26
  go_wp2_with fail
  refine (open_any _ bs _ H.out hb hl).mono ?_
  rintro e w1 ⟨rfl, hr1, hb1⟩
  have Hr1 := Lib.hid hr1
  have HB := Lib.hid hb1
  clear hr1 hb1 H
  go_wp2_with fail
  refine (pick_any 5 _ 0 _ Hr1.out (by omega) (by omega) (by omega)).mono ?_
  rintro e w2 ⟨x, hx0, hx1, rfl, hr2, hg2⟩
  have Hr2 := Lib.hid hr2
  have Hg2 := Lib.hid hg2
  clear hr2 hg2
  go_wp2_with fail
  refine (pick_any 7 _ 1 _ Hr2.out (by omega) (by omega) (by omega)).mono ?_
  rintro e w3 ⟨y, hy0, hy1, rfl, hr3, hg3⟩
  have Hg3 := Lib.hid (grownBy_trans Hg2.out hg3)
  clear hr3 hg3 Hr2 Hg2
  go_wp2_with fail
  refine bodyPost_ret (v := .tuple #[.int .i64 (x - 1), .int .i64 (y - 1)]) (by simp [results, Try.results26, go_sem]) rfl ?_
  exact ⟨x - 1, y - 1, rfl, by omega, by omega, by omega, by omega, HB.out.grown Hg3.out (by have := HB.out.size; omega) (by simp)⟩
end Go.Proofs.Ytdgminjbgjbamaa

namespace Go.Proofs.Ytdgminjbgjbamaa
/-! Merging equivalent variables, plainly. -/
namespace Cir
/-- The values of a variable for all assignments. -/
def colV (c : Ci) (v : Nat) : List Bool := (List.range (2 ^ (c.ins + c.next.length))).map fun x => (vals c (bits (x / 2 ^ c.ins) c.next.length) (bits x c.ins)).getD v false
/-- The number of the first n places where two lists agree. -/
def eqs (a b : List Bool) : Nat → Nat
  | 0 => 0
  | n + 1 => eqs a b n + (if a.getD n false = b.getD n false then 1 else 0)
def cmpC (a b : List Bool) : Int := if eqs a b a.length = a.length then 1 else if eqs a b a.length = 0 then -1 else 0
/-- What stands for literal l, if variable u does. -/
def swLit (c : Ci) (l u : Nat) : Option Nat := if cmpC (colV c u) (colV c (l / 2)) = 1 then some (2 * u + l % 2) else if cmpC (colV c u) (colV c (l / 2)) = -1 then some (2 * u + 1 - l % 2) else none
def sweepU (c : Ci) (l : Nat) : Nat := ((List.range (l / 2)).findSome? (swLit c l)).getD l
def mapCi (u : Nat → Nat) (c : Ci) : Ci := { ins := c.ins, next := c.next.map u, gates := c.gates.map fun g => (u g.1, u g.2), outs := c.outs.map u }
def sweepC (c : Ci) : Ci := mapCi (sweepU c) c
def sweepI (c : Ci) : Ci := optI (sweepC (optI c))
theorem eqs_le (a b : List Bool) : ∀ n, eqs a b n ≤ n
  | 0 => Nat.le_refl _
  | n + 1 => by
    have := eqs_le a b n
    unfold eqs
    split <;> omega
theorem eqs_all {a b : List Bool} : ∀ {n : Nat}, eqs a b n = n → ∀ i, i < n → a.getD i false = b.getD i false
  | 0, _, i, h => absurd h (Nat.not_lt_zero _)
  | n + 1, he, i, hi => by
    have hl := eqs_le a b n
    unfold eqs at he
    split at he
    · rename_i h
      by_cases e : i = n
      · rw [e]; exact h
      · have he2 : eqs a b n = n := by omega
        exact eqs_all he2 i (by omega)
    · omega
theorem eqs_none {a b : List Bool} : ∀ {n : Nat}, eqs a b n = 0 → ∀ i, i < n → a.getD i false ≠ b.getD i false
  | 0, _, i, h => absurd h (Nat.not_lt_zero _)
  | n + 1, he, i, hi => by
    unfold eqs at he
    split at he
    · omega
    · rename_i h
      by_cases e : i = n
      · rw [e]; exact h
      · have he2 : eqs a b n = 0 := by omega
        exact eqs_none he2 i (by omega)
theorem colV_length (c : Ci) (v : Nat) : (colV c v).length = 2 ^ (c.ins + c.next.length) := by simp [colV]
/-- Every assignment has its number. -/
theorem colV_at (c : Ci) (v : Nat) {st inp : List Bool} (l1 : inp.length = c.ins) (l2 : st.length = c.next.length) : ∃ x, x < 2 ^ (c.ins + c.next.length) ∧ ∀ v, (colV c v).getD x false = (vals c st inp).getD v false := by
  have h1 := num_lt inp
  have h2 := num_lt st
  rw [l1] at h1
  rw [l2] at h2
  have hx : num inp + 2 ^ c.ins * num st < 2 ^ (c.ins + c.next.length) := by
    rw [Nat.pow_add]
    calc num inp + 2 ^ c.ins * num st < 2 ^ c.ins + 2 ^ c.ins * num st := by omega
      _ = 2 ^ c.ins * (num st + 1) := by rw [Nat.mul_add, Nat.mul_one, Nat.add_comm]
      _ ≤ 2 ^ c.ins * 2 ^ c.next.length := Nat.mul_le_mul_left _ h2
  refine ⟨num inp + 2 ^ c.ins * num st, hx, fun v => ?_⟩
  unfold colV
  rw [List.getD_eq_getElem?_getD, List.getElem?_map, List.getElem?_range hx, Option.map_some, Option.getD_some]
  have e1 : (num inp + 2 ^ c.ins * num st) / 2 ^ c.ins = num st := by
    rw [Nat.add_mul_div_left _ _ (Nat.pow_pos (by omega)), Nat.div_eq_of_lt h1, Nat.zero_add]
  have e2 : bits (num inp + 2 ^ c.ins * num st) c.ins = inp := by
    have e3 : bits (num inp + 2 ^ c.ins * num st) c.ins = bits (num inp) c.ins := by
      unfold bits
      refine List.map_congr_left fun i hi => ?_
      rw [Nat.add_comm, Nat.testBit_two_pow_mul_add _ h1, if_pos (List.mem_range.1 hi)]
    rw [e3]
    exact bits_numL l1
  rw [e1, e2, bits_numL l2]
theorem cmp_one {c : Ci} {u v : Nat} (h : cmpC (colV c u) (colV c v) = 1) {st inp : List Bool} (l1 : inp.length = c.ins) (l2 : st.length = c.next.length) : (vals c st inp).getD u false = (vals c st inp).getD v false := by
  obtain ⟨x, hx, hv⟩ := colV_at c u l1 l2
  unfold cmpC at h
  split at h
  · rename_i he
    have := eqs_all he x (by rw [colV_length]; exact hx)
    rwa [hv u, hv v] at this
  · split at h <;> exact absurd h (by decide)
theorem cmp_neg {c : Ci} {u v : Nat} (h : cmpC (colV c u) (colV c v) = -1) {st inp : List Bool} (l1 : inp.length = c.ins) (l2 : st.length = c.next.length) : (vals c st inp).getD u false = !(vals c st inp).getD v false := by
  obtain ⟨x, hx, hv⟩ := colV_at c u l1 l2
  unfold cmpC at h
  split at h
  · exact absurd h (by decide)
  · split at h
    · rename_i he
      have := eqs_none he x (by rw [colV_length]; exact hx)
      rw [hv u, hv v] at this
      cases h1 : (vals c st inp).getD u false <;> cases h2 : (vals c st inp).getD v false <;> simp_all
    · exact absurd h (by decide)
theorem sweepU_cases (c : Ci) (l : Nat) : sweepU c l = l ∨ ∃ u, u < l / 2 ∧ ((cmpC (colV c u) (colV c (l / 2)) = 1 ∧ sweepU c l = 2 * u + l % 2) ∨ (cmpC (colV c u) (colV c (l / 2)) = -1 ∧ sweepU c l = 2 * u + 1 - l % 2)) := by
  unfold sweepU
  cases h : (List.range (l / 2)).findSome? (swLit c l) with
  | none => exact .inl rfl
  | some y =>
    right
    obtain ⟨u, hu, hy⟩ := List.exists_of_findSome?_eq_some h
    refine ⟨u, List.mem_range.1 hu, ?_⟩
    unfold swLit at hy
    split at hy
    · rename_i h1
      exact .inl ⟨h1, (Option.some.inj hy).symm⟩
    · split at hy
      · rename_i h1
        exact .inr ⟨h1, (Option.some.inj hy).symm⟩
      · cases hy
theorem sweepU_le (c : Ci) (l : Nat) : sweepU c l / 2 ≤ l / 2 := by
  rcases sweepU_cases c l with h | ⟨u, hu, ⟨_, h⟩ | ⟨_, h⟩⟩
  · rw [h]; exact Nat.le_refl _
  · rw [h]; omega
  · rw [h]; omega
theorem sweepU_lt (c : Ci) {l N : Nat} (h : l < 2 * N) : sweepU c l < 2 * N := by
  have := sweepU_le c l
  omega
theorem sweepU_val (c : Ci) (l : Nat) {st inp : List Bool} (l1 : inp.length = c.ins) (l2 : st.length = c.next.length) : lit (vals c st inp) (sweepU c l) = lit (vals c st inp) l := by
  rcases sweepU_cases c l with h | ⟨u, hu, ⟨hc, h⟩ | ⟨hc, h⟩⟩
  · rw [h]
  · rw [h]
    have := cmp_one hc l1 l2
    unfold lit
    rw [show (2 * u + l % 2) / 2 = u from by omega, show (2 * u + l % 2) % 2 = l % 2 from by omega, this]
  · rw [h]
    have := cmp_neg hc l1 l2
    unfold lit
    rw [show (2 * u + 1 - l % 2) / 2 = u from by omega, this]
    rcases Nat.mod_two_eq_zero_or_one l with e | e
    · rw [e, show (2 * u + 1 - 0) % 2 = 1 from by omega]; cases (vals c st inp).getD (l / 2) false <;> rfl
    · rw [e, show (2 * u + 1 - 1) % 2 = 0 from by omega]; cases (vals c st inp).getD (l / 2) false <;> rfl
theorem sweepC_ok {c : Ci} (hc : Ok c) : Ok (sweepC c) := by
  have hn : nfirst (sweepC c) = nfirst c := by simp [nfirst, sweepC, mapCi]
  have hv : nvars (sweepC c) = nvars c := by unfold nvars; rw [hn]; simp [sweepC, mapCi]
  refine ⟨hc.ins, by simpa [sweepC, mapCi] using hc.nexts, by simpa [sweepC, mapCi] using hc.gatess, by simpa [sweepC, mapCi] using hc.outss, fun k g hg => ?_, fun l hl => ?_, fun l hl => ?_⟩
  · rw [hn]
    simp only [sweepC, mapCi, List.getElem?_map] at hg
    cases hk : c.gates[k]? with
    | none => rw [hk] at hg; cases hg
    | some g0 =>
      rw [hk] at hg
      have := Option.some.inj hg
      subst this
      have h0 := hc.gate k g0 hk
      exact ⟨sweepU_lt c h0.1, sweepU_lt c h0.2⟩
  · rw [hv]
    obtain ⟨a, ha, rfl⟩ := List.mem_map.1 hl
    exact sweepU_lt c (hc.next a ha)
  · rw [hv]
    obtain ⟨a, ha, rfl⟩ := List.mem_map.1 hl
    exact sweepU_lt c (hc.out a ha)
theorem sweepC_vals {c : Ci} (hc : Ok c) {st inp : List Bool} (l1 : inp.length = c.ins) (l2 : st.length = c.next.length) : vals (sweepC c) st inp = vals c st inp := by
  have hall : ∀ k, k ≤ c.gates.length → evalG ((sweepC c).gates.take k) (false :: (inp ++ st)) = evalG (c.gates.take k) (false :: (inp ++ st)) := fun k => by
    induction k with
    | zero => intro _; rfl
    | succ k ih =>
      intro hk
      have hgk : c.gates[k]? = some (c.gates[k]'hk) := List.getElem?_eq_getElem hk
      have hg2 : (sweepC c).gates[k]? = some (sweepU c (c.gates[k]'hk).1, sweepU c (c.gates[k]'hk).2) := by
        simp only [sweepC, mapCi, List.getElem?_map, hgk]; rfl
      have h0 := hc.gate k _ hgk
      rw [evalG_take_snoc hgk, evalG_take_snoc hg2, ih (by omega)]
      congr 2
      have len : (evalG (c.gates.take k) (false :: (inp ++ st))).length = nfirst c + k := by
        rw [evalG_length, first_len l1 l2, List.length_take]
        omega
      have e : ∀ l, l < 2 * (nfirst c + k) → lit (evalG (c.gates.take k) (false :: (inp ++ st))) (sweepU c l) = lit (evalG (c.gates.take k) (false :: (inp ++ st))) l := fun l hl => by
        have hv := sweepU_val c l l1 l2
        have hs := sweepU_le c l
        have ev : vals c st inp = evalG (c.gates.drop k) (evalG (c.gates.take k) (false :: (inp ++ st))) := by
          rw [← evalG_append, List.take_append_drop]; rfl
        rw [ev] at hv
        generalize evalG (c.gates.take k) (false :: (inp ++ st)) = V at *
        rw [lit_evalG _ (show sweepU c l / 2 < V.length by omega), lit_evalG _ (show l / 2 < V.length by omega)] at hv
        exact hv
      unfold gval
      rw [e _ h0.1, e _ h0.2]
  have h := hall c.gates.length (Nat.le_refl _)
  have hl : (sweepC c).gates.length = c.gates.length := by simp [sweepC, mapCi]
  rw [List.take_length, ← hl, List.take_length] at h
  exact h
theorem sweepC_same {c : Ci} (hc : Ok c) : SameStep c (sweepC c) := by
  refine ⟨rfl, by simp [sweepC, mapCi], by simp [sweepC, mapCi], fun st inp l1 l2 => ?_⟩
  rw [sweepC_vals hc l1 l2]
  refine ⟨?_, ?_⟩
  · unfold lits
    rw [show (sweepC c).next = c.next.map (sweepU c) from rfl, List.map_map]
    exact List.map_congr_left fun l _ => sweepU_val c l l1 l2
  · unfold lits
    rw [show (sweepC c).outs = c.outs.map (sweepU c) from rfl, List.map_map]
    exact List.map_congr_left fun l _ => sweepU_val c l l1 l2
theorem sweepI_ok {c : Ci} (hc : Ok c) : Ok (sweepI c) := optI_ok (sweepC_ok (optI_ok hc))
theorem sweepI_same {c : Ci} (hc : Ok c) : SameStep c (sweepI c) := (optI_same hc).trans ((sweepC_same (optI_ok hc)).trans (optI_same (sweepC_ok (optI_ok hc))))
end Cir
end Go.Proofs.Ytdgminjbgjbamaa

namespace Go.Proofs.Ytdgminjbgjbamaa
open Go.RowKit Go.Maps
set_option maxRecDepth 100000
set_option maxHeartbeats 8000000
/-! Comparing columns, by the program. -/
def bcode (b : Bool) : Int := if b then 49 else 48
def colS (l : List Bool) : ByteArray := strOfNums (l.map bcode)
theorem colS_size (l : List Bool) : (colS l).size = l.length := by
  unfold colS
  rw [strOfNums_size, List.length_map]
theorem colS_at {l : List Bool} {k : Nat} (h : k < l.length) (hk : k < (colS l).size) : ((((colS l)[k]'hk).toNat : Nat) : Int) = bcode (l.getD k false) := by
  have e : (colS l)[k]'hk = UInt8.ofNat (bcode (l.getD k false)).toNat := by
    have h1 : (colS l).data.toList = (l.map bcode).map fun n => UInt8.ofNat n.toNat := strOfNums_data _
    have h2 : ((colS l).data.toList)[k]? = some (UInt8.ofNat (bcode (l.getD k false)).toNat) := by
      rw [h1, List.getElem?_map, List.getElem?_map, List.getElem?_eq_getElem h, List.getD_eq_getElem?_getD, List.getElem?_eq_getElem h]
      rfl
    have h3 : (colS l).data[k]? = some (UInt8.ofNat (bcode (l.getD k false)).toNat) := by rw [← Array.getElem?_toList]; exact h2
    have h4 := Array.getElem?_eq_some_iff.1 h3
    exact h4.2
  rw [e]
  cases l.getD k false <;> rfl
theorem bcode_eq (a b : Bool) : (bcode a == bcode b) = decide (a = b) := by cases a <;> cases b <;> decide
theorem compare_any (a b : List Bool) (w : World) (hl : a.length ≤ b.length) (hm : a.length ≤ 1000) :
    Calls Try.prog 58 #[.string (colS a), .string (colS b)] w fun e w' => e = .returned (.int .i64 (Cir.cmpC a b)) ∧ Below w.heap.size w w' := by
  have hsz := colS_size a
  have HA : Hid (∀ k, k < a.length → ∀ h : k < (colS a).size, ((((colS a)[k]'h).toNat : Nat) : Int) = bcode (a.getD k false)) := Lib.hid fun k hk h => colS_at hk h
  have HB : Hid (∀ k, k < a.length → ∀ h : k < (colS b).size, ((((colS b)[k]'h).toNat : Nat) : Int) = bcode (b.getD k false)) := Lib.hid fun k hk h => colS_at (by omega) h
  have HSb : Hid (a.length ≤ (colS b).size) := Lib.hid (by rw [colS_size]; exact hl)
  have HC : Hid (Cir.cmpC a b = if Cir.eqs a b a.length = a.length then 1 else if Cir.eqs a b a.length = 0 then -1 else 0) := Lib.hid rfl
  obtain ⟨n, hn⟩ : ∃ n, n = a.length := ⟨_, rfl⟩
  rw [← hn] at hsz HA HB HC HSb hm
  generalize colS a = sa at *
  generalize colS b = sb at *
  clear hl hn
  go_enter Try.func58, Try.ntmps58
  go_wp2_with fail
  go_loopw [5, 9] (fun q i wr => ∃ k : Nat, k ≤ n ∧ i = .int .i64 k ∧ q = .int .i64 ((Cir.eqs a b k : Nat) : Int) ∧ Below w.heap.size w wr) (fun _ i _ => n - (intOf i).toNat)
  case atStart => exact ⟨0, Nat.zero_le _, rfl, rfl, Below.refl _ _⟩
  case round =>
    obtain ⟨k, hk, rfl, rfl, hb⟩ := hrel
    have heq := Cir.eqs_le a b k
    by_cases hlt : k < n
    · have hE : Cir.eqs a b (k + 1) = Cir.eqs a b k + (if a.getD k false = b.getD k false then 1 else 0) := rfl
      have HE := Lib.hid hE
      have hia := HA.out k hlt
      have hib := HB.out k hlt
      have hkb : k < sb.size := by have := HSb.out; omega
      have hbe := bcode_eq (a.getD k false) (b.getD k false)
      generalize Cir.eqs a b k = q at *
      generalize a.getD k false = x at *
      generalize b.getD k false = y at *
      generalize bcode x = cx at *
      generalize bcode y = cy at *
      have hwq := IntWalk.i64_in ((q : Int) + 1) (by omega)
      have Hb := Lib.hid hb
      clear hE hb
      by_cases hxy : x = y
      · rw [if_pos hxy] at HE
        rw [decide_eq_true hxy] at hbe
        clear hxy
        go_wp2_with fail
        refine wp_region_grow (by kernel_rfl) (by kernel_rfl) ?_
        repeat (go_big_quiet_step ((fail)))
        refine wpQuiet_nil ?_
        intro _ hw'
        obtain ⟨nq, hw''⟩ := hw'
        subst hw''
        have hgq := gw_below nq
        generalize gw nq = wq at *
        clear nq
        go_wp2_with fail
        go_roundw
        case rel => exact ⟨k + 1, by omega, by go_num, by rw [HE.out]; go_num, Hb.out.trans (hgq.mono Hb.out.size)⟩
        case measure => simp [intOf]; omega
      · rw [if_neg hxy] at HE
        rw [decide_eq_false hxy] at hbe
        clear hxy
        go_wp2_with fail
        refine wp_region_grow (by kernel_rfl) (by kernel_rfl) ?_
        repeat (go_big_quiet_step ((fail)))
        refine wpQuiet_nil ?_
        intro _ hw'
        obtain ⟨nq, hw''⟩ := hw'
        subst hw''
        have hgq := gw_below nq
        generalize gw nq = wq at *
        clear nq
        go_wp2_with fail
        go_roundw
        case rel => exact ⟨k + 1, by omega, by go_num, by rw [HE.out]; rfl, Hb.out.trans (hgq.mono Hb.out.size)⟩
        case measure => simp [intOf]; omega
    · obtain rfl : k = n := by omega
      have Hb := Lib.hid hb
      generalize Cir.eqs a b k = q at *
      clear hb hlt
      by_cases h1 : q = k
      · rw [if_pos h1] at HC
        have hd1 : ((q : Int) == (k : Int)) = true := by simp; omega
        clear h1
        go_wp2_with fail
        go_ret
        exact ⟨by rw [HC.out]; rfl, Hb.out⟩
      · rw [if_neg h1] at HC
        have hd1 : ((q : Int) == (k : Int)) = false := by simp; omega
        clear h1
        by_cases h2 : q = 0
        · rw [if_pos h2] at HC
          subst h2
          go_wp2_with fail
          go_ret
          exact ⟨by rw [HC.out]; rfl, Hb.out⟩
        · rw [if_neg h2] at HC
          have hd2 : ((q : Int) == 0) = false := by simp; omega
          go_wp2_with fail
          go_ret
          exact ⟨by rw [HC.out]; rfl, Hb.out⟩
end Go.Proofs.Ytdgminjbgjbamaa

namespace Go.Proofs.Ytdgminjbgjbamaa
open Go.RowKit Go.Maps
set_option maxRecDepth 100000
set_option maxHeartbeats 8000000
/-! The literal that stands for another one, by the program. -/
def colsV (c : Ci) (n : Nat) : List Value := (List.range n).map fun v => Value.string (colS (Cir.colV c v))
theorem colsV_length (c : Ci) (n : Nat) : (colsV c n).length = n := by simp [colsV]
theorem colsV_at {c : Ci} {n i : Nat} (h : i < n) : (colsV c n)[i]? = some (.string (colS (Cir.colV c i))) := by
  unfold colsV
  rw [List.getElem?_map, List.getElem?_range h]
  rfl
theorem cmp_cases (a b : List Bool) : Cir.cmpC a b = 1 ∨ Cir.cmpC a b = -1 ∨ Cir.cmpC a b = 0 := by
  unfold Cir.cmpC
  split
  · exact .inl rfl
  · split
    · exact .inr (.inl rfl)
    · exact .inr (.inr rfl)
theorem findSome_at {f : Nat → Option Nat} : ∀ {n k y : Nat}, k < n → (∀ j, j < k → f j = none) → f k = some y → (List.range n).findSome? f = some y := fun {n k y} hk hn hy => by
  have e : List.range n = List.range k ++ (List.range (n - k)).map (k + ·) := by
    rw [← List.range_add]
    congr 1
    omega
  rw [e, List.findSome?_append]
  have h1 : (List.range k).findSome? f = none := List.findSome?_eq_none_iff.2 fun x hx => hn x (List.mem_range.1 hx)
  rw [h1]
  obtain ⟨m, hm⟩ : ∃ m, n - k = m + 1 := ⟨n - k - 1, by omega⟩
  rw [hm, List.range_succ_eq_map]
  simp [hy]
theorem findSome_no {f : Nat → Option Nat} {n : Nat} (hn : ∀ j, j < n → f j = none) : (List.range n).findSome? f = none := List.findSome?_eq_none_iff.2 fun x hx => hn x (List.mem_range.1 hx)
theorem sweepUse_any (gc l n : Nat) (c : Ci) (vs : Value) (w : World) (hc : w.cell? ⟨gc, 0, none⟩ = some vs) (hgc : gc < w.heap.size) (hr : Row w 1 vs n (colsV c n)) (hl : l / 2 < n) (hb : l ≤ 1000000) (hm : 2 ^ (c.ins + c.next.length) ≤ 1000) :
    Calls Try.prog 57 #[.int .i64 (l : Int), .pointer (some ⟨gc, 0, none⟩)] w fun e w' => e = .returned (.int .i64 (Cir.sweepU c l : Nat)) ∧ Below w.heap.size w w' := by
  obtain ⟨b, o, cp, rfl, hcp, hcm, hbl, hcell⟩ := hr.open (by omega)
  have hq := tdiv_two l
  have ha := and_one_nat l hb
  have HCell : Hid (∀ i, i < n → w.cell? ⟨b, o + i, none⟩ = some (.string (colS (Cir.colV c i)))) := Lib.hid fun i hi => hcell i _ (colsV_at hi)
  have HCmp : Hid (∀ u v (w' : World), Calls Try.prog 58 #[.string (colS (Cir.colV c u)), .string (colS (Cir.colV c v))] w' fun e w'' => e = .returned (.int .i64 (Cir.cmpC (Cir.colV c u) (Cir.colV c v))) ∧ Below w'.heap.size w' w'') := Lib.hid fun u v w' => compare_any _ _ w' (by rw [Cir.colV_length, Cir.colV_length]; exact Nat.le_refl _) (by rw [Cir.colV_length]; exact hm)
  have HU : Hid (Cir.sweepU c l = ((List.range (l / 2)).findSome? (Cir.swLit c l)).getD l) := Lib.hid rfl
  have HS : Hid (∀ u, Cir.swLit c l u = if Cir.cmpC (Cir.colV c u) (Cir.colV c (l / 2)) = 1 then some (2 * u + l % 2) else if Cir.cmpC (Cir.colV c u) (Cir.colV c (l / 2)) = -1 then some (2 * u + 1 - l % 2) else none) := Lib.hid fun u => rfl
  have hqb : l / 2 ≤ 1000000 := by omega
  have hr1 : l % 2 ≤ 1 := by omega
  generalize l / 2 = q at *
  generalize l % 2 = r at *
  have hwq : IntKind.i64.wrap (q : Int) = q := IntWalk.i64_in _ (by omega)
  clear hcell hr hm
  go_enter Try.func57, Try.ntmps57
  go_wp2_with fail
  go_loopw [7] (fun i wr => ∃ k : Nat, k ≤ q ∧ i = .int .i64 k ∧ Hid (∀ j, j < k → Cir.swLit c l j = none) ∧ Hid (Below w.heap.size w wr)) (fun i _ => q - (intOf i).toNat)
  case atStart => exact ⟨0, Nat.zero_le _, rfl, Lib.hid (fun j h => absurd h (Nat.not_lt_zero _)), Lib.hid (Below.refl _ _)⟩
  case round =>
    obtain ⟨k, hk, rfl, HN, Hb⟩ := hrel
    by_cases hlt : k < q
    · have hkn : k < n := by omega
      have hq0 := HCell.out k (by omega)
      have hq1 := HCell.out q hl
      have HSk := Lib.hid (HS.out k)
      have hcs := cmp_cases (Cir.colV c k) (Cir.colV c q)
      have HCm := Lib.hid (HCmp.out k q)
      generalize colS (Cir.colV c k) = s1 at *
      generalize colS (Cir.colV c q) = s2 at *
      generalize Cir.cmpC (Cir.colV c k) (Cir.colV c q) = cm at *
      have hzb := Hb.out.size
      go_wp2_with fail
      obtain ⟨wy, hwy⟩ : ∃ wy, wy = wr := ⟨_, rfl⟩
      subst hwy
      refine wp_region_rs (quietRS Try.prog _ wy _) quietRS_ok (by kernel_rfl) (by kernel_rfl) (by kernel_rfl) (Nat.le_of_ble_eq_true rfl) trivial trivial ?_
      apply rs_eq quietRS_ok quiet_any
      · intro ρ w' ho hK
        have ho : Only _ wy w' := ho
        obtain ⟨h0, -⟩ := hK
        have h0' : ρ (.tmp 1) = _ := h0
        have hb := Hb.out.trans ((only_below ho).mono Hb.out.size)
        have c0 := (hb.cell (p := ⟨gc, 0, none⟩) hgc).trans hc
        have c1 := (hb.cell (p := ⟨b, o + k, none⟩) hbl).trans hq0
        have c2 := (hb.cell (p := ⟨b, o + q, none⟩) hbl).trans hq1
        go_simp
        try exact rfl
      refine rs_old quietRS_ok quiet_any _ (.inl rfl) _ rfl rfl ?_
      apply rs_eq quietRS_ok quiet_any
      · intro ρ w' ho hK
        have ho : Only _ wy w' := ho
        obtain ⟨h0, h1, -⟩ := hK
        have h0' : ρ (.tmp 10) = _ := h0
        have h1' : ρ (.tmp 11) = _ := h1
        go_simp
        try exact rfl
      apply rs_eq quietRS_ok quiet_any
      · intro ρ w' ho hK
        have ho : Only _ wy w' := ho
        obtain ⟨h0, -⟩ := hK
        have h0' : ρ (.tmp 12) = _ := h0
        have hb := Hb.out.trans ((only_below ho).mono Hb.out.size)
        have c0 := (hb.cell (p := ⟨gc, 0, none⟩) hgc).trans hc
        have c1 := (hb.cell (p := ⟨b, o + k, none⟩) hbl).trans hq0
        have c2 := (hb.cell (p := ⟨b, o + q, none⟩) hbl).trans hq1
        go_simp
        try exact rfl
      apply rs_eq quietRS_ok quiet_any
      · intro ρ w' ho hK
        have ho : Only _ wy w' := ho
        obtain ⟨h0, -⟩ := hK
        have h0' : ρ (.tmp 1) = _ := h0
        have hb := Hb.out.trans ((only_below ho).mono Hb.out.size)
        have c0 := (hb.cell (p := ⟨gc, 0, none⟩) hgc).trans hc
        have c1 := (hb.cell (p := ⟨b, o + k, none⟩) hbl).trans hq0
        have c2 := (hb.cell (p := ⟨b, o + q, none⟩) hbl).trans hq1
        go_simp
        try exact rfl
      refine rs_old quietRS_ok quiet_any _ (.inl rfl) _ rfl rfl ?_
      apply rs_eq quietRS_ok quiet_any
      · intro ρ w' ho hK
        have ho : Only _ wy w' := ho
        obtain ⟨h0, h1, -⟩ := hK
        have h0' : ρ (.tmp 15) = _ := h0
        have h1' : ρ (.const (Value.int IntKind.i64 2)) = (Value.int IntKind.i64 2) := h1
        go_simp
        try exact rfl
      apply rs_eq quietRS_ok quiet_any
      · intro ρ w' ho hK
        have ho : Only _ wy w' := ho
        obtain ⟨h0, h1, -⟩ := hK
        have h0' : ρ (.tmp 14) = _ := h0
        have h1' : ρ (.tmp 16) = _ := h1
        go_simp
        try exact rfl
      apply rs_eq quietRS_ok quiet_any
      · intro ρ w' ho hK
        have ho : Only _ wy w' := ho
        obtain ⟨h0, -⟩ := hK
        have h0' : ρ (.tmp 17) = _ := h0
        have hb := Hb.out.trans ((only_below ho).mono Hb.out.size)
        have c0 := (hb.cell (p := ⟨gc, 0, none⟩) hgc).trans hc
        have c1 := (hb.cell (p := ⟨b, o + k, none⟩) hbl).trans hq0
        have c2 := (hb.cell (p := ⟨b, o + q, none⟩) hbl).trans hq1
        go_simp
        try exact rfl
      refine rs_call quietRS_ok quiet_any (TEq (.int .i64 cm)) (stb_eq _ _) 58 _ _ rfl (fun ρ w' ho hK => by
        have ho : Only _ wy w' := ho
        obtain ⟨h0, h1, h2, -⟩ := hK
        have h0' : ρ (.func 58) = .func (.func 58) #[] #[] := h0
        have h1' : ρ (.tmp 13) = _ := h1
        have h2' : ρ (.tmp 18) = _ := h2
        refine ⟨#[ρ (.tmp 13), ρ (.tmp 18)], ?_, ?_⟩
        · go_simp
        · rw [h1', h2']
          refine (HCm.out w').mono ?_
          rintro e w2 ⟨rfl, hb⟩
          exact ⟨_, rfl, rfl, hb⟩) ?_
      intro f w9 k9 hk9 hI9 ht9 hcp9
      have E0 : f 0 = _ := ht9 0 (Nat.le_of_ble_eq_true rfl)
      have E1 : f 1 = _ := ht9 1 (Nat.le_of_ble_eq_true rfl)
      conv at E1 => rhs; whnf
      have E2 : f 2 = _ := ht9 2 (Nat.le_of_ble_eq_true rfl)
      have E3 : f 3 = _ := ht9 3 (Nat.le_of_ble_eq_true rfl)
      have E4 : f 4 = _ := ht9 4 (Nat.le_of_ble_eq_true rfl)
      have E5 : f 5 = _ := ht9 5 (Nat.le_of_ble_eq_true rfl)
      conv at E5 => rhs; whnf
      have E6 : f 6 = _ := ht9 6 (Nat.le_of_ble_eq_true rfl)
      have E7 : f 7 = _ := ht9 7 (Nat.le_of_ble_eq_true rfl)
      have E8 : f 8 = _ := ht9 8 (Nat.le_of_ble_eq_true rfl)
      have E9 : f 9 = _ := ht9 9 (Nat.le_of_ble_eq_true rfl)
      have Ho9 : Only _ wy w9 := hI9.2.1
      simp only [putAll, E0, E1, E2, E3, E4, E5, E6, E7, E8, E9, Nat.zero_add, Nat.reduceAdd, Act.put, List.setIfInBounds_toArray, List.set_cons_succ, List.set_cons_zero]
      clear E0 E1 E2 E3 E4 E5 E6 E7 E8 E9
      clear hI9 ht9 hcp9 hk9
      have Hb9 := Lib.hid (Hb.out.trans ((only_below Ho9).mono Hb.out.size))
      clear Ho9
      have hw1 := IntWalk.i64_in (2 * (k : Int)) (by omega)
      have hw2 := IntWalk.i64_in (2 * (k : Int) + (r : Int)) (by omega)
      have hw3 := IntWalk.i64_in (2 * (k : Int) + 1) (by omega)
      have hw4 := IntWalk.i64_in (2 * (k : Int) + 1 - (r : Int)) (by omega)
      rcases hcs with rfl | rfl | rfl
      · rw [if_pos rfl] at HSk
        go_wp2_with fail
        go_ret
        refine ⟨ret_int ?_, Hb9.out⟩
        rw [HU.out, findSome_at hlt HN.out HSk.out, Option.getD_some]
        omega
      · rw [if_neg (by decide), if_pos rfl] at HSk
        go_wp2_with fail
        go_ret
        refine ⟨ret_int ?_, Hb9.out⟩
        rw [HU.out, findSome_at hlt HN.out HSk.out, Option.getD_some]
        omega
      · rw [if_neg (by decide), if_neg (by decide)] at HSk
        go_wp2_with fail
        go_roundw
        case rel => exact ⟨k + 1, by omega, by go_num, Lib.hid (fun j hj => by
          by_cases e : j = k
          · rw [e]; exact HSk.out
          · exact HN.out j (by omega)), Hb9⟩
        case measure => simp [intOf]; omega
    · obtain rfl : k = q := by omega
      go_wp2_with fail
      go_ret
      refine ⟨ret_int ?_, Hb.out⟩
      rw [HU.out, findSome_no HN.out]
      rfl
end Go.Proofs.Ytdgminjbgjbamaa

namespace Go.Proofs.Ytdgminjbgjbamaa
open Go.RowKit
set_option maxRecDepth 100000
set_option maxHeartbeats 8000000
/-! The laws' own comparison of circuits, of one and the same. -/
theorem circInts_same (v v2 : Value) (xs : List Int) (w : World) (h : IntsAt w v xs) (h2 : IntsAt w v2 xs) (hl : xs.length ≤ 1000000) :
    Calls Try.prog 64 #[v, v2] w fun e w' => e = .returned (.bool true) ∧ Drew w w' := by
  obtain ⟨A, c, hv, hc, hcm⟩ := h.shape
  obtain ⟨A2, c2, hv2, hc2, hcm2⟩ := h2.shape
  subst hv hv2
  unfold maxLen at hcm hcm2
  have he1 : ((xs.length : Int) != (xs.length : Int)) = false := by simp
  have H1 := Lib.hid h
  have H2 := Lib.hid h2
  clear h h2
  go_enter Try.func64, Try.ntmps64
  go_wp2_with fail
  go_loopw [5] (fun i wr => ∃ (k : Nat), k ≤ xs.length ∧ i = .int .i64 k ∧ Drew w wr) (fun i _ => xs.length - (intOf i).toNat)
  case atStart => exact ⟨0, Nat.zero_le _, rfl, Drew.refl _⟩
  case round =>
    obtain ⟨k, hk, rfl, hd⟩ := hrel
    by_cases hlt : k < xs.length
    · obtain ⟨b, o, c', hv, _, _, hbl, hcell⟩ := H1.out.open (by omega)
      obtain ⟨rfl, _⟩ : A = some ⟨b, o, none⟩ ∧ True := by injection hv with e1; exact ⟨e1, trivial⟩
      obtain ⟨b2, o2, c2', hv2, _, _, hbl2, hcell2⟩ := H2.out.open (by omega)
      obtain ⟨rfl, _⟩ : A2 = some ⟨b2, o2, none⟩ ∧ True := by injection hv2 with e1; exact ⟨e1, trivial⟩
      obtain ⟨x, hx, hs⟩ := ints_at hlt
      have hsrc : wr.cell? ⟨b, o + k, none⟩ = some (.int .i64 x) := (hd.cell _).trans (hcell k _ hs)
      have hsrc2 : wr.cell? ⟨b2, o2 + k, none⟩ = some (.int .i64 x) := (hd.cell _).trans (hcell2 k _ hs)
      have hxx : (x != x) = false := by simp
      have Hd := Lib.hid hd
      clear hcell hcell2 hv hv2 hs hx hd
      go_wp2_with fail
      go_quiet (fail)
      go_wp2_with fail
      go_roundw
      case rel => exact ⟨k + 1, by omega, by go_num, Hd.out.more _⟩
      case measure => simp [intOf]; omega
    · go_wp2_with fail
      go_ret
      exact ⟨rfl, hd⟩
theorem sameCircuit_same (v v2 : Value) (c : Cz) (w : World) (h : CircAt w v c) (h2 : CircAt w v2 c) (l1 : c.next.length ≤ 1000000) (l2 : c.gates.length ≤ 1000000) (l3 : c.outs.length ≤ 1000000) :
    Calls Try.prog 21 #[v, v2] w fun e w' => e = .returned (.bool true) ∧ Below w.heap.size w w' := by
  obtain ⟨An, cn, Ag, cg, Ao, co, rfl⟩ := h.shape
  obtain ⟨Bn, dn, Bg, dg, Bo, d_o, rfl⟩ := h2.shape
  obtain ⟨vn, vg, vo, e, r1, r2, r3⟩ := h
  injection e with e
  simp only [Array.mk.injEq, List.cons.injEq, and_true] at e
  obtain ⟨-, e1, e2, e3⟩ := e
  subst e1 e2 e3
  obtain ⟨un, ug, uo, e, s1, s2, s3⟩ := h2
  injection e with e
  simp only [Array.mk.injEq, List.cons.injEq, and_true] at e
  obtain ⟨-, e1, e2, e3⟩ := e
  subst e1 e2 e3
  have R1 := Lib.hid r1
  have R2 := Lib.hid r2
  have R3 := Lib.hid r3
  have S1 := Lib.hid s1
  have S2 := Lib.hid s2
  have S3 := Lib.hid s3
  clear r1 r2 r3 s1 s2 s3
  have hn : ((c.ins : Int) != c.ins) = false := by simp
  have hg : ((c.gates.length : Int) != c.gates.length) = false := by simp
  have hb1 := bel_new w (.cells #[.int .i64 c.ins, .slice An c.next.length cn, .slice Ag c.gates.length cg, .slice Ao c.outs.length co] 26)
  have P1 := PCells.boxed w c.ins (.slice An c.next.length cn) (.slice Ag c.gates.length cg) (.slice Ao c.outs.length co) 26
  obtain ⟨W1, hW1⟩ : ∃ W1, w.alloc (.cells #[.int .i64 c.ins, .slice An c.next.length cn, .slice Ag c.gates.length cg, .slice Ao c.outs.length co] 26) = W1 := ⟨_, rfl⟩
  rw [hW1] at hb1 P1
  have hb2 := bel_new W1 (.cells #[.int .i64 c.ins, .slice Bn c.next.length dn, .slice Bg c.gates.length dg, .slice Bo c.outs.length d_o] 26)
  have P2 := PCells.boxed W1 c.ins (.slice Bn c.next.length dn) (.slice Bg c.gates.length dg) (.slice Bo c.outs.length d_o) 26
  obtain ⟨W2, hW2⟩ : ∃ W2, W1.alloc (.cells #[.int .i64 c.ins, .slice Bn c.next.length dn, .slice Bg c.gates.length dg, .slice Bo c.outs.length d_o] 26) = W2 := ⟨_, rfl⟩
  rw [hW2] at hb2 P2
  have HB2 := Lib.hid (hb1.trans (hb2.mono hb1.size))
  have P1 := P1.below hb2
  obtain ⟨g1, hg1⟩ : ∃ g, w.heap.size = g := ⟨_, rfl⟩
  obtain ⟨g2, hg2⟩ : ∃ g, W1.heap.size = g := ⟨_, rfl⟩
  rw [hg1] at P1
  rw [hg2] at P2
  have P1h := Lib.hid P1
  have P2h := Lib.hid P2
  obtain ⟨z1, p0, p1, p2, p3⟩ := P1
  obtain ⟨z2, q0, q1, q2, q3⟩ := P2
  clear hb1 hb2
  go_enter Try.func21, Try.ntmps21
  go_wp2_with fail
  clear hW1 hW2 hg2
  have T1 := R1.out.below HB2.out
  have T2 := S1.out.below HB2.out
  refine (circInts_same _ _ c.next _ T1 T2 l1).mono ?_
  rintro e w1 ⟨rfl, hd⟩
  have hb := hd.below W2.heap.size
  have HB3 := Lib.hid (HB2.out.trans (hb.mono HB2.out.size))
  have P1h := Lib.hid (P1h.out.below hb)
  have P2h := Lib.hid (P2h.out.below hb)
  clear HB2 T1 T2 hd hb z1 p0 p1 p2 p3 z2 q0 q1 q2 q3 R1 S1
  obtain ⟨z1, p0, p1, p2, p3⟩ := P1h.out
  obtain ⟨z2, q0, q1, q2, q3⟩ := P2h.out
  have T1 := R3.out.below HB3.out
  have T2 := S3.out.below HB3.out
  go_wp2_with fail
  refine (circInts_same _ _ c.outs _ T1 T2 l3).mono ?_
  rintro e w2 ⟨rfl, hd⟩
  have hb := hd.below w1.heap.size
  have HB4 := Lib.hid (HB3.out.trans (hb.mono HB3.out.size))
  have P1h := Lib.hid (P1h.out.below hb)
  have P2h := Lib.hid (P2h.out.below hb)
  clear HB3 T1 T2 hd hb z1 p0 p1 p2 p3 z2 q0 q1 q2 q3 R3 S3
  obtain ⟨z1, p0, p1, p2, p3⟩ := P1h.out
  obtain ⟨z2, q0, q1, q2, q3⟩ := P2h.out
  go_wp2_with fail
  go_loopw [5] (fun i wr => ∃ (k : Nat), k ≤ c.gates.length ∧ i = .int .i64 k ∧ Drew w2 wr) (fun i _ => c.gates.length - (intOf i).toNat)
  case atStart => exact ⟨0, Nat.zero_le _, rfl, Drew.refl _⟩
  case round =>
    obtain ⟨k, hk, rfl, hd⟩ := hrel
    have a2 := (hd.cell _).trans p2
    have b2 := (hd.cell _).trans q2
    clear z1 p0 p1 p2 p3 z2 q0 q1 q2 q3
    by_cases hlt : k < c.gates.length
    · obtain ⟨b, o, x, rfl, hbl, hx, hs1, hs2⟩ := cubes_open R2.out (HB4.out.trans ((hd.below w2.heap.size).mono HB4.out.size)) rfl hlt
      obtain ⟨b2, o2, y, rfl, hbl2, hy, ht1, ht2⟩ := cubes_open S2.out (HB4.out.trans ((hd.below w2.heap.size).mono HB4.out.size)) rfl hlt
      have hxy : x = y := Option.some.inj (hx.out.symm.trans hy.out)
      subst hxy
      have Hd := Lib.hid hd
      clear hx hy hd
      have h1 : (x.1 == x.1) = true := by simp
      have h2 : (x.2 == x.2) = true := by simp
      go_wp2_with fail
      go_quiet (fail)
      go_wp2_with fail
      go_roundw
      case rel => exact ⟨k + 1, by omega, by go_num, Hd.out.more _⟩
      case measure => simp [intOf]; omega
    · go_wp2_with fail
      go_ret
      exact ⟨rfl, HB4.out.trans ((hd.below w2.heap.size).mono HB4.out.size)⟩
end Go.Proofs.Ytdgminjbgjbamaa

namespace Go.Proofs.Ytdgminjbgjbamaa
/-! Decoders, plainly. -/
namespace Cir
def decY (v k : Nat) : Nat := 2 * (1 + k) + 1 - v / 2 ^ k % 2
def decGo (F v : Nat) : Nat → Nat × List (Nat × Nat)
  | 0 => (1, [])
  | k + 1 => andB F (decGo F v k).2 (decGo F v k).1 (decY v k)
def decI (n v : Nat) : Ci := { ins := n, next := [], gates := (decGo (1 + n) v n).2.reverse, outs := [(decGo (1 + n) v n).1] }
theorem dec_inv (F v : Nat) (hF : 0 < F) : ∀ k, k + 1 ≤ F → (decGo F v k).2.length ≤ k ∧ (decGo F v k).1 < 2 * (F + (decGo F v k).2.length)
  | 0, h => ⟨Nat.le_refl _, by show 1 < 2 * (F + 0); omega⟩
  | k + 1, h => by
    obtain ⟨h1, h2⟩ := dec_inv F v hF k (by omega)
    rw [decGo]
    generalize decGo F v k = p at *
    have hl := andB_len F p.2 p.1 (decY v k)
    have hy : decY v k < 2 * (F + p.2.length) := by unfold decY; omega
    have ht := andB_lt hF h2 hy
    omega
/-- The decoder of any numbers. -/
def decZ (n v : Int) : Cz := if 1 ≤ n ∧ n ≤ 2 ∧ 0 ≤ v ∧ v < (2 : Int) ^ n.toNat then toCz (decI n.toNat v.toNat) else ⟨0, [], [], []⟩
end Cir
end Go.Proofs.Ytdgminjbgjbamaa

namespace Go.Proofs.Ytdgminjbgjbamaa
open Go.RowKit Go.Maps
set_option maxRecDepth 100000
set_option maxHeartbeats 8000000
/-! Decoders, by the program. -/
theorem decoder_ok (n v : Nat) (w : World) (h1 : 1 ≤ n) (h2 : n ≤ 2) (hv : v < 2 ^ n) :
    Calls Try.prog 27 #[.int .i64 (n : Int), .int .i64 (v : Int)] w fun e w' => (∃ v', e = .returned v' ∧ CircAt w' v' (Cir.toCz (Cir.decI n v))) ∧ Below w.heap.size w w' := by
  have h4 : 2 ^ n ≤ 4 := Nat.pow_le_pow_right (show 0 < 2 by decide) h2
  have d1 : decide ((n : Int) < 1) = false := decide_eq_false (by omega)
  have d2 : decide ((n : Int) > 2) = false := decide_eq_false (by omega)
  have d3 : decide ((v : Int) < 0) = false := decide_eq_false (by omega)
  obtain ⟨M, hM⟩ : ∃ M, M = 2 ^ n := ⟨_, rfl⟩
  have e2 : (2 : Int) ^ n = (M : Int) := by rw [hM]; exact two_pow n
  rw [← hM] at hv h4
  have hwM := IntWalk.i64_in (M : Int) (by omega)
  have hwu : IntKind.u64.wrap (n : Int) = n := by rw [IntKind.wrap_u64]; omega
  have d4 : decide ((v : Int) ≥ (M : Int)) = false := decide_eq_false (by omega)
  have hbR := bel_new w (.cells #[.int .i64 0, .slice none 0 0, .slice none 0 0, .slice none 0 0] 26)
  have hR0 := heap_alloc_new w (.cells #[.int .i64 0, .slice none 0 0, .slice none 0 0, .slice none 0 0] 26)
  have hzR : (w.alloc (.cells #[.int .i64 0, .slice none 0 0, .slice none 0 0, .slice none 0 0] 26)).heap.size = w.heap.size + 1 := by simp
  have HInv : Hid (∀ k, k ≤ n → (Cir.decGo (1 + n) v k).2.length ≤ k ∧ (Cir.decGo (1 + n) v k).1 < 2 * (1 + n + (Cir.decGo (1 + n) v k).2.length)) := Lib.hid fun k hk => Cir.dec_inv (1 + n) v (by omega) k (by omega)
  have HNb : Hid (∀ w', Calls Try.prog 71 #[.int .i64 (n : Int), .int .i64 0] w' fun e w'' => ∃ b E, e = .returned (.pointer (some ⟨b, 0, none⟩)) ∧ BldAt w'.heap.size b (1 + n) [] E w'' ∧ Below w'.heap.size w' w'') := Lib.hid fun w' => newBld_any n 0 w' (by omega) (by omega)
  have HRes : Hid (Cir.decI n v = { ins := n, next := [], gates := (Cir.decGo (1 + n) v n).2.reverse, outs := [(Cir.decGo (1 + n) v n).1] }) := Lib.hid rfl
  have HStep : Hid (∀ k, Cir.decGo (1 + n) v (k + 1) = Cir.andB (1 + n) (Cir.decGo (1 + n) v k).2 (Cir.decGo (1 + n) v k).1 (Cir.decY v k)) := Lib.hid fun k => rfl
  have HG0 : Hid (Cir.decGo (1 + n) v 0 = (1, [])) := Lib.hid rfl
  obtain ⟨F, hF⟩ : ∃ F, F = 1 + n := ⟨_, rfl⟩
  rw [← hF] at HInv HNb HRes HStep HG0
  have HFn : Hid (F = 1 + n) := Lib.hid hF
  clear hF hM
  go_enter Try.func27, Try.ntmps27
  go_wp2_with fail
  generalize w.alloc (.cells #[.int .i64 0, .slice none 0 0, .slice none 0 0, .slice none 0 0] 26) = W0 at *
  obtain ⟨gR, hgR⟩ : ∃ gR, gR = w.heap.size := ⟨_, rfl⟩
  rw [← hgR] at hR0 ⊢
  have hwR : w.heap.size ≤ gR := by omega
  have hgRz : gR < W0.heap.size := by omega
  rw [hgR]
  refine (HNb.out W0).mono ?_
  rw [← hgR]
  rintro e w1 ⟨b, E0, rfl, hB, hb1⟩
  obtain ⟨B0, hB0⟩ : ∃ B0, B0 = W0.heap.size := ⟨_, rfl⟩
  rw [← hB0] at hB
  have HB1 : Hid (BldAt B0 b F (Cir.decGo F v 0).2 E0 w1) := Lib.hid (by rw [HG0.out]; exact hB)
  have HR1 := Lib.hid ((hb1.block gR hgRz).trans hR0)
  have Hb1 := Lib.hid (hbR.trans (hb1.mono hbR.size))
  have HEn : Hid ((Cir.decGo F v 0).1 = 1) := Lib.hid (by rw [HG0.out])
  have hgRB : gR < B0 := by omega
  have hwB : w.heap.size ≤ B0 := by omega
  clear hB hb1 hbR hR0 hgR HNb HG0 hB0
  go_wp2_with fail
  go_loopw [6, 28] (fun en i wr => ∃ (k : Nat) (E : Nat → Prop), k ≤ n ∧ i = .int .i64 k ∧ en = .int .i64 (((Cir.decGo F v k).1 : Nat) : Int) ∧ Hid (BldAt B0 b F (Cir.decGo F v k).2 E wr) ∧ Hid (wr.heap[gR]? = some (.cells #[.int .i64 0, .slice none 0 0, .slice none 0 0, .slice none 0 0] 26 (0, 0))) ∧ Hid (Below w.heap.size w wr)) (fun _ i _ => n - (intOf i).toNat)
  case atStart => exact ⟨0, E0, Nat.zero_le _, rfl, by rw [HEn.out]; rfl, HB1, HR1, Hb1⟩
  case round =>
    obtain ⟨k, E, hk, rfl, rfl, HB, HR, Hb⟩ := hrel
    clear HB1 HR1 Hb1 HEn
    obtain ⟨hi1, hi2⟩ := HInv.out k hk
    have hgRz' := blk_ltB HR.out
    by_cases hlt : k < n
    · have HS := Lib.hid (HStep.out k)
      have hFn := HFn.out
      generalize Cir.decGo F v k = p at *
      obtain ⟨en, G⟩ := p
      simp only at hi1 hi2 HS
      have hq : (v : Int) / 2 ^ k = ((v / 2 ^ k : Nat) : Int) := by rw [Int.natCast_ediv, two_pow]
      have hvk : v / 2 ^ k ≤ 1000 := Nat.le_trans (Nat.div_le_self _ _) (by omega)
      have hm : bits .and .i64 ((v / 2 ^ k : Nat) : Int) 1 = ((v / 2 ^ k % 2 : Nat) : Int) := and_one_nat _ (by omega)
      have hY : Cir.decY v k = 2 * (1 + k) + 1 - v / 2 ^ k % 2 := rfl
      generalize v / 2 ^ k = vq at *
      have hr2 : vq % 2 ≤ 1 := by omega
      generalize vq % 2 = r at *
      obtain ⟨y, hy⟩ : ∃ y, y = Cir.decY v k := ⟨_, rfl⟩
      rw [← hy] at HS hY
      have hyb : y < 2 * (F + G.length) := by omega
      have hw1 : IntKind.i64.wrap (1 + (k : Int)) = 1 + k := IntWalk.i64_in _ (by omega)
      have hw2 : IntKind.i64.wrap (2 * (1 + (k : Int))) = 2 * (1 + (k : Int)) := IntWalk.i64_in _ (by omega)
      have hw3 : IntKind.i64.wrap (2 * (1 + (k : Int)) + 1) = 2 * (1 + (k : Int)) + 1 := IntWalk.i64_in _ (by omega)
      have hw4 : IntKind.i64.wrap (2 * (1 + (k : Int)) + 1 - (r : Int)) = (y : Int) := by
        rw [IntWalk.i64_in _ (by omega)]
        omega
      have hwku : IntKind.u64.wrap (k : Int) = k := by rw [IntKind.wrap_u64]; omega
      have hB' : BldAt B0 b F G E wr := HB.out
      have HAn := Lib.hid (and_any en y wr hB' (by omega) (by omega) hi2 hyb)
      clear hB'
      have hElo : ∀ q, E q → B0 ≤ q ∧ q < wr.heap.size := fun q hq => by obtain ⟨_, _, _, _, h⟩ := HB.out; exact h.lo q hq
      have HElo := Lib.hid hElo
      clear hy hY hElo hFn
      go_wp2_with fail
      refine HAn.out.mono ?_
      rintro e w2 ⟨rfl, E2, hB2, hn2, hi2', ho2⟩
      have HB2 := Lib.hid hB2
      have HR2 := Lib.hid ((ho2.block gR hgRz' (fun e => by have := (HElo.out gR e).1; omega)).trans HR.out)
      have Hb2 := Lib.hid (Only.below Hb.out ho2 Hb.out.size (fun q hq => by have := (HElo.out q hq).1; omega))
      clear hB2 hn2 hi2' ho2 HR Hb HB HAn
      go_wp2_with fail
      go_roundw
      case rel => exact ⟨k + 1, E2, by omega, by go_num, by rw [HS.out], Lib.hid (by rw [HS.out]; exact HB2.out), HR2, Hb2⟩
      case measure => simp [intOf]; omega
    · obtain rfl : k = n := by omega
      obtain ⟨mm, vg, vl, L, hBd⟩ := HB.out
      obtain ⟨A2, c2, hv2⟩ := slice_of_own hBd.gs
      subst hv2
      obtain ⟨GL, hGL⟩ : ∃ GL, GL = (Cir.decGo F v k).2.length := ⟨_, rfl⟩
      obtain ⟨ov, hov⟩ : ∃ ov, ov = (Cir.decGo F v k).1 := ⟨_, rfl⟩
      have HGL := Lib.hid (And.intro hGL hov)
      have hgs := hBd.gs
      rw [← hGL] at hgs
      rw [← hov]
      have hb5 := bel_new wr (.cells #[.int .i64 (ov : Int)] 3)
      have hr5 := World.ownsRow_lit (base := wr.heap.size) (e := 3) (size := 1) wr #[.int .i64 (ov : Int)] 1 (Nat.le_refl _) (by unfold maxLen; omega) rfl
      have hsz5 : (wr.alloc (.cells #[.int .i64 (ov : Int)] 3)).heap.size = wr.heap.size + 1 := by simp
      obtain ⟨W5, hW5⟩ : ∃ W5, wr.alloc (.cells #[.int .i64 (ov : Int)] 3) = W5 := ⟨_, rfl⟩
      rw [hW5] at hb5 hr5 hsz5
      have hbz : b < wr.heap.size := (hBd.lo b hBd.eb).2
      have p0 := blk_cell hBd.box 1
      have p1 := (hb5.cell (p := ⟨b, 1, none⟩) hbz).trans (blk_cell hBd.box 1)
      have hR5 := (hb5.block gR hgRz').trans HR.out
      have r0 := blk_cell hR5 0
      have r1 := blk_cell hR5 1
      have r2 := blk_cell hR5 2
      have r3 := blk_cell hR5 3
      have f0 := blk_free hR5 0
      have f1 := blk_free hR5 1
      have f2 := blk_free hR5 2
      have f3 := blk_free hR5 3
      simp at p0 p1 r0 r1 r2 r3
      rw [← hGL] at p0 p1
      have HG := Lib.hid (own_below hgs hb5)
      have HO := Lib.hid hr5
      have hng : (Value.slice A2 GL c2).ownBlock ≠ some gR := fun e => by have := (hBd.lo gR (hBd.eg gR (by rw [← hGL]; exact e))).1; omega
      have hno : (Value.slice (some ⟨wr.heap.size, 0, none⟩) 1 1).ownBlock ≠ some gR := fun e => by have := Option.some.inj e; simp only at this; omega
      have HNg := Lib.hid (And.intro hng hno)
      have HB5 := Lib.hid (Hb.out.trans (hb5.mono Hb.out.size))
      clear hng hno hBd hgs hlt hGL hov hi1 hi2 HB HR hb5 hr5 hR5
      go_wp2_with fail
      refine bodyPost_ret (v := .agg #[.int .i64 (k : Int), .slice none 0 0, .slice A2 GL c2, .slice (some ⟨wr.heap.size, 0, none⟩) 1 1]) (by simp [results, Try.results27, go_sem, r0, r1, r2, r3]) rfl ⟨⟨_, rfl, .slice none 0 0, .slice A2 GL c2, .slice (some ⟨wr.heap.size, 0, none⟩) 1 1, by rw [HRes.out]; rfl, ?_, ?_, ?_⟩, ?_⟩
      · rw [HRes.out]
        exact Row.of_own (World.ownsRow_nil _ 0 3 1)
      · have el : (Cir.toCz (Cir.decI k v)).gates.length = GL := by rw [HRes.out, HGL.out.1]; simp [Cir.toCz]
        unfold CubesAt
        rw [el, HRes.out]
        exact Row.of_own (own_setN (own_setN (own_setN (own_setN HG.out HNg.out.1) HNg.out.1) HNg.out.1) HNg.out.1)
      · rw [HRes.out, ← HGL.out.2]
        exact Row.of_own (own_setN (own_setN (own_setN (own_setN HO.out HNg.out.2) HNg.out.2) HNg.out.2) HNg.out.2)
      · exact (((HB5.out.setCell hwR _).setCell hwR _).setCell hwR _).setCell hwR _
theorem decoder_no (n v : Int) (w : World) (hn : -10 ≤ n ∧ n ≤ 10) (h : ¬ (1 ≤ n ∧ n ≤ 2 ∧ 0 ≤ v ∧ v < (2 : Int) ^ n.toNat)) :
    Calls Try.prog 27 #[.int .i64 n, .int .i64 v] w fun e w' => (∃ v', e = .returned v' ∧ CircAt w' v' ⟨0, [], [], []⟩) ∧ Below w.heap.size w w' := by
  have hb0 := bel_new w (.cells #[.int .i64 0, .slice none 0 0, .slice none 0 0, .slice none 0 0] 26)
  have hR0 := heap_alloc_new w (.cells #[.int .i64 0, .slice none 0 0, .slice none 0 0, .slice none 0 0] 26)
  obtain ⟨W0, hW0⟩ : ∃ W0, w.alloc (.cells #[.int .i64 0, .slice none 0 0, .slice none 0 0, .slice none 0 0] 26) = W0 := ⟨_, rfl⟩
  rw [hW0] at hb0 hR0
  have r0 := blk_cell hR0 0
  have r1 := blk_cell hR0 1
  have r2 := blk_cell hR0 2
  have r3 := blk_cell hR0 3
  have f0 := blk_free hR0 0
  have f1 := blk_free hR0 1
  have f2 := blk_free hR0 2
  have f3 := blk_free hR0 3
  simp at r0 r1 r2 r3
  have HB := Lib.hid hb0
  have HE : Hid (∀ u0 u1 u2 u3 : Value, Below w.heap.size w ((((W0.setCell ⟨w.heap.size, 0, none⟩ u0).setCell ⟨w.heap.size, 1, none⟩ u1).setCell ⟨w.heap.size, 2, none⟩ u2).setCell ⟨w.heap.size, 3, none⟩ u3)) := Lib.hid fun u0 u1 u2 u3 => (((HB.out.setCell (p := ⟨w.heap.size, 0, none⟩) (Nat.le_refl _) _).setCell (p := ⟨w.heap.size, 1, none⟩) (Nat.le_refl _) _).setCell (p := ⟨w.heap.size, 2, none⟩) (Nat.le_refl _) _).setCell (p := ⟨w.heap.size, 3, none⟩) (Nat.le_refl _) _
  clear hb0 hR0
  by_cases c1 : n < 1
  · have d1 : decide (n < 1) = true := decide_eq_true c1
    clear h
    go_enter Try.func27, Try.ntmps27
    go_wp2_with fail
    exact bodyPost_ret (v := .agg #[.int .i64 0, .slice none 0 0, .slice none 0 0, .slice none 0 0]) (by simp [results, Try.results27, go_sem, r0, r1, r2, r3]) rfl ⟨⟨_, rfl, _, _, _, rfl, Row.of_own (World.ownsRow_nil _ 0 3 1), Row.of_own (World.ownsRow_nil _ 0 72 2), Row.of_own (World.ownsRow_nil _ 0 3 1)⟩, HE.out _ _ _ _⟩
  have d1 : decide (n < 1) = false := decide_eq_false c1
  by_cases c2 : n > 2
  · have d2 : decide (n > 2) = true := decide_eq_true c2
    clear h
    go_enter Try.func27, Try.ntmps27
    go_wp2_with fail
    exact bodyPost_ret (v := .agg #[.int .i64 0, .slice none 0 0, .slice none 0 0, .slice none 0 0]) (by simp [results, Try.results27, go_sem, r0, r1, r2, r3]) rfl ⟨⟨_, rfl, _, _, _, rfl, Row.of_own (World.ownsRow_nil _ 0 3 1), Row.of_own (World.ownsRow_nil _ 0 72 2), Row.of_own (World.ownsRow_nil _ 0 3 1)⟩, HE.out _ _ _ _⟩
  have d2 : decide (n > 2) = false := decide_eq_false c2
  by_cases c3 : v < 0
  · have d3 : decide (v < 0) = true := decide_eq_true c3
    clear h
    go_enter Try.func27, Try.ntmps27
    go_wp2_with fail
    exact bodyPost_ret (v := .agg #[.int .i64 0, .slice none 0 0, .slice none 0 0, .slice none 0 0]) (by simp [results, Try.results27, go_sem, r0, r1, r2, r3]) rfl ⟨⟨_, rfl, _, _, _, rfl, Row.of_own (World.ownsRow_nil _ 0 3 1), Row.of_own (World.ownsRow_nil _ 0 72 2), Row.of_own (World.ownsRow_nil _ 0 3 1)⟩, HE.out _ _ _ _⟩
  have d3 : decide (v < 0) = false := decide_eq_false c3
  obtain ⟨m, hm⟩ : ∃ m : Nat, n = (m : Int) := ⟨n.toNat, by omega⟩
  subst hm
  have hm2 : m ≤ 2 := by omega
  have h4 : 2 ^ m ≤ 4 := Nat.pow_le_pow_right (show 0 < 2 by decide) hm2
  obtain ⟨M, hM⟩ : ∃ M, M = 2 ^ m := ⟨_, rfl⟩
  have e2 : (2 : Int) ^ m = (M : Int) := by rw [hM]; exact two_pow m
  rw [← hM] at h4
  have hwM := IntWalk.i64_in (M : Int) (by omega)
  have hwu : IntKind.u64.wrap (m : Int) = m := by rw [IntKind.wrap_u64]; omega
  have d4 : decide (v ≥ (M : Int)) = true := decide_eq_true (by
    rcases Int.lt_or_le v (M : Int) with hlt | hge
    · exact absurd ⟨by omega, by omega, by omega, by rw [Int.toNat_natCast, e2]; exact hlt⟩ h
    · exact hge)
  clear h hM
  go_enter Try.func27, Try.ntmps27
  go_wp2_with fail
  exact bodyPost_ret (v := .agg #[.int .i64 0, .slice none 0 0, .slice none 0 0, .slice none 0 0]) (by simp [results, Try.results27, go_sem, r0, r1, r2, r3]) rfl ⟨⟨_, rfl, _, _, _, rfl, Row.of_own (World.ownsRow_nil _ 0 3 1), Row.of_own (World.ownsRow_nil _ 0 72 2), Row.of_own (World.ownsRow_nil _ 0 3 1)⟩, HE.out _ _ _ _⟩
theorem decoder_any (n v : Int) (w : World) (hn : -10 ≤ n ∧ n ≤ 10) :
    Calls Try.prog 27 #[.int .i64 n, .int .i64 v] w fun e w' => (∃ v', e = .returned v' ∧ CircAt w' v' (Cir.decZ n v)) ∧ Below w.heap.size w w' := by
  by_cases h : 1 ≤ n ∧ n ≤ 2 ∧ 0 ≤ v ∧ v < (2 : Int) ^ n.toNat
  · obtain ⟨m, hm⟩ : ∃ m : Nat, n = (m : Int) := ⟨n.toNat, by omega⟩
    obtain ⟨x, hx⟩ : ∃ x : Nat, v = (x : Int) := ⟨v.toNat, by omega⟩
    have e : Cir.decZ n v = Cir.toCz (Cir.decI m x) := by
      unfold Cir.decZ
      rw [if_pos h, hm, hx, Int.toNat_natCast, Int.toNat_natCast]
    rw [e]
    subst hm hx
    rw [Int.toNat_natCast, two_pow] at h
    exact decoder_ok m x w (by omega) (by omega) (by omega)
  · have e : Cir.decZ n v = ⟨0, [], [], []⟩ := by unfold Cir.decZ; rw [if_neg h]
    rw [e]
    exact decoder_no n v w hn h
end Go.Proofs.Ytdgminjbgjbamaa

namespace Go.Proofs.Ytdgminjbgjbamaa
open Go.RowKit Go.Maps
set_option maxRecDepth 100000
set_option maxHeartbeats 8000000
/-! The reference's conjunction over gates. -/
namespace Cir
theorem gatesOf_get (G : List (Nat × Nat)) (k : Nat) : (gatesOf G)[k]? = (G.reverse[k]?).map fun g => ((g.1 : Int), (g.2 : Int)) := by
  unfold gatesOf
  rw [List.getElem?_map]
theorem known_none {F : Nat} : ∀ {G : List (Nat × Nat)} {x y : Nat}, (∀ j, j < G.length → G.reverse[j]? ≠ some (x, y)) → knownG F G x y = none
  | [], _, _, _ => rfl
  | g :: G, x, y, h => by
    unfold knownG
    rw [known_none (G := G) fun j hj => by
      have := h j (by simp only [List.length_cons]; omega)
      rwa [List.reverse_cons, List.getElem?_append_left (by simpa using hj)] at this]
    have hn : ¬ (x = g.1 ∧ y = g.2) := fun e => by
      have := h G.length (by simp)
      rw [List.reverse_cons, List.getElem?_append_right (by simp)] at this
      apply this
      simp [e.1, e.2]
    simp only [if_neg hn]
theorem known_some {F : Nat} : ∀ {G : List (Nat × Nat)} {x y k : Nat}, (∀ j, j < k → G.reverse[j]? ≠ some (x, y)) → G.reverse[k]? = some (x, y) → knownG F G x y = some (2 * (F + k))
  | [], _, _, k, _, h => by simp at h
  | g :: G, x, y, k, hn, h => by
    unfold knownG
    rw [List.reverse_cons] at h
    by_cases hk : k < G.length
    · rw [List.getElem?_append_left (by simpa using hk)] at h
      rw [known_some (G := G) (fun j hj => by
        have := hn j hj
        rwa [List.reverse_cons, List.getElem?_append_left (by simp; omega)] at this) h]
    · rw [List.getElem?_append_right (by simp; omega), List.length_reverse] at h
      have e : k = G.length := by
        obtain ⟨h1, -⟩ := List.getElem?_eq_some_iff.1 h
        simp at h1
        omega
      subst e
      rw [known_none (G := G) fun j hj => by
        have := hn j hj
        rwa [List.reverse_cons, List.getElem?_append_left (by simpa using hj)] at this]
      simp at h
      simp [h]
theorem xor1_pair {a b : Nat} (h : a ≤ b) : a = b ^^^ 1 ↔ b = a + 1 ∧ a % 2 = 0 := by
  have h1 : (b ^^^ 1) / 2 = b / 2 := by rw [Nat.xor_div_two]; simp
  have h2 : (b ^^^ 1) % 2 = 1 - b % 2 := by
    have := Nat.xor_mod_two_pow (a := b) (b := 1) (n := 1)
    simp at this
    rw [this]
    rcases Nat.mod_two_eq_zero_or_one b with e | e <;> rw [e] <;> rfl
  constructor
  · intro e
    rw [e]
    omega
  · intro ⟨e1, e2⟩
    omega
end Cir
/-- What a conjunction hands back. -/
def AndGive (I : Nat) (vn vo : Value) (r : Nat × List (Nat × Nat)) (w : World) (e : Ending) (w' : World) : Prop :=
  ∃ vg', e = .returned (.tuple #[.agg #[.int .i64 (I : Int), vn, vg', vo], .int .i64 (r.1 : Int)]) ∧ w'.ownsRow 0 72 2 vg' r.2.length (cubes (Cir.gatesOf r.2)) ∧ Below w.heap.size w w'

theorem l3And_st (I a b F : Nat) (An Ao : Option Addr) (cn co ln lo : Nat) (nx os : List Int) (vg : Value) (G : List (Nat × Nat)) (w : World) (hF : F = 1 + I + ln) (hI : I ≤ 100) (hln : ln ≤ 100) (hG : G.length ≤ 100)
    (hn : Row w 1 (.slice An ln cn) ln (ints nx)) (hg : w.ownsRow 0 72 2 vg G.length (cubes (Cir.gatesOf G))) (ho : Row w 1 (.slice Ao lo co) lo (ints os)) (hab : a ≤ b) (hb : b < 2 * (F + G.length)) :
    Calls Try.prog 73 #[.agg #[.int .i64 (I : Int), .slice An ln cn, vg, .slice Ao lo co], .int .i64 (a : Int), .int .i64 (b : Int)] w (AndGive I (.slice An ln cn) (.slice Ao lo co) (Cir.andS F G a b) w) := by
  obtain ⟨Ag, cg, hvg⟩ := slice_of_own hg
  subst hvg
  have dg : decide ((a : Int) > (b : Int)) = false := decide_eq_false (by omega)
  have hb0 := bel_new w (.cells #[.int .i64 (I : Int), .slice An ln cn, .slice Ag G.length cg, .slice Ao lo co] 26)
  have hX0 := heap_alloc_new w (.cells #[.int .i64 (I : Int), .slice An ln cn, .slice Ag G.length cg, .slice Ao lo co] 26)
  have hz0 : (w.alloc (.cells #[.int .i64 (I : Int), .slice An ln cn, .slice Ag G.length cg, .slice Ao lo co] 26)).heap.size = w.heap.size + 1 := by simp
  obtain ⟨W0, hW0⟩ : ∃ W0, w.alloc (.cells #[.int .i64 (I : Int), .slice An ln cn, .slice Ag G.length cg, .slice Ao lo co] 26) = W0 := ⟨_, rfl⟩
  rw [hW0] at hb0 hX0 hz0
  have hR0 := heap_alloc_new W0 (.cells #[.int .i64 0, .slice none 0 0, .slice none 0 0, .slice none 0 0] 26)
  have hb1 := bel_new W0 (.cells #[.int .i64 0, .slice none 0 0, .slice none 0 0, .slice none 0 0] 26)
  have hX1 := (hb1.block w.heap.size (by omega)).trans hX0
  have hB1 := hb0.trans (hb1.mono (by omega))
  rw [hz0] at hR0
  have HL1 : Hid (∀ w', Below w.heap.size w w' → Calls Try.prog 44 #[.agg #[.int .i64 (I : Int), .slice An ln cn, .slice Ag G.length cg, .slice Ao lo co]] w' fun e w'' => e = .returned (.int .i64 (F : Int)) ∧ Below w'.heap.size w' w'') := Lib.hid fun w' hb => by
    have hlx : ln = nx.length := by have := hn.len; rw [ints_length] at this; omega
    have hlo : lo = os.length := by have := ho.len; rw [ints_length] at this; omega
    have hgg : G.length = (Cir.gatesOf G).length := (Cir.gatesOf_length G).symm
    have := l1First_any (.agg #[.int .i64 (I : Int), .slice An ln cn, .slice Ag G.length cg, .slice Ao lo co]) ⟨I, nx, Cir.gatesOf G, os⟩ w' ⟨_, _, _, rfl, by unfold IntsAt; show Row w' 1 _ nx.length _; rw [← hlx]; exact Row.below hn hb, by unfold CubesAt; show Row w' 2 _ (Cir.gatesOf G).length _; rw [← hgg]; exact Row.below (Row.of_own hg) hb, by unfold IntsAt; show Row w' 1 _ os.length _; rw [← hlo]; exact Row.below ho hb⟩ (by show (0 : Int) ≤ I; omega) (by show (I : Int) ≤ 100; omega) (by show nx.length ≤ 100; omega)
    have e : Cir.first ⟨I, nx, Cir.gatesOf G, os⟩ = (F : Int) := by unfold Cir.first; simp only; omega
    rwa [e] at this
  have HGk : Hid (∀ k, k < G.length → ∃ g, G.reverse[k]? = some g ∧ ∀ w', Below w.heap.size w w' → ∃ b o, Ag = some ⟨b, o, none⟩ ∧ w'.cell? ⟨b, o + k * 2, none⟩ = some (.int .i64 (g.1 : Int)) ∧ w'.cell? ⟨b, o + k * 2 + 1, none⟩ = some (.int .i64 (g.2 : Int))) := Lib.hid fun k hk => by
    obtain ⟨g, hgk⟩ : ∃ g, G.reverse[k]? = some g := ⟨_, List.getElem?_eq_getElem (by simpa using hk)⟩
    refine ⟨g, hgk, fun w' hb => ?_⟩
    obtain ⟨b, o, x, hA, hbl, hx, h1, h2⟩ := cubes_open (Row.of_own hg) hb (Cir.gatesOf_length G).symm (i := k) (by rw [Cir.gatesOf_length]; exact hk)
    have e : x = ((g.1 : Int), (g.2 : Int)) := by
      have h3 := hx.out
      rw [Cir.gatesOf_get, hgk] at h3
      exact (Option.some.inj h3).symm
    subst e
    exact ⟨b, o, hA, h1, h2⟩
  have HG := Lib.hid hg
  have hm2 := tmod_two a
  have hwb : 0 < b → IntKind.i64.wrap ((b : Int) - 1) = (b : Int) - 1 := fun _ => IntWalk.i64_in _ (by omega)
  have hCg : cg ≤ maxLen := by obtain ⟨A, c, e, h1, h2⟩ := Row.shape (Row.of_own hg); injection e with e1 e2 e3; rw [e3]; exact h2
  have hFb : F ≤ 300 := by omega
  obtain ⟨rp, hrp⟩ : ∃ rp, Cir.andS F G a b = rp := ⟨_, rfl⟩
  rw [hrp]
  clear hn hg ho hb0 hb1 hX0 hF
  go_enter Try.func73, Try.ntmps73
  go_upto_region 5 with fail
  generalize W0.alloc (.cells #[.int .i64 0, .slice none 0 0, .slice none 0 0, .slice none 0 0] 26) = W1 at *
  obtain ⟨gx, hgx⟩ : ∃ gx, gx = w.heap.size := ⟨_, rfl⟩
  obtain ⟨gR, hgR⟩ : ∃ gR, gR = w.heap.size + 1 := ⟨_, rfl⟩
  try rw [hz0]
  rw [← hgR] at hR0
  rw [← hgx] at hX1
  rw [← hgR, ← hgx]
  have hwR : w.heap.size ≤ gR := by omega
  have hwx : w.heap.size ≤ gx := by omega
  have hxR : gx ≠ gR := by omega
  have hgx1 := blk_ltB hX1
  have hgR1 := blk_ltB hR0
  have HX1 := Lib.hid hX1
  have HR1 := Lib.hid hR0
  have HB1 := Lib.hid hB1
  have q0 := blk_cell hX1 0
  have q1 := blk_cell hX1 1
  have q2 := blk_cell hX1 2
  have q3 := blk_cell hX1 3
  have r0 := blk_cell hR0 0
  have r1 := blk_cell hR0 1
  have r2 := blk_cell hR0 2
  have r3 := blk_cell hR0 3
  have f0 := blk_free hR0 0
  have f1 := blk_free hR0 1
  have f2 := blk_free hR0 2
  have f3 := blk_free hR0 3
  simp at q0 q1 q2 q3 r0 r1 r2 r3
  have HG1 : Hid (∀ u0 u1 u2 u3 : Value, ((((W1.setCell ⟨gR, 0, none⟩ u0).setCell ⟨gR, 1, none⟩ u1).setCell ⟨gR, 2, none⟩ u2).setCell ⟨gR, 3, none⟩ u3).ownsRow 0 72 2 (.slice Ag G.length cg) G.length (cubes (Cir.gatesOf G)) ∧ Below w.heap.size w ((((W1.setCell ⟨gR, 0, none⟩ u0).setCell ⟨gR, 1, none⟩ u1).setCell ⟨gR, 2, none⟩ u2).setCell ⟨gR, 3, none⟩ u3)) := Lib.hid fun u0 u1 u2 u3 => by
    have ow := own_below HG.out HB1.out
    have nt := own_ne_tag ow HR1.out (by decide)
    exact ⟨own_setN (own_setN (own_setN (own_setN ow nt) nt) nt) nt, (((HB1.out.setCell hwR _).setCell hwR _).setCell hwR _).setCell hwR _⟩
  clear hW0 hz0 hgx hgR hX1 hR0 hB1 dg
  unfold Cir.andS at hrp
  by_cases c0 : a = 0
  · rw [if_pos (.inl c0)] at hrp
    subst hrp
    have d0 : ((a : Int) == 0) = true := by simp; omega
    clear c0 hm2 hwb
    go_wp2_with fail
    refine bodyPost_ret (v := .tuple #[.agg #[.int .i64 (I : Int), .slice An ln cn, .slice Ag G.length cg, .slice Ao lo co], .int .i64 0]) (by simp [results, Try.results73, go_sem, r0, r1, r2, r3]) rfl ⟨_, rfl, (HG1.out _ _ _ _).1, (HG1.out _ _ _ _).2⟩
  have d0 : ((a : Int) == 0) = false := by simp; omega
  have hwb' := hwb (by omega)
  clear hwb
  by_cases c1 : a = b ^^^ 1
  · rw [if_pos (.inr c1)] at hrp
    subst hrp
    obtain ⟨e1, e2⟩ := (Cir.xor1_pair (by omega)).1 c1
    have d1 : ((a : Int) == (b : Int) - 1) = true := by simp; omega
    have d2 : (((a % 2 : Nat) : Int) == 0) = true := by rw [e2]; rfl
    clear c1 e1 e2
    generalize a % 2 = r at *
    go_wp2_with fail
    refine bodyPost_ret (v := .tuple #[.agg #[.int .i64 (I : Int), .slice An ln cn, .slice Ag G.length cg, .slice Ao lo co], .int .i64 0]) (by simp [results, Try.results73, go_sem, r0, r1, r2, r3]) rfl ⟨_, rfl, (HG1.out _ _ _ _).1, (HG1.out _ _ _ _).2⟩
  rw [if_neg (by rintro (h | h); exact c0 h; exact c1 h)] at hrp
  have hdd : ((a : Int) == (b : Int) - 1) = false ∨ (((a : Int) == (b : Int) - 1) = true ∧ (((a % 2 : Nat) : Int) == 0) = false) := by
    by_cases e : b = a + 1
    · right
      have h2 : ¬ (a % 2 = 0) := fun h => c1 ((Cir.xor1_pair (by omega)).2 ⟨e, h⟩)
      exact ⟨by simp; omega, by simp; omega⟩
    · left
      simp
      omega
  clear c1
  generalize a % 2 = r at *
  by_cases c2 : a = 1
  · rw [if_pos (.inl c2)] at hrp
    subst hrp
    have d3 : ((a : Int) == 1) = true := by simp; omega
    clear c2 c0
    rcases hdd with d1 | ⟨d1, d2⟩
    all_goals
      go_wp2_with fail
      refine bodyPost_ret (v := .tuple #[.agg #[.int .i64 (I : Int), .slice An ln cn, .slice Ag G.length cg, .slice Ao lo co], .int .i64 (b : Int)]) (by simp [results, Try.results73, go_sem, r0, r1, r2, r3]) rfl ⟨_, rfl, (HG1.out _ _ _ _).1, (HG1.out _ _ _ _).2⟩
  have d3 : ((a : Int) == 1) = false := by simp; omega
  by_cases c3 : a = b
  · rw [if_pos (.inr c3)] at hrp
    subst hrp
    have d4 : ((a : Int) == (b : Int)) = true := by simp; omega
    clear c3 c2 c0
    rcases hdd with d1 | ⟨d1, d2⟩
    all_goals
      go_wp2_with fail
      refine bodyPost_ret (v := .tuple #[.agg #[.int .i64 (I : Int), .slice An ln cn, .slice Ag G.length cg, .slice Ao lo co], .int .i64 (b : Int)]) (by simp [results, Try.results73, go_sem, r0, r1, r2, r3]) rfl ⟨_, rfl, (HG1.out _ _ _ _).1, (HG1.out _ _ _ _).2⟩
  rw [if_neg (by rintro (h | h); exact c2 h; exact c3 h)] at hrp
  have d4 : ((a : Int) == (b : Int)) = false := by simp; omega
  have HKs : Hid (∀ k, (∀ j, j < k → G.reverse[j]? ≠ some (a, b)) → G.reverse[k]? = some (a, b) → Cir.knownG F G a b = some (2 * (F + k))) := Lib.hid fun k h1 h2 => Cir.known_some h1 h2
  have HKn : Hid ((∀ j, j < G.length → G.reverse[j]? ≠ some (a, b)) → Cir.knownG F G a b = none) := Lib.hid fun h => Cir.known_none h
  generalize Cir.knownG F G a b = kn at *
  clear r0 r1 r2 r3 f0 f1 f2 f3 HG1 c0 c2 c3
  rcases hdd with d1 | ⟨d1, d2⟩
  all_goals
    go_wp2_with fail
    refine (HL1.out W1 HB1.out).mono ?_
    rintro e w3 ⟨rfl, hb3⟩
    have HX3 := Lib.hid ((hb3.block gx hgx1).trans HX1.out)
    have HR3 := Lib.hid ((hb3.block gR hgR1).trans HR1.out)
    have HB3 := Lib.hid (HB1.out.trans (hb3.mono HB1.out.size))
    clear hb3 q0 q1 q2 q3
    go_wp2_with fail
    go_loopw [10] (fun i wr => ∃ k : Nat, k ≤ G.length ∧ i = .int .i64 k ∧ Hid (∀ j, j < k → G.reverse[j]? ≠ some (a, b)) ∧ Hid (wr.heap[gx]? = some (.cells #[.int .i64 (I : Int), .slice An ln cn, .slice Ag G.length cg, .slice Ao lo co] 26 (0, 0))) ∧ Hid (wr.heap[gR]? = some (.cells #[.int .i64 0, .slice none 0 0, .slice none 0 0, .slice none 0 0] 26 (0, 0))) ∧ Hid (Below w.heap.size w wr)) (fun i _ => G.length - (intOf i).toNat)
    case atStart => exact ⟨0, Nat.zero_le _, rfl, Lib.hid (fun j h => absurd h (Nat.not_lt_zero _)), HX3, HR3, HB3⟩
    case round =>
      obtain ⟨k, hk, rfl, HN, HX, HR, Hb⟩ := hrel
      clear HX3 HR3 HB3 HX1 HR1 HB1 HL1
      have q0 := blk_cell HX.out 0
      have q1 := blk_cell HX.out 1
      have q2 := blk_cell HX.out 2
      have q3 := blk_cell HX.out 3
      simp at q0 q1 q2 q3
      by_cases hlt : k < G.length
      · obtain ⟨g, hgk, hcells⟩ := HGk.out k hlt
        obtain ⟨bb, oo, hA, y1, y2⟩ := hcells wr Hb.out
        subst hA
        have Hgk := Lib.hid hgk
        clear hcells hgk
        obtain ⟨g1, g2⟩ := g
        simp only at y1 y2
        by_cases e1 : g1 = a
        · have z1 : ((g1 : Int) == (a : Int)) = true := by simp; omega
          by_cases e2 : g2 = b
          · have z2 : ((g2 : Int) == (b : Int)) = true := by simp; omega
            have hks := HKs.out k HN.out (by rw [Hgk.out, e1, e2])
            subst hks
            simp only at hrp
            subst hrp
            have r0 := blk_cell HR.out 0
            have r1 := blk_cell HR.out 1
            have r2 := blk_cell HR.out 2
            have r3 := blk_cell HR.out 3
            have f0 := blk_free HR.out 0
            have f1 := blk_free HR.out 1
            have f2 := blk_free HR.out 2
            have f3 := blk_free HR.out 3
            simp at r0 r1 r2 r3
            have hw1 : IntKind.i64.wrap ((F : Int) + (k : Int)) = (F : Int) + k := IntWalk.i64_in _ (by omega)
            have hw2 : IntKind.i64.wrap (2 * ((F : Int) + (k : Int))) = ((2 * (F + k) : Nat) : Int) := by rw [IntWalk.i64_in _ (by omega)]; omega
            generalize 2 * (F + k) = res at *
            clear HKn HKs e1 e2
            go_wp2_with fail
            refine bodyPost_ret (v := .tuple #[.agg #[.int .i64 (I : Int), .slice An ln cn, .slice (some ⟨bb, oo, none⟩) G.length cg, .slice Ao lo co], .int .i64 (res : Int)]) (by simp [results, Try.results73, go_sem, r0, r1, r2, r3]) rfl ⟨_, rfl, ?_, ?_⟩
            · have ow := own_below HG.out Hb.out
              have nt := own_ne_tag ow HR.out (by decide)
              exact own_setN (own_setN (own_setN (own_setN ow nt) nt) nt) nt
            · exact (((Hb.out.setCell hwR _).setCell hwR _).setCell hwR _).setCell hwR _
          · have z2 : ((g2 : Int) == (b : Int)) = false := by simp; omega
            go_wp2_with fail
            go_roundw
            case rel => exact ⟨k + 1, by omega, by go_num, Lib.hid (fun j hj => by
              by_cases e : j = k
              · subst e; rw [Hgk.out]; intro h; have := Option.some.inj h; injection this; omega
              · exact HN.out j (by omega)), HX, HR, Hb⟩
            case measure => simp [intOf]; omega
        · have z1 : ((g1 : Int) == (a : Int)) = false := by simp; omega
          go_wp2_with fail
          go_roundw
          case rel => exact ⟨k + 1, by omega, by go_num, Lib.hid (fun j hj => by
            by_cases e : j = k
            · subst e; rw [Hgk.out]; intro h; have := Option.some.inj h; injection this; omega
            · exact HN.out j (by omega)), HX, HR, Hb⟩
          case measure => simp [intOf]; omega
      · obtain rfl : k = G.length := by omega
        have hkn := HKn.out HN.out
        subst hkn
        simp only at hrp
        subst hrp
        have hb5 := bel_new wr (.cells #[] 72)
        have hz5 : (wr.alloc (.cells #[] 72)).heap.size = wr.heap.size + 1 := by simp
        have HE := Lib.hid (World.ownsRow_lit (base := wr.heap.size) (e := 72) (size := 2) wr #[] 0 (Nat.le_refl _) (by unfold maxLen; omega) rfl)
        have HGr := Lib.hid (Row.below (Row.of_own (own_below HG.out Hb.out)) hb5)
        have hgxz := blk_ltB HX.out
        have hgRz := blk_ltB HR.out
        have HX5 := Lib.hid ((hb5.block gx hgxz).trans HX.out)
        have HR5 := Lib.hid ((hb5.block gR hgRz).trans HR.out)
        have Hb5 := Lib.hid (Hb.out.trans (hb5.mono Hb.out.size))
        have hwr := Hb.out.size
        have q5 := blk_cell HX5.out 2
        simp at q5
        have HCu : Hid (∀ u ∈ cubes (Cir.gatesOf G), u.oneCell' = true) := Lib.hid (fun u hu => by
          unfold cubes at hu
          obtain ⟨x, -, hx⟩ := List.mem_flatMap.1 hu
          simp at hx
          rcases hx with rfl | rfl <;> rfl)
        have HSn : Hid (cubes (Cir.gatesOf ((a, b) :: G)) = cubes (Cir.gatesOf G) ++ [.int .i64 (a : Int), .int .i64 (b : Int)]) := Lib.hid (by
          rw [Cir.gatesOf_cons]
          unfold cubes
          rw [List.flatMap_append]
          rfl)
        generalize hcs : cubes (Cir.gatesOf G) = cs at *
        obtain ⟨B, hB⟩ : ∃ B, B = wr.heap.size := ⟨_, rfl⟩
        have hxB : gx < B := by omega
        have hRB : gR < B := by omega
        have HEB : Hid ((wr.alloc (.cells #[] 72)).ownsRow B 72 2 (.slice (some ⟨wr.heap.size, 0, none⟩) 0 0) 0 []) := Lib.hid (by rw [hB]; exact HE.out)
        have hB5 : B ≤ (wr.alloc (.cells #[] 72)).heap.size := by omega
        clear hb5 hcs HE HGk HKs HKn HX HR HN q0 q1 q3 hlt hk
        go_upto_region 16 with (first
          | (at_builtin; refine append_gatesO rfl (.tmp 72) (.tmp 74) rfl B (.slice (some ⟨wr.heap.size, 0, none⟩) 0 0) 0 [] rfl HEB.out (.slice Ag G.length cg) G.length cs rfl HGr.out HCu.out (by omega) hB5 ?_; intro v6 w6 hown6 hg6 hat6; simp only [Nat.zero_add, List.nil_append] at hown6; obtain ⟨A6, c6, hv6⟩ := slice_of_own hown6; subst hv6; have O6 : Only (fun q => B ≤ q) _ w6 := Only.grown hg6 (fun k hk => (HEB.out.lt k hk).1); have HX6 := Lib.hid ((O6.block gx (by omega) (by omega)).trans HX5.out); have HR6 := Lib.hid ((O6.block gR (by omega) (by omega)).trans HR5.out); have Hb6 := Lib.hid (Only.below Hb5.out O6 (by omega) (fun q hq => by omega)); have hz6 := O6.size; have hbl := bel_new w6 (.cells #[.int .i64 (a : Int), .int .i64 (b : Int)] 72); have hzl : (w6.alloc (.cells #[.int .i64 (a : Int), .int .i64 (b : Int)] 72)).heap.size = w6.heap.size + 1 := (by simp); have Hlit := Lib.hid (Row.of_own (World.ownsRow_lit (base := w6.heap.size) (e := 72) (size := 2) w6 #[.int .i64 (a : Int), .int .i64 (b : Int)] 1 (Nat.le_refl _) (by unfold maxLen; omega) rfl)); have HO6 := Lib.hid (own_below hown6 hbl); have HX7 := Lib.hid ((hbl.block gx (by omega)).trans HX6.out); have HR7 := Lib.hid ((hbl.block gR (by omega)).trans HR6.out); have Hb7 := Lib.hid (Hb6.out.trans (hbl.mono Hb6.out.size)); clear hown6 hg6 hat6 O6 hbl)
          | (at_builtin; refine append_gatesO rfl (.tmp 75) (.tmp 79) rfl B (.slice A6 G.length c6) G.length cs rfl HO6.out _ 1 [.int .i64 (a : Int), .int .i64 (b : Int)] rfl Hlit.out (by simp [Value.oneCell']) (by omega) (by omega) ?_; intro v8 w8 hown8 hg8 hat8; obtain ⟨A8, c8, hv8⟩ := slice_of_own hown8; subst hv8; have O8 : Only (fun q => B ≤ q) _ w8 := Only.grown hg8 (fun k hk => (HO6.out.lt k hk).1); have hX8 := (O8.block gx (by omega) (by omega)).trans HX7.out; have HR8 := Lib.hid ((O8.block gR (by omega) (by omega)).trans HR7.out); have Hb8 := Lib.hid (Only.below Hb7.out O8 (by omega) (fun q hq => by omega)); have q8 := blk_cell hX8 2; have f8 := blk_free hX8 2; have HX8 := Lib.hid hX8; have Hown8 := Lib.hid hown8; have hz8 := O8.size; clear hown8 hg8 hat8 O8 hX8))
        have hX9 := heap_setCell_same w8 gx 2 _ _ (.slice A8 (G.length + 1) c8) HX8.out
        simp at hX9
        have hR9 := (heap_setCell_other' w8 gx 2 (.slice A8 (G.length + 1) c8) gR (fun e => hxR e.symm)).trans HR8.out
        have HB9 := Lib.hid (Hb8.out.setCell (p := ⟨gx, 2, none⟩) hwx (.slice A8 (G.length + 1) c8))
        have HO9 := Lib.hid (own_setB (i := 2) (u := .slice A8 (G.length + 1) c8) Hown8.out hxB)
        clear q8 f8 q2 HX8 HR8 Hb8 Hown8 HO6 HX7 HR7 Hb7 HX6 HR6 Hb6 Hlit
        generalize w8.setCell ⟨gx, 2, none⟩ (.slice A8 (G.length + 1) c8) = W9 at *
        have q0 := blk_cell hX9 0
        have q1 := blk_cell hX9 1
        have q2 := blk_cell hX9 2
        have q3 := blk_cell hX9 3
        have r0 := blk_cell hR9 0
        have r1 := blk_cell hR9 1
        have r2 := blk_cell hR9 2
        have r3 := blk_cell hR9 3
        have f0 := blk_free hR9 0
        have f1 := blk_free hR9 1
        have f2 := blk_free hR9 2
        have f3 := blk_free hR9 3
        simp at q0 q1 q2 q3 r0 r1 r2 r3
        have hw1 : IntKind.i64.wrap ((F : Int) + ((G.length : Int) + 1)) = (F : Int) + (G.length + 1) := IntWalk.i64_in _ (by omega)
        have hw2 : IntKind.i64.wrap ((F : Int) + ((G.length : Int) + 1) - 1) = (F : Int) + G.length := by rw [IntWalk.i64_in _ (by omega)]; omega
        have hw3 : IntKind.i64.wrap (2 * ((F : Int) + (G.length : Int))) = ((2 * (F + G.length) : Nat) : Int) := by rw [IntWalk.i64_in _ (by omega)]; omega
        have HR9 := Lib.hid hR9
        clear hX9 hR9
        go_region
        all_goals
          go_wp2_with fail
          refine bodyPost_ret (v := .tuple #[.agg #[.int .i64 (I : Int), .slice An ln cn, .slice A8 (G.length + 1) c8, .slice Ao lo co], .int .i64 ((2 * (F + G.length) : Nat) : Int)]) (by simp [results, Try.results73, go_sem, r0, r1, r2, r3, hxR]) rfl ⟨_, rfl, ?_, ?_⟩
          · have nt := own_ne_tag HO9.out HR9.out (by decide)
            show World.ownsRow _ 0 _ 2 _ (G.length + 1) (cubes (Cir.gatesOf ((a, b) :: G)))
            rw [HSn.out]
            exact own_mono (own_setN (own_setN (own_setN (own_setN HO9.out nt) nt) nt) nt) (Nat.zero_le _)
          · exact ((((HB9.out.setCell hwR _).setCell hwR _).setCell hwR _).setCell hwR _).drew

theorem l3And_sw (I a b F : Nat) (An Ao : Option Addr) (cn co ln lo : Nat) (nx os : List Int) (vg : Value) (G : List (Nat × Nat)) (w : World) (hF : F = 1 + I + ln) (hI : I ≤ 100) (hln : ln ≤ 100) (hG : G.length ≤ 100)
    (hn : Row w 1 (.slice An ln cn) ln (ints nx)) (hg : w.ownsRow 0 72 2 vg G.length (cubes (Cir.gatesOf G))) (ho : Row w 1 (.slice Ao lo co) lo (ints os)) (hab : a < b) (hb : b < 2 * (F + G.length)) :
    Calls Try.prog 73 #[.agg #[.int .i64 (I : Int), .slice An ln cn, vg, .slice Ao lo co], .int .i64 (b : Int), .int .i64 (a : Int)] w (AndGive I (.slice An ln cn) (.slice Ao lo co) (Cir.andS F G a b) w) := by
  obtain ⟨Ag, cg, hvg⟩ := slice_of_own hg
  subst hvg
  have dg : decide ((b : Int) > (a : Int)) = true := decide_eq_true (by omega)
  have hb0 := bel_new w (.cells #[.int .i64 (I : Int), .slice An ln cn, .slice Ag G.length cg, .slice Ao lo co] 26)
  have hX0 := heap_alloc_new w (.cells #[.int .i64 (I : Int), .slice An ln cn, .slice Ag G.length cg, .slice Ao lo co] 26)
  have hz0 : (w.alloc (.cells #[.int .i64 (I : Int), .slice An ln cn, .slice Ag G.length cg, .slice Ao lo co] 26)).heap.size = w.heap.size + 1 := by simp
  obtain ⟨W0, hW0⟩ : ∃ W0, w.alloc (.cells #[.int .i64 (I : Int), .slice An ln cn, .slice Ag G.length cg, .slice Ao lo co] 26) = W0 := ⟨_, rfl⟩
  rw [hW0] at hb0 hX0 hz0
  have hR0 := heap_alloc_new W0 (.cells #[.int .i64 0, .slice none 0 0, .slice none 0 0, .slice none 0 0] 26)
  have hb1 := bel_new W0 (.cells #[.int .i64 0, .slice none 0 0, .slice none 0 0, .slice none 0 0] 26)
  have hX1 := (hb1.block w.heap.size (by omega)).trans hX0
  have hB1 := hb0.trans (hb1.mono (by omega))
  rw [hz0] at hR0
  have HL1 : Hid (∀ w', Below w.heap.size w w' → Calls Try.prog 44 #[.agg #[.int .i64 (I : Int), .slice An ln cn, .slice Ag G.length cg, .slice Ao lo co]] w' fun e w'' => e = .returned (.int .i64 (F : Int)) ∧ Below w'.heap.size w' w'') := Lib.hid fun w' hb => by
    have hlx : ln = nx.length := by have := hn.len; rw [ints_length] at this; omega
    have hlo : lo = os.length := by have := ho.len; rw [ints_length] at this; omega
    have hgg : G.length = (Cir.gatesOf G).length := (Cir.gatesOf_length G).symm
    have := l1First_any (.agg #[.int .i64 (I : Int), .slice An ln cn, .slice Ag G.length cg, .slice Ao lo co]) ⟨I, nx, Cir.gatesOf G, os⟩ w' ⟨_, _, _, rfl, by unfold IntsAt; show Row w' 1 _ nx.length _; rw [← hlx]; exact Row.below hn hb, by unfold CubesAt; show Row w' 2 _ (Cir.gatesOf G).length _; rw [← hgg]; exact Row.below (Row.of_own hg) hb, by unfold IntsAt; show Row w' 1 _ os.length _; rw [← hlo]; exact Row.below ho hb⟩ (by show (0 : Int) ≤ I; omega) (by show (I : Int) ≤ 100; omega) (by show nx.length ≤ 100; omega)
    have e : Cir.first ⟨I, nx, Cir.gatesOf G, os⟩ = (F : Int) := by unfold Cir.first; simp only; omega
    rwa [e] at this
  have HGk : Hid (∀ k, k < G.length → ∃ g, G.reverse[k]? = some g ∧ ∀ w', Below w.heap.size w w' → ∃ b o, Ag = some ⟨b, o, none⟩ ∧ w'.cell? ⟨b, o + k * 2, none⟩ = some (.int .i64 (g.1 : Int)) ∧ w'.cell? ⟨b, o + k * 2 + 1, none⟩ = some (.int .i64 (g.2 : Int))) := Lib.hid fun k hk => by
    obtain ⟨g, hgk⟩ : ∃ g, G.reverse[k]? = some g := ⟨_, List.getElem?_eq_getElem (by simpa using hk)⟩
    refine ⟨g, hgk, fun w' hb => ?_⟩
    obtain ⟨b, o, x, hA, hbl, hx, h1, h2⟩ := cubes_open (Row.of_own hg) hb (Cir.gatesOf_length G).symm (i := k) (by rw [Cir.gatesOf_length]; exact hk)
    have e : x = ((g.1 : Int), (g.2 : Int)) := by
      have h3 := hx.out
      rw [Cir.gatesOf_get, hgk] at h3
      exact (Option.some.inj h3).symm
    subst e
    exact ⟨b, o, hA, h1, h2⟩
  have HG := Lib.hid hg
  have hm2 := tmod_two a
  have hwb : 0 < b → IntKind.i64.wrap ((b : Int) - 1) = (b : Int) - 1 := fun _ => IntWalk.i64_in _ (by omega)
  have hCg : cg ≤ maxLen := by obtain ⟨A, c, e, h1, h2⟩ := Row.shape (Row.of_own hg); injection e with e1 e2 e3; rw [e3]; exact h2
  have hFb : F ≤ 300 := by omega
  obtain ⟨rp, hrp⟩ : ∃ rp, Cir.andS F G a b = rp := ⟨_, rfl⟩
  rw [hrp]
  clear hn hg ho hb0 hb1 hX0 hF
  go_enter Try.func73, Try.ntmps73
  go_upto_region 5 with fail
  generalize W0.alloc (.cells #[.int .i64 0, .slice none 0 0, .slice none 0 0, .slice none 0 0] 26) = W1 at *
  obtain ⟨gx, hgx⟩ : ∃ gx, gx = w.heap.size := ⟨_, rfl⟩
  obtain ⟨gR, hgR⟩ : ∃ gR, gR = w.heap.size + 1 := ⟨_, rfl⟩
  try rw [hz0]
  rw [← hgR] at hR0
  rw [← hgx] at hX1
  rw [← hgR, ← hgx]
  have hwR : w.heap.size ≤ gR := by omega
  have hwx : w.heap.size ≤ gx := by omega
  have hxR : gx ≠ gR := by omega
  have hgx1 := blk_ltB hX1
  have hgR1 := blk_ltB hR0
  have HX1 := Lib.hid hX1
  have HR1 := Lib.hid hR0
  have HB1 := Lib.hid hB1
  have q0 := blk_cell hX1 0
  have q1 := blk_cell hX1 1
  have q2 := blk_cell hX1 2
  have q3 := blk_cell hX1 3
  have r0 := blk_cell hR0 0
  have r1 := blk_cell hR0 1
  have r2 := blk_cell hR0 2
  have r3 := blk_cell hR0 3
  have f0 := blk_free hR0 0
  have f1 := blk_free hR0 1
  have f2 := blk_free hR0 2
  have f3 := blk_free hR0 3
  simp at q0 q1 q2 q3 r0 r1 r2 r3
  have HG1 : Hid (∀ u0 u1 u2 u3 : Value, ((((W1.setCell ⟨gR, 0, none⟩ u0).setCell ⟨gR, 1, none⟩ u1).setCell ⟨gR, 2, none⟩ u2).setCell ⟨gR, 3, none⟩ u3).ownsRow 0 72 2 (.slice Ag G.length cg) G.length (cubes (Cir.gatesOf G)) ∧ Below w.heap.size w ((((W1.setCell ⟨gR, 0, none⟩ u0).setCell ⟨gR, 1, none⟩ u1).setCell ⟨gR, 2, none⟩ u2).setCell ⟨gR, 3, none⟩ u3)) := Lib.hid fun u0 u1 u2 u3 => by
    have ow := own_below HG.out HB1.out
    have nt := own_ne_tag ow HR1.out (by decide)
    exact ⟨own_setN (own_setN (own_setN (own_setN ow nt) nt) nt) nt, (((HB1.out.setCell hwR _).setCell hwR _).setCell hwR _).setCell hwR _⟩
  clear hW0 hz0 hgx hgR hX1 hR0 hB1 dg
  unfold Cir.andS at hrp
  by_cases c0 : a = 0
  · rw [if_pos (.inl c0)] at hrp
    subst hrp
    have d0 : ((a : Int) == 0) = true := by simp; omega
    clear c0 hm2 hwb
    go_wp2_with fail
    refine bodyPost_ret (v := .tuple #[.agg #[.int .i64 (I : Int), .slice An ln cn, .slice Ag G.length cg, .slice Ao lo co], .int .i64 0]) (by simp [results, Try.results73, go_sem, r0, r1, r2, r3]) rfl ⟨_, rfl, (HG1.out _ _ _ _).1, (HG1.out _ _ _ _).2⟩
  have d0 : ((a : Int) == 0) = false := by simp; omega
  have hwb' := hwb (by omega)
  clear hwb
  by_cases c1 : a = b ^^^ 1
  · rw [if_pos (.inr c1)] at hrp
    subst hrp
    obtain ⟨e1, e2⟩ := (Cir.xor1_pair (by omega)).1 c1
    have d1 : ((a : Int) == (b : Int) - 1) = true := by simp; omega
    have d2 : (((a % 2 : Nat) : Int) == 0) = true := by rw [e2]; rfl
    clear c1 e1 e2
    generalize a % 2 = r at *
    go_wp2_with fail
    refine bodyPost_ret (v := .tuple #[.agg #[.int .i64 (I : Int), .slice An ln cn, .slice Ag G.length cg, .slice Ao lo co], .int .i64 0]) (by simp [results, Try.results73, go_sem, r0, r1, r2, r3]) rfl ⟨_, rfl, (HG1.out _ _ _ _).1, (HG1.out _ _ _ _).2⟩
  rw [if_neg (by rintro (h | h); exact c0 h; exact c1 h)] at hrp
  have hdd : ((a : Int) == (b : Int) - 1) = false ∨ (((a : Int) == (b : Int) - 1) = true ∧ (((a % 2 : Nat) : Int) == 0) = false) := by
    by_cases e : b = a + 1
    · right
      have h2 : ¬ (a % 2 = 0) := fun h => c1 ((Cir.xor1_pair (by omega)).2 ⟨e, h⟩)
      exact ⟨by simp; omega, by simp; omega⟩
    · left
      simp
      omega
  clear c1
  generalize a % 2 = r at *
  by_cases c2 : a = 1
  · rw [if_pos (.inl c2)] at hrp
    subst hrp
    have d3 : ((a : Int) == 1) = true := by simp; omega
    clear c2 c0
    rcases hdd with d1 | ⟨d1, d2⟩
    all_goals
      go_wp2_with fail
      refine bodyPost_ret (v := .tuple #[.agg #[.int .i64 (I : Int), .slice An ln cn, .slice Ag G.length cg, .slice Ao lo co], .int .i64 (b : Int)]) (by simp [results, Try.results73, go_sem, r0, r1, r2, r3]) rfl ⟨_, rfl, (HG1.out _ _ _ _).1, (HG1.out _ _ _ _).2⟩
  have d3 : ((a : Int) == 1) = false := by simp; omega
  by_cases c3 : a = b
  · rw [if_pos (.inr c3)] at hrp
    subst hrp
    have d4 : ((a : Int) == (b : Int)) = true := by simp; omega
    clear c3 c2 c0
    rcases hdd with d1 | ⟨d1, d2⟩
    all_goals
      go_wp2_with fail
      refine bodyPost_ret (v := .tuple #[.agg #[.int .i64 (I : Int), .slice An ln cn, .slice Ag G.length cg, .slice Ao lo co], .int .i64 (b : Int)]) (by simp [results, Try.results73, go_sem, r0, r1, r2, r3]) rfl ⟨_, rfl, (HG1.out _ _ _ _).1, (HG1.out _ _ _ _).2⟩
  rw [if_neg (by rintro (h | h); exact c2 h; exact c3 h)] at hrp
  have d4 : ((a : Int) == (b : Int)) = false := by simp; omega
  have HKs : Hid (∀ k, (∀ j, j < k → G.reverse[j]? ≠ some (a, b)) → G.reverse[k]? = some (a, b) → Cir.knownG F G a b = some (2 * (F + k))) := Lib.hid fun k h1 h2 => Cir.known_some h1 h2
  have HKn : Hid ((∀ j, j < G.length → G.reverse[j]? ≠ some (a, b)) → Cir.knownG F G a b = none) := Lib.hid fun h => Cir.known_none h
  generalize Cir.knownG F G a b = kn at *
  clear r0 r1 r2 r3 f0 f1 f2 f3 HG1 c0 c2 c3
  rcases hdd with d1 | ⟨d1, d2⟩
  all_goals
    go_wp2_with fail
    refine (HL1.out W1 HB1.out).mono ?_
    rintro e w3 ⟨rfl, hb3⟩
    have HX3 := Lib.hid ((hb3.block gx hgx1).trans HX1.out)
    have HR3 := Lib.hid ((hb3.block gR hgR1).trans HR1.out)
    have HB3 := Lib.hid (HB1.out.trans (hb3.mono HB1.out.size))
    clear hb3 q0 q1 q2 q3
    go_wp2_with fail
    go_loopw [10] (fun i wr => ∃ k : Nat, k ≤ G.length ∧ i = .int .i64 k ∧ Hid (∀ j, j < k → G.reverse[j]? ≠ some (a, b)) ∧ Hid (wr.heap[gx]? = some (.cells #[.int .i64 (I : Int), .slice An ln cn, .slice Ag G.length cg, .slice Ao lo co] 26 (0, 0))) ∧ Hid (wr.heap[gR]? = some (.cells #[.int .i64 0, .slice none 0 0, .slice none 0 0, .slice none 0 0] 26 (0, 0))) ∧ Hid (Below w.heap.size w wr)) (fun i _ => G.length - (intOf i).toNat)
    case atStart => exact ⟨0, Nat.zero_le _, rfl, Lib.hid (fun j h => absurd h (Nat.not_lt_zero _)), HX3, HR3, HB3⟩
    case round =>
      obtain ⟨k, hk, rfl, HN, HX, HR, Hb⟩ := hrel
      clear HX3 HR3 HB3 HX1 HR1 HB1 HL1
      have q0 := blk_cell HX.out 0
      have q1 := blk_cell HX.out 1
      have q2 := blk_cell HX.out 2
      have q3 := blk_cell HX.out 3
      simp at q0 q1 q2 q3
      by_cases hlt : k < G.length
      · obtain ⟨g, hgk, hcells⟩ := HGk.out k hlt
        obtain ⟨bb, oo, hA, y1, y2⟩ := hcells wr Hb.out
        subst hA
        have Hgk := Lib.hid hgk
        clear hcells hgk
        obtain ⟨g1, g2⟩ := g
        simp only at y1 y2
        by_cases e1 : g1 = a
        · have z1 : ((g1 : Int) == (a : Int)) = true := by simp; omega
          by_cases e2 : g2 = b
          · have z2 : ((g2 : Int) == (b : Int)) = true := by simp; omega
            have hks := HKs.out k HN.out (by rw [Hgk.out, e1, e2])
            subst hks
            simp only at hrp
            subst hrp
            have r0 := blk_cell HR.out 0
            have r1 := blk_cell HR.out 1
            have r2 := blk_cell HR.out 2
            have r3 := blk_cell HR.out 3
            have f0 := blk_free HR.out 0
            have f1 := blk_free HR.out 1
            have f2 := blk_free HR.out 2
            have f3 := blk_free HR.out 3
            simp at r0 r1 r2 r3
            have hw1 : IntKind.i64.wrap ((F : Int) + (k : Int)) = (F : Int) + k := IntWalk.i64_in _ (by omega)
            have hw2 : IntKind.i64.wrap (2 * ((F : Int) + (k : Int))) = ((2 * (F + k) : Nat) : Int) := by rw [IntWalk.i64_in _ (by omega)]; omega
            generalize 2 * (F + k) = res at *
            clear HKn HKs e1 e2
            go_wp2_with fail
            refine bodyPost_ret (v := .tuple #[.agg #[.int .i64 (I : Int), .slice An ln cn, .slice (some ⟨bb, oo, none⟩) G.length cg, .slice Ao lo co], .int .i64 (res : Int)]) (by simp [results, Try.results73, go_sem, r0, r1, r2, r3]) rfl ⟨_, rfl, ?_, ?_⟩
            · have ow := own_below HG.out Hb.out
              have nt := own_ne_tag ow HR.out (by decide)
              exact own_setN (own_setN (own_setN (own_setN ow nt) nt) nt) nt
            · exact (((Hb.out.setCell hwR _).setCell hwR _).setCell hwR _).setCell hwR _
          · have z2 : ((g2 : Int) == (b : Int)) = false := by simp; omega
            go_wp2_with fail
            go_roundw
            case rel => exact ⟨k + 1, by omega, by go_num, Lib.hid (fun j hj => by
              by_cases e : j = k
              · subst e; rw [Hgk.out]; intro h; have := Option.some.inj h; injection this; omega
              · exact HN.out j (by omega)), HX, HR, Hb⟩
            case measure => simp [intOf]; omega
        · have z1 : ((g1 : Int) == (a : Int)) = false := by simp; omega
          go_wp2_with fail
          go_roundw
          case rel => exact ⟨k + 1, by omega, by go_num, Lib.hid (fun j hj => by
            by_cases e : j = k
            · subst e; rw [Hgk.out]; intro h; have := Option.some.inj h; injection this; omega
            · exact HN.out j (by omega)), HX, HR, Hb⟩
          case measure => simp [intOf]; omega
      · obtain rfl : k = G.length := by omega
        have hkn := HKn.out HN.out
        subst hkn
        simp only at hrp
        subst hrp
        have hb5 := bel_new wr (.cells #[] 72)
        have hz5 : (wr.alloc (.cells #[] 72)).heap.size = wr.heap.size + 1 := by simp
        have HE := Lib.hid (World.ownsRow_lit (base := wr.heap.size) (e := 72) (size := 2) wr #[] 0 (Nat.le_refl _) (by unfold maxLen; omega) rfl)
        have HGr := Lib.hid (Row.below (Row.of_own (own_below HG.out Hb.out)) hb5)
        have hgxz := blk_ltB HX.out
        have hgRz := blk_ltB HR.out
        have HX5 := Lib.hid ((hb5.block gx hgxz).trans HX.out)
        have HR5 := Lib.hid ((hb5.block gR hgRz).trans HR.out)
        have Hb5 := Lib.hid (Hb.out.trans (hb5.mono Hb.out.size))
        have hwr := Hb.out.size
        have q5 := blk_cell HX5.out 2
        simp at q5
        have HCu : Hid (∀ u ∈ cubes (Cir.gatesOf G), u.oneCell' = true) := Lib.hid (fun u hu => by
          unfold cubes at hu
          obtain ⟨x, -, hx⟩ := List.mem_flatMap.1 hu
          simp at hx
          rcases hx with rfl | rfl <;> rfl)
        have HSn : Hid (cubes (Cir.gatesOf ((a, b) :: G)) = cubes (Cir.gatesOf G) ++ [.int .i64 (a : Int), .int .i64 (b : Int)]) := Lib.hid (by
          rw [Cir.gatesOf_cons]
          unfold cubes
          rw [List.flatMap_append]
          rfl)
        generalize hcs : cubes (Cir.gatesOf G) = cs at *
        obtain ⟨B, hB⟩ : ∃ B, B = wr.heap.size := ⟨_, rfl⟩
        have hxB : gx < B := by omega
        have hRB : gR < B := by omega
        have HEB : Hid ((wr.alloc (.cells #[] 72)).ownsRow B 72 2 (.slice (some ⟨wr.heap.size, 0, none⟩) 0 0) 0 []) := Lib.hid (by rw [hB]; exact HE.out)
        have hB5 : B ≤ (wr.alloc (.cells #[] 72)).heap.size := by omega
        clear hb5 hcs HE HGk HKs HKn HX HR HN q0 q1 q3 hlt hk
        go_upto_region 16 with (first
          | (at_builtin; refine append_gatesO rfl (.tmp 72) (.tmp 74) rfl B (.slice (some ⟨wr.heap.size, 0, none⟩) 0 0) 0 [] rfl HEB.out (.slice Ag G.length cg) G.length cs rfl HGr.out HCu.out (by omega) hB5 ?_; intro v6 w6 hown6 hg6 hat6; simp only [Nat.zero_add, List.nil_append] at hown6; obtain ⟨A6, c6, hv6⟩ := slice_of_own hown6; subst hv6; have O6 : Only (fun q => B ≤ q) _ w6 := Only.grown hg6 (fun k hk => (HEB.out.lt k hk).1); have HX6 := Lib.hid ((O6.block gx (by omega) (by omega)).trans HX5.out); have HR6 := Lib.hid ((O6.block gR (by omega) (by omega)).trans HR5.out); have Hb6 := Lib.hid (Only.below Hb5.out O6 (by omega) (fun q hq => by omega)); have hz6 := O6.size; have hbl := bel_new w6 (.cells #[.int .i64 (a : Int), .int .i64 (b : Int)] 72); have hzl : (w6.alloc (.cells #[.int .i64 (a : Int), .int .i64 (b : Int)] 72)).heap.size = w6.heap.size + 1 := (by simp); have Hlit := Lib.hid (Row.of_own (World.ownsRow_lit (base := w6.heap.size) (e := 72) (size := 2) w6 #[.int .i64 (a : Int), .int .i64 (b : Int)] 1 (Nat.le_refl _) (by unfold maxLen; omega) rfl)); have HO6 := Lib.hid (own_below hown6 hbl); have HX7 := Lib.hid ((hbl.block gx (by omega)).trans HX6.out); have HR7 := Lib.hid ((hbl.block gR (by omega)).trans HR6.out); have Hb7 := Lib.hid (Hb6.out.trans (hbl.mono Hb6.out.size)); clear hown6 hg6 hat6 O6 hbl)
          | (at_builtin; refine append_gatesO rfl (.tmp 75) (.tmp 79) rfl B (.slice A6 G.length c6) G.length cs rfl HO6.out _ 1 [.int .i64 (a : Int), .int .i64 (b : Int)] rfl Hlit.out (by simp [Value.oneCell']) (by omega) (by omega) ?_; intro v8 w8 hown8 hg8 hat8; obtain ⟨A8, c8, hv8⟩ := slice_of_own hown8; subst hv8; have O8 : Only (fun q => B ≤ q) _ w8 := Only.grown hg8 (fun k hk => (HO6.out.lt k hk).1); have hX8 := (O8.block gx (by omega) (by omega)).trans HX7.out; have HR8 := Lib.hid ((O8.block gR (by omega) (by omega)).trans HR7.out); have Hb8 := Lib.hid (Only.below Hb7.out O8 (by omega) (fun q hq => by omega)); have q8 := blk_cell hX8 2; have f8 := blk_free hX8 2; have HX8 := Lib.hid hX8; have Hown8 := Lib.hid hown8; have hz8 := O8.size; clear hown8 hg8 hat8 O8 hX8))
        have hX9 := heap_setCell_same w8 gx 2 _ _ (.slice A8 (G.length + 1) c8) HX8.out
        simp at hX9
        have hR9 := (heap_setCell_other' w8 gx 2 (.slice A8 (G.length + 1) c8) gR (fun e => hxR e.symm)).trans HR8.out
        have HB9 := Lib.hid (Hb8.out.setCell (p := ⟨gx, 2, none⟩) hwx (.slice A8 (G.length + 1) c8))
        have HO9 := Lib.hid (own_setB (i := 2) (u := .slice A8 (G.length + 1) c8) Hown8.out hxB)
        clear q8 f8 q2 HX8 HR8 Hb8 Hown8 HO6 HX7 HR7 Hb7 HX6 HR6 Hb6 Hlit
        generalize w8.setCell ⟨gx, 2, none⟩ (.slice A8 (G.length + 1) c8) = W9 at *
        have q0 := blk_cell hX9 0
        have q1 := blk_cell hX9 1
        have q2 := blk_cell hX9 2
        have q3 := blk_cell hX9 3
        have r0 := blk_cell hR9 0
        have r1 := blk_cell hR9 1
        have r2 := blk_cell hR9 2
        have r3 := blk_cell hR9 3
        have f0 := blk_free hR9 0
        have f1 := blk_free hR9 1
        have f2 := blk_free hR9 2
        have f3 := blk_free hR9 3
        simp at q0 q1 q2 q3 r0 r1 r2 r3
        have hw1 : IntKind.i64.wrap ((F : Int) + ((G.length : Int) + 1)) = (F : Int) + (G.length + 1) := IntWalk.i64_in _ (by omega)
        have hw2 : IntKind.i64.wrap ((F : Int) + ((G.length : Int) + 1) - 1) = (F : Int) + G.length := by rw [IntWalk.i64_in _ (by omega)]; omega
        have hw3 : IntKind.i64.wrap (2 * ((F : Int) + (G.length : Int))) = ((2 * (F + G.length) : Nat) : Int) := by rw [IntWalk.i64_in _ (by omega)]; omega
        have HR9 := Lib.hid hR9
        clear hX9 hR9
        go_region
        all_goals
          go_wp2_with fail
          refine bodyPost_ret (v := .tuple #[.agg #[.int .i64 (I : Int), .slice An ln cn, .slice A8 (G.length + 1) c8, .slice Ao lo co], .int .i64 ((2 * (F + G.length) : Nat) : Int)]) (by simp [results, Try.results73, go_sem, r0, r1, r2, r3, hxR]) rfl ⟨_, rfl, ?_, ?_⟩
          · have nt := own_ne_tag HO9.out HR9.out (by decide)
            show World.ownsRow _ 0 _ 2 _ (G.length + 1) (cubes (Cir.gatesOf ((a, b) :: G)))
            rw [HSn.out]
            exact own_mono (own_setN (own_setN (own_setN (own_setN HO9.out nt) nt) nt) nt) (Nat.zero_le _)
          · exact ((((HB9.out.setCell hwR _).setCell hwR _).setCell hwR _).setCell hwR _).drew
theorem l3And_any (I x y F : Nat) (An Ao : Option Addr) (cn co ln lo : Nat) (nx os : List Int) (vg : Value) (G : List (Nat × Nat)) (w : World) (hF : F = 1 + I + ln) (hI : I ≤ 100) (hln : ln ≤ 100) (hG : G.length ≤ 100)
    (hn : Row w 1 (.slice An ln cn) ln (ints nx)) (hg : w.ownsRow 0 72 2 vg G.length (cubes (Cir.gatesOf G))) (ho : Row w 1 (.slice Ao lo co) lo (ints os)) (hx : x < 2 * (F + G.length)) (hy : y < 2 * (F + G.length)) :
    Calls Try.prog 73 #[.agg #[.int .i64 (I : Int), .slice An ln cn, vg, .slice Ao lo co], .int .i64 (x : Int), .int .i64 (y : Int)] w (AndGive I (.slice An ln cn) (.slice Ao lo co) (Cir.andB F G x y) w) := by
  unfold Cir.andB
  by_cases h : y < x
  · rw [if_pos h]
    exact l3And_sw I y x F An Ao cn co ln lo nx os vg G w hF hI hln hG hn hg ho h hx
  · rw [if_neg h]
    exact l3And_st I x y F An Ao cn co ln lo nx os vg G w hF hI hln hG hn hg ho (by omega) hy
end Go.Proofs.Ytdgminjbgjbamaa

namespace Go.Proofs.Ytdgminjbgjbamaa
open Go.RowKit
set_option maxRecDepth 100000
/-! Steps of drawn regions, as XMzF has them. -/
section
variable {P : Program} {w : World} {ops : Array Oper} {o : Oper} {a : Act} {K : Act → World → Prop} {Q : Exit → Act → World → Prop} {E : Prop}
theorem step_callY (hw : Region.wanted o (yielded ops a.tmps) = true) {f : FuncId} {vs : Array Value} {R : Value → World → Prop} (hrun : (execOp a.eval o).run P w = .ok (.enter f vs) w)
    (hc : Calls P f vs w fun e w' => ∃ v, e = .returned v ∧ R v w') (h : ∀ v w', R v w' → K (a.put o.dst v) w') : if Region.wanted o (yielded ops a.tmps) = true then Oper.wp P o a w K Q else E := by
  rw [if_pos hw]
  unfold Oper.wp
  rw [hrun]
  simp only [Oper.upon]
  exact hc.mono fun e w' ⟨v, he, hr⟩ => by subst he; exact h v w' hr
end
end Go.Proofs.Ytdgminjbgjbamaa

namespace Go.Proofs.Ytdgminjbgjbamaa
open Go.RowKit Go.Maps
set_option maxRecDepth 100000
set_option maxHeartbeats 8000000
/-! Decoders, by the reference. -/
theorem specDecoder_ok (n v : Nat) (w : World) (h1 : 1 ≤ n) (h2 : n ≤ 2) (hv : v < 2 ^ n) :
    Calls Try.prog 28 #[.int .i64 (n : Int), .int .i64 (v : Int)] w fun e w' => (∃ v', e = .returned v' ∧ CircAt w' v' (Cir.toCz (Cir.decI n v))) ∧ Below w.heap.size w w' := by
  have h4 : 2 ^ n ≤ 4 := Nat.pow_le_pow_right (show 0 < 2 by decide) h2
  obtain ⟨M, hM⟩ : ∃ M, M = 2 ^ n := ⟨_, rfl⟩
  have e2 : (2 : Int) ^ n = (M : Int) := by rw [hM]; exact two_pow n
  rw [← hM] at hv h4
  have hwM := IntWalk.i64_in (M : Int) (by omega)
  have hwM1 : IntKind.i64.wrap ((M : Int) - 1) = (M : Int) - 1 := IntWalk.i64_in _ (by omega)
  have hwu : IntKind.u64.wrap (n : Int) = n := by rw [IntKind.wrap_u64]; omega
  have HI1 : Hid (∀ w', Calls Try.prog 38 #[.int .i64 (n : Int), .int .i64 1, .int .i64 2] w' fun e w'' => e = .returned (.bool true) ∧ w' = w'') := Lib.hid fun w' => by
    have := l1In_any (n : Int) 1 2 w'
    rwa [show decide ((1 : Int) ≤ (n : Int) ∧ (n : Int) ≤ 2) = true from decide_eq_true (by omega)] at this
  have HI2 : Hid (∀ w', Calls Try.prog 38 #[.int .i64 (v : Int), .int .i64 0, .int .i64 ((M : Int) - 1)] w' fun e w'' => e = .returned (.bool true) ∧ w' = w'') := Lib.hid fun w' => by
    have := l1In_any (v : Int) 0 ((M : Int) - 1) w'
    rwa [show decide ((0 : Int) ≤ (v : Int) ∧ (v : Int) ≤ (M : Int) - 1) = true from decide_eq_true (by omega)] at this
  have hbR := bel_new w (.cells #[.int .i64 0, .slice none 0 0, .slice none 0 0, .slice none 0 0] 26)
  have hR0 := heap_alloc_new w (.cells #[.int .i64 0, .slice none 0 0, .slice none 0 0, .slice none 0 0] 26)
  have hzR : (w.alloc (.cells #[.int .i64 0, .slice none 0 0, .slice none 0 0, .slice none 0 0] 26)).heap.size = w.heap.size + 1 := by simp
  have HInv : Hid (∀ k, k ≤ n → (Cir.decGo (1 + n) v k).2.length ≤ k ∧ (Cir.decGo (1 + n) v k).1 < 2 * (1 + n + (Cir.decGo (1 + n) v k).2.length)) := Lib.hid fun k hk => Cir.dec_inv (1 + n) v (by omega) k (by omega)
  have HRes : Hid (Cir.decI n v = { ins := n, next := [], gates := (Cir.decGo (1 + n) v n).2.reverse, outs := [(Cir.decGo (1 + n) v n).1] }) := Lib.hid rfl
  have HStep : Hid (∀ k, Cir.decGo (1 + n) v (k + 1) = Cir.andB (1 + n) (Cir.decGo (1 + n) v k).2 (Cir.decGo (1 + n) v k).1 (Cir.decY v k)) := Lib.hid fun k => rfl
  have HG0 : Hid (Cir.decGo (1 + n) v 0 = (1, [])) := Lib.hid rfl
  obtain ⟨F, hF⟩ : ∃ F, F = 1 + n := ⟨_, rfl⟩
  rw [← hF] at HInv HRes HStep HG0
  have HFn : Hid (F = 1 + n) := Lib.hid hF
  clear hF hM
  go_enter Try.func28, Try.ntmps28
  go_wp2_with fail
  generalize w.alloc (.cells #[.int .i64 0, .slice none 0 0, .slice none 0 0, .slice none 0 0] 26) = W0 at *
  obtain ⟨gR, hgR⟩ : ∃ gR, gR = w.heap.size := ⟨_, rfl⟩
  rw [← hgR] at hR0 ⊢
  have hwR : w.heap.size ≤ gR := by omega
  have hgRz : gR < W0.heap.size := by omega
  refine (HI1.out W0).mono ?_
  rintro e w' ⟨rfl, rfl⟩
  go_wp2_with fail
  refine (HI2.out W0).mono ?_
  rintro e w' ⟨rfl, rfl⟩
  have hX1 := heap_alloc_new W0 (.cells #[.int .i64 (n : Int), .slice none 0 0, .slice none 0 0, .slice none 0 0] 26)
  have hb1 := bel_new W0 (.cells #[.int .i64 (n : Int), .slice none 0 0, .slice none 0 0, .slice none 0 0] 26)
  go_wp2_with fail
  generalize W0.alloc (.cells #[.int .i64 (n : Int), .slice none 0 0, .slice none 0 0, .slice none 0 0] 26) = W1 at *
  obtain ⟨gx, hgx⟩ : ∃ gx, gx = w.heap.size + 1 := ⟨_, rfl⟩
  rw [hzR, ← hgx] at hX1
  rw [← hgx, ← hgR]
  have HX1 := Lib.hid hX1
  have HR1 := Lib.hid ((hb1.block gR hgRz).trans hR0)
  have HB1 := Lib.hid (hbR.trans (hb1.mono hbR.size))
  have HG1 : Hid (W1.ownsRow 0 72 2 (.slice none 0 0) (Cir.decGo F v 0).2.length (cubes (Cir.gatesOf (Cir.decGo F v 0).2))) := Lib.hid (by rw [HG0.out]; exact World.ownsRow_nil _ _ _ _)
  have HEn : Hid ((Cir.decGo F v 0).1 = 1) := Lib.hid (by rw [HG0.out])
  have hxR : gx ≠ gR := by omega
  have hwx : w.heap.size ≤ gx := by omega
  clear hX1 hb1 hR0 hbR HG0 hgR hgx hzR hgRz
  go_loopw [6, 7] (fun en i wr => ∃ (k : Nat) (vg : Value), k ≤ n ∧ i = .int .i64 k ∧ en = .int .i64 (((Cir.decGo F v k).1 : Nat) : Int) ∧ Hid (wr.ownsRow 0 72 2 vg (Cir.decGo F v k).2.length (cubes (Cir.gatesOf (Cir.decGo F v k).2))) ∧ Hid (wr.heap[gx]? = some (.cells #[.int .i64 (n : Int), .slice none 0 0, vg, .slice none 0 0] 26 (0, 0))) ∧ Hid (wr.heap[gR]? = some (.cells #[.int .i64 0, .slice none 0 0, .slice none 0 0, .slice none 0 0] 26 (0, 0))) ∧ Hid (Below w.heap.size w wr)) (fun _ i _ => n - (intOf i).toNat)
  case atStart => exact ⟨0, .slice none 0 0, Nat.zero_le _, rfl, by rw [HEn.out]; rfl, HG1, HX1, HR1, HB1⟩
  case round =>
    obtain ⟨k, vg, hk, rfl, rfl, HG, HX, HR, Hb⟩ := hrel
    clear HG1 HX1 HR1 HB1 HEn
    obtain ⟨hi1, hi2⟩ := HInv.out k hk
    have hgRz' := blk_ltB HR.out
    have hgxz := blk_ltB HX.out
    by_cases hlt : k < n
    · have HS := Lib.hid (HStep.out k)
      have hFn := HFn.out
      generalize Cir.decGo F v k = p at *
      obtain ⟨en, G⟩ := p
      simp only at hi1 hi2 HS
      have HG' : Hid (wr.ownsRow 0 72 2 vg G.length (cubes (Cir.gatesOf G))) := HG
      have hq : (v : Int) / 2 ^ k = ((v / 2 ^ k : Nat) : Int) := by rw [Int.natCast_ediv, two_pow]
      have hvk : v / 2 ^ k ≤ 1000 := Nat.le_trans (Nat.div_le_self _ _) (by omega)
      have hY : Cir.decY v k = 2 * (1 + k) + 1 - v / 2 ^ k % 2 := rfl
      generalize v / 2 ^ k = vq at *
      have hm := tmod_two vq
      have hr2 : vq % 2 ≤ 1 := by omega
      generalize vq % 2 = r at *
      obtain ⟨y, hy⟩ : ∃ y, y = Cir.decY v k := ⟨_, rfl⟩
      rw [← hy] at HS hY
      have hyb : y < 2 * (F + G.length) := by omega
      have hw1 : IntKind.i64.wrap (1 + (k : Int)) = 1 + k := IntWalk.i64_in _ (by omega)
      have hw2 : IntKind.i64.wrap (2 * (1 + (k : Int))) = 2 * (1 + (k : Int)) := IntWalk.i64_in _ (by omega)
      have hw3 : IntKind.i64.wrap (2 * (1 + (k : Int)) + 1) = 2 * (1 + (k : Int)) + 1 := IntWalk.i64_in _ (by omega)
      have hw4 : IntKind.i64.wrap (2 * (1 + (k : Int)) + 1 - (r : Int)) = (y : Int) := by
        rw [IntWalk.i64_in _ (by omega)]
        omega
      have hwku : IntKind.u64.wrap (k : Int) = k := by rw [IntKind.wrap_u64]; omega
      have HAn : Hid (∀ w', Below wr.heap.size wr w' → Calls Try.prog 73 #[.agg #[.int .i64 (n : Int), .slice none 0 0, vg, .slice none 0 0], .int .i64 (en : Int), .int .i64 (y : Int)] w' (AndGive n (.slice none 0 0) (.slice none 0 0) (Cir.andB F G en y) w')) := Lib.hid fun w' hb => l3And_any n en y F none none 0 0 0 0 [] [] vg G w' (by omega) (by omega) (by omega) (by omega) (Row.nil _ _) (own_below HG'.out hb) (Row.nil _ _) hi2 hyb
      generalize Cir.andB F G en y = res at *
      obtain ⟨Ag, cg, hvg⟩ := slice_of_own HG'.out
      subst hvg
      have hdw : Below wr.heap.size wr wr.drew := (Below.refl wr.heap.size wr).drew
      have hba := bel_new wr (.cells #[.int .i64 0, .slice none 0 0, .slice none 0 0, .slice none 0 0] 26)
      have Hdw := Lib.hid hdw
      have Hba := Lib.hid hba
      have q0 := blk_cell HX.out 0
      have q1 := blk_cell HX.out 1
      have q2 := blk_cell HX.out 2
      have q3 := blk_cell HX.out 3
      simp at q0 q1 q2 q3
      clear hy hY hFn hdw hba HG
      go_wp2_with fail
      go_region_law (first
        | (refine step_callY (by simp [Region.wanted, yielded, Act.put]) (f := 73) (vs := #[.agg #[.int .i64 (n : Int), .slice none 0 0, .slice Ag G.length cg, .slice none 0 0], .int .i64 (en : Nat), .int .i64 (y : Nat)]) (R := fun v' w' => ∃ vg', v' = .tuple #[.agg #[.int .i64 (n : Int), .slice none 0 0, vg', .slice none 0 0], .int .i64 (res.1 : Int)] ∧ w'.ownsRow 0 72 2 vg' res.2.length (cubes (Cir.gatesOf res.2)) ∧ Below (wr.drew).heap.size (wr.drew) w') (by go_simp) ((HAn.out _ Hdw.out).mono (fun e w' ⟨vg', he, ho, hb⟩ => ⟨_, he, vg', rfl, ho, hb⟩)) ?_; rintro v3 w3 ⟨vg3, rfl, ho3, hb3⟩; obtain ⟨A3, c3, hv3⟩ := slice_of_own ho3; subst hv3)
        | (refine step_callY (by simp [Region.wanted, yielded, Act.put]) (f := 73) (vs := #[.agg #[.int .i64 (n : Int), .slice none 0 0, .slice Ag G.length cg, .slice none 0 0], .int .i64 (en : Nat), .int .i64 (y : Nat)]) (R := fun v' w' => ∃ vg', v' = .tuple #[.agg #[.int .i64 (n : Int), .slice none 0 0, vg', .slice none 0 0], .int .i64 (res.1 : Int)] ∧ w'.ownsRow 0 72 2 vg' res.2.length (cubes (Cir.gatesOf res.2)) ∧ Below ((wr.alloc (.cells #[.int .i64 0, .slice none 0 0, .slice none 0 0, .slice none 0 0] 26)).drew).heap.size ((wr.alloc (.cells #[.int .i64 0, .slice none 0 0, .slice none 0 0, .slice none 0 0] 26)).drew) w') (by go_simp) ((HAn.out _ Hba.out.drew).mono (fun e w' ⟨vg', he, ho, hb⟩ => ⟨_, he, vg', rfl, ho, hb⟩)) ?_; rintro v3 w3 ⟨vg3, rfl, ho3, hb3⟩; obtain ⟨A3, c3, hv3⟩ := slice_of_own ho3; subst hv3; have hZ := (hb3.block wr.heap.size (by simp)).trans (heap_alloc_new wr (.cells #[.int .i64 0, .slice none 0 0, .slice none 0 0, .slice none 0 0] 26)); have z0 := blk_cell hZ 0; have z1 := blk_cell hZ 1; have z2 := blk_cell hZ 2; have z3 := blk_cell hZ 3; have zf0 := blk_free hZ 0; have zf1 := blk_free hZ 1; have zf2 := blk_free hZ 2; have zf3 := blk_free hZ 3))
      · have hbn := bel_new w3 (.cells #[.int .i64 (n : Int), .slice none 0 0, .slice A3 res.2.length c3, .slice none 0 0] 26)
        have hgx3 := (hb3.block gx hgxz).trans HX.out
        have hgR3 := (hb3.block gR hgRz').trans HR.out
        have HX8 := Lib.hid (heap_alloc_new w3 (.cells #[.int .i64 (n : Int), .slice none 0 0, .slice A3 res.2.length c3, .slice none 0 0] 26))
        have HXx := Lib.hid ((hbn.block gx (blk_ltB hgx3)).trans hgx3)
        have HRr := Lib.hid ((hbn.block gR (blk_ltB hgR3)).trans hgR3)
        have HO8 := Lib.hid (own_below ho3 hbn)
        have HBb : Hid (Below w.heap.size w (w3.alloc (.cells #[.int .i64 (n : Int), .slice none 0 0, .slice A3 res.2.length c3, .slice none 0 0] 26))) := Lib.hid ((Hb.out.drew.trans (hb3.mono Hb.out.size)).trans (hbn.mono (Nat.le_trans Hb.out.size hb3.size)))
        have hz3 : wr.heap.size ≤ w3.heap.size := hb3.size
        clear hbn hgx3 hgR3 ho3 hb3 q0 q1 q2 q3 Hdw Hba HG' HX HR Hb HAn
        generalize w3.alloc (.cells #[.int .i64 (n : Int), .slice none 0 0, .slice A3 res.2.length c3, .slice none 0 0] 26) = W at *
        obtain ⟨g8, hg8⟩ : ∃ g8, g8 = w3.heap.size := ⟨_, rfl⟩
        rw [← hg8] at HX8 ⊢
        have q0 := blk_cell HX8.out 0
        have q1 := blk_cell HX8.out 1
        have q2 := blk_cell HX8.out 2
        have q3 := blk_cell HX8.out 3
        have x0 := blk_cell HXx.out 0
        have x1 := blk_cell HXx.out 1
        have x2 := blk_cell HXx.out 2
        have x3 := blk_cell HXx.out 3
        have f0 := blk_free HXx.out 0
        have f1 := blk_free HXx.out 1
        have f2 := blk_free HXx.out 2
        have f3 := blk_free HXx.out 3
        simp at q0 q1 q2 q3 x0 x1 x2 x3
        have hg8x : g8 ≠ gx := by omega
        clear hg8
        go_wp2_with fail
        have y1 := heap_setCell_same W gx 0 _ _ (.int .i64 (n : Int)) HXx.out
        have y2 := heap_setCell_same _ gx 1 _ _ (.slice none 0 0) y1
        have y3 := heap_setCell_same _ gx 2 _ _ (.slice A3 res.2.length c3) y2
        have y4 := heap_setCell_same _ gx 3 _ _ (.slice none 0 0) y3
        simp at y4
        have nt := own_ne_tag HO8.out HXx.out (by decide)
        have HO9 := Lib.hid (own_setN (i := 3) (u := .slice none 0 0) (own_setN (i := 2) (u := .slice A3 res.2.length c3) (own_setN (i := 1) (u := .slice none 0 0) (own_setN (i := 0) (u := .int .i64 (n : Int)) HO8.out nt) nt) nt) nt)
        have hxR' : gR ≠ gx := fun e => hxR e.symm
        have HR9 := Lib.hid (((heap_setCell_other' (((W.setCell ⟨gx, 0, none⟩ (.int .i64 (n : Int))).setCell ⟨gx, 1, none⟩ (.slice none 0 0)).setCell ⟨gx, 2, none⟩ (.slice A3 res.2.length c3)) gx 3 (.slice none 0 0) gR hxR').trans (heap_setCell_other' ((W.setCell ⟨gx, 0, none⟩ (.int .i64 (n : Int))).setCell ⟨gx, 1, none⟩ (.slice none 0 0)) gx 2 (.slice A3 res.2.length c3) gR hxR')).trans ((heap_setCell_other' (W.setCell ⟨gx, 0, none⟩ (.int .i64 (n : Int))) gx 1 (.slice none 0 0) gR hxR').trans ((heap_setCell_other' W gx 0 (.int .i64 (n : Int)) gR hxR').trans HRr.out)))
        have HB9 := Lib.hid ((((HBb.out.setCell (p := ⟨gx, 0, none⟩) hwx (.int .i64 (n : Int))).setCell (p := ⟨gx, 1, none⟩) hwx (.slice none 0 0)).setCell (p := ⟨gx, 2, none⟩) hwx (.slice A3 res.2.length c3)).setCell (p := ⟨gx, 3, none⟩) hwx (.slice none 0 0))
        have Hy4 := Lib.hid y4
        clear y1 y2 y3 y4 nt q0 q1 q2 q3 x0 x1 x2 x3 f0 f1 f2 f3
        go_roundw
        case rel => exact ⟨k + 1, .slice A3 res.2.length c3, by omega, by go_num, by rw [HS.out], Lib.hid (by rw [HS.out]; exact HO9.out), Hy4, HR9, HB9⟩
        case measure => simp [intOf]; omega
      · have hbA : Below wr.heap.size wr w3 := Hba.out.drew.trans (hb3.mono (by simp))
        have hgx3 := (hbA.block gx hgxz).trans HX.out
        have hgR3 := (hbA.block gR hgRz').trans HR.out
        have y1 := heap_setCell_same w3 wr.heap.size 0 _ _ (.int .i64 (n : Int)) hZ
        have y2 := heap_setCell_same _ wr.heap.size 1 _ _ (.slice none 0 0) y1
        have y3 := heap_setCell_same _ wr.heap.size 2 _ _ (.slice A3 res.2.length c3) y2
        have y4 := heap_setCell_same _ wr.heap.size 3 _ _ (.slice none 0 0) y3
        simp at y4
        have HX8 := Lib.hid y4
        have nx : gx ≠ wr.heap.size := by omega
        have nR : gR ≠ wr.heap.size := by omega
        have HXx := Lib.hid (((heap_setCell_other' (((w3.setCell ⟨wr.heap.size, 0, none⟩ (.int .i64 (n : Int))).setCell ⟨wr.heap.size, 1, none⟩ (.slice none 0 0)).setCell ⟨wr.heap.size, 2, none⟩ (.slice A3 res.2.length c3)) wr.heap.size 3 (.slice none 0 0) gx nx).trans (heap_setCell_other' ((w3.setCell ⟨wr.heap.size, 0, none⟩ (.int .i64 (n : Int))).setCell ⟨wr.heap.size, 1, none⟩ (.slice none 0 0)) wr.heap.size 2 (.slice A3 res.2.length c3) gx nx)).trans ((heap_setCell_other' (w3.setCell ⟨wr.heap.size, 0, none⟩ (.int .i64 (n : Int))) wr.heap.size 1 (.slice none 0 0) gx nx).trans ((heap_setCell_other' w3 wr.heap.size 0 (.int .i64 (n : Int)) gx nx).trans hgx3)))
        have HRr := Lib.hid (((heap_setCell_other' (((w3.setCell ⟨wr.heap.size, 0, none⟩ (.int .i64 (n : Int))).setCell ⟨wr.heap.size, 1, none⟩ (.slice none 0 0)).setCell ⟨wr.heap.size, 2, none⟩ (.slice A3 res.2.length c3)) wr.heap.size 3 (.slice none 0 0) gR nR).trans (heap_setCell_other' ((w3.setCell ⟨wr.heap.size, 0, none⟩ (.int .i64 (n : Int))).setCell ⟨wr.heap.size, 1, none⟩ (.slice none 0 0)) wr.heap.size 2 (.slice A3 res.2.length c3) gR nR)).trans ((heap_setCell_other' (w3.setCell ⟨wr.heap.size, 0, none⟩ (.int .i64 (n : Int))) wr.heap.size 1 (.slice none 0 0) gR nR).trans ((heap_setCell_other' w3 wr.heap.size 0 (.int .i64 (n : Int)) gR nR).trans hgR3)))
        have nt := own_ne_tag ho3 hZ (by decide)
        have HO8 := Lib.hid (own_setN (i := 3) (u := .slice none 0 0) (own_setN (i := 2) (u := .slice A3 res.2.length c3) (own_setN (i := 1) (u := .slice none 0 0) (own_setN (i := 0) (u := .int .i64 (n : Int)) ho3 nt) nt) nt) nt)
        have hbw := Hb.out.trans (hbA.mono Hb.out.size)
        have hws := Hb.out.size
        have HBb := Lib.hid ((((hbw.setCell (p := ⟨wr.heap.size, 0, none⟩) hws (.int .i64 (n : Int))).setCell (p := ⟨wr.heap.size, 1, none⟩) hws (.slice none 0 0)).setCell (p := ⟨wr.heap.size, 2, none⟩) hws (.slice A3 res.2.length c3)).setCell (p := ⟨wr.heap.size, 3, none⟩) hws (.slice none 0 0))
        clear hbA hgx3 hgR3 y1 y2 y3 y4 nx nR nt hbw ho3 hb3 hZ z0 z1 z2 z3 zf0 zf1 zf2 zf3 q0 q1 q2 q3 Hdw Hba HG' HX HR Hb HAn
        generalize (((w3.setCell ⟨wr.heap.size, 0, none⟩ (.int .i64 (n : Int))).setCell ⟨wr.heap.size, 1, none⟩ (.slice none 0 0)).setCell ⟨wr.heap.size, 2, none⟩ (.slice A3 res.2.length c3)).setCell ⟨wr.heap.size, 3, none⟩ (.slice none 0 0) = W at *
        obtain ⟨g8, hg8⟩ : ∃ g8, g8 = wr.heap.size := ⟨_, rfl⟩
        rw [← hg8] at HX8 ⊢
        have q0 := blk_cell HX8.out 0
        have q1 := blk_cell HX8.out 1
        have q2 := blk_cell HX8.out 2
        have q3 := blk_cell HX8.out 3
        have x0 := blk_cell HXx.out 0
        have x1 := blk_cell HXx.out 1
        have x2 := blk_cell HXx.out 2
        have x3 := blk_cell HXx.out 3
        have f0 := blk_free HXx.out 0
        have f1 := blk_free HXx.out 1
        have f2 := blk_free HXx.out 2
        have f3 := blk_free HXx.out 3
        simp at q0 q1 q2 q3 x0 x1 x2 x3
        have hg8x : g8 ≠ gx := by omega
        clear hg8
        go_wp2_with fail
        have y1 := heap_setCell_same W gx 0 _ _ (.int .i64 (n : Int)) HXx.out
        have y2 := heap_setCell_same _ gx 1 _ _ (.slice none 0 0) y1
        have y3 := heap_setCell_same _ gx 2 _ _ (.slice A3 res.2.length c3) y2
        have y4 := heap_setCell_same _ gx 3 _ _ (.slice none 0 0) y3
        simp at y4
        have nt := own_ne_tag HO8.out HXx.out (by decide)
        have HO9 := Lib.hid (own_setN (i := 3) (u := .slice none 0 0) (own_setN (i := 2) (u := .slice A3 res.2.length c3) (own_setN (i := 1) (u := .slice none 0 0) (own_setN (i := 0) (u := .int .i64 (n : Int)) HO8.out nt) nt) nt) nt)
        have hxR' : gR ≠ gx := fun e => hxR e.symm
        have HR9 := Lib.hid (((heap_setCell_other' (((W.setCell ⟨gx, 0, none⟩ (.int .i64 (n : Int))).setCell ⟨gx, 1, none⟩ (.slice none 0 0)).setCell ⟨gx, 2, none⟩ (.slice A3 res.2.length c3)) gx 3 (.slice none 0 0) gR hxR').trans (heap_setCell_other' ((W.setCell ⟨gx, 0, none⟩ (.int .i64 (n : Int))).setCell ⟨gx, 1, none⟩ (.slice none 0 0)) gx 2 (.slice A3 res.2.length c3) gR hxR')).trans ((heap_setCell_other' (W.setCell ⟨gx, 0, none⟩ (.int .i64 (n : Int))) gx 1 (.slice none 0 0) gR hxR').trans ((heap_setCell_other' W gx 0 (.int .i64 (n : Int)) gR hxR').trans HRr.out)))
        have HB9 := Lib.hid ((((HBb.out.setCell (p := ⟨gx, 0, none⟩) hwx (.int .i64 (n : Int))).setCell (p := ⟨gx, 1, none⟩) hwx (.slice none 0 0)).setCell (p := ⟨gx, 2, none⟩) hwx (.slice A3 res.2.length c3)).setCell (p := ⟨gx, 3, none⟩) hwx (.slice none 0 0))
        have Hy4 := Lib.hid y4
        clear y1 y2 y3 y4 nt q0 q1 q2 q3 x0 x1 x2 x3 f0 f1 f2 f3
        go_roundw
        case rel => exact ⟨k + 1, .slice A3 res.2.length c3, by omega, by go_num, by rw [HS.out], Lib.hid (by rw [HS.out]; exact HO9.out), Hy4, HR9, HB9⟩
        case measure => simp [intOf]; omega
      · have hbA : Below wr.heap.size wr w3 := Hba.out.drew.trans (hb3.mono (by simp))
        have hgx3 := (hbA.block gx hgxz).trans HX.out
        have hgR3 := (hbA.block gR hgRz').trans HR.out
        have y1 := heap_setCell_same w3 wr.heap.size 0 _ _ (.int .i64 (n : Int)) hZ
        have y2 := heap_setCell_same _ wr.heap.size 1 _ _ (.slice none 0 0) y1
        have y3 := heap_setCell_same _ wr.heap.size 2 _ _ (.slice A3 res.2.length c3) y2
        have y4 := heap_setCell_same _ wr.heap.size 3 _ _ (.slice none 0 0) y3
        simp at y4
        have HX8 := Lib.hid y4
        have nx : gx ≠ wr.heap.size := by omega
        have nR : gR ≠ wr.heap.size := by omega
        have HXx := Lib.hid (((heap_setCell_other' (((w3.setCell ⟨wr.heap.size, 0, none⟩ (.int .i64 (n : Int))).setCell ⟨wr.heap.size, 1, none⟩ (.slice none 0 0)).setCell ⟨wr.heap.size, 2, none⟩ (.slice A3 res.2.length c3)) wr.heap.size 3 (.slice none 0 0) gx nx).trans (heap_setCell_other' ((w3.setCell ⟨wr.heap.size, 0, none⟩ (.int .i64 (n : Int))).setCell ⟨wr.heap.size, 1, none⟩ (.slice none 0 0)) wr.heap.size 2 (.slice A3 res.2.length c3) gx nx)).trans ((heap_setCell_other' (w3.setCell ⟨wr.heap.size, 0, none⟩ (.int .i64 (n : Int))) wr.heap.size 1 (.slice none 0 0) gx nx).trans ((heap_setCell_other' w3 wr.heap.size 0 (.int .i64 (n : Int)) gx nx).trans hgx3)))
        have HRr := Lib.hid (((heap_setCell_other' (((w3.setCell ⟨wr.heap.size, 0, none⟩ (.int .i64 (n : Int))).setCell ⟨wr.heap.size, 1, none⟩ (.slice none 0 0)).setCell ⟨wr.heap.size, 2, none⟩ (.slice A3 res.2.length c3)) wr.heap.size 3 (.slice none 0 0) gR nR).trans (heap_setCell_other' ((w3.setCell ⟨wr.heap.size, 0, none⟩ (.int .i64 (n : Int))).setCell ⟨wr.heap.size, 1, none⟩ (.slice none 0 0)) wr.heap.size 2 (.slice A3 res.2.length c3) gR nR)).trans ((heap_setCell_other' (w3.setCell ⟨wr.heap.size, 0, none⟩ (.int .i64 (n : Int))) wr.heap.size 1 (.slice none 0 0) gR nR).trans ((heap_setCell_other' w3 wr.heap.size 0 (.int .i64 (n : Int)) gR nR).trans hgR3)))
        have nt := own_ne_tag ho3 hZ (by decide)
        have HO8 := Lib.hid (own_setN (i := 3) (u := .slice none 0 0) (own_setN (i := 2) (u := .slice A3 res.2.length c3) (own_setN (i := 1) (u := .slice none 0 0) (own_setN (i := 0) (u := .int .i64 (n : Int)) ho3 nt) nt) nt) nt)
        have hbw := Hb.out.trans (hbA.mono Hb.out.size)
        have hws := Hb.out.size
        have HBb := Lib.hid ((((hbw.setCell (p := ⟨wr.heap.size, 0, none⟩) hws (.int .i64 (n : Int))).setCell (p := ⟨wr.heap.size, 1, none⟩) hws (.slice none 0 0)).setCell (p := ⟨wr.heap.size, 2, none⟩) hws (.slice A3 res.2.length c3)).setCell (p := ⟨wr.heap.size, 3, none⟩) hws (.slice none 0 0))
        clear hbA hgx3 hgR3 y1 y2 y3 y4 nx nR nt hbw ho3 hb3 hZ z0 z1 z2 z3 zf0 zf1 zf2 zf3 q0 q1 q2 q3 Hdw Hba HG' HX HR Hb HAn
        generalize (((w3.setCell ⟨wr.heap.size, 0, none⟩ (.int .i64 (n : Int))).setCell ⟨wr.heap.size, 1, none⟩ (.slice none 0 0)).setCell ⟨wr.heap.size, 2, none⟩ (.slice A3 res.2.length c3)).setCell ⟨wr.heap.size, 3, none⟩ (.slice none 0 0) = W at *
        obtain ⟨g8, hg8⟩ : ∃ g8, g8 = wr.heap.size := ⟨_, rfl⟩
        rw [← hg8] at HX8 ⊢
        have q0 := blk_cell HX8.out 0
        have q1 := blk_cell HX8.out 1
        have q2 := blk_cell HX8.out 2
        have q3 := blk_cell HX8.out 3
        have x0 := blk_cell HXx.out 0
        have x1 := blk_cell HXx.out 1
        have x2 := blk_cell HXx.out 2
        have x3 := blk_cell HXx.out 3
        have f0 := blk_free HXx.out 0
        have f1 := blk_free HXx.out 1
        have f2 := blk_free HXx.out 2
        have f3 := blk_free HXx.out 3
        simp at q0 q1 q2 q3 x0 x1 x2 x3
        have hg8x : g8 ≠ gx := by omega
        clear hg8
        go_wp2_with fail
        have y1 := heap_setCell_same W gx 0 _ _ (.int .i64 (n : Int)) HXx.out
        have y2 := heap_setCell_same _ gx 1 _ _ (.slice none 0 0) y1
        have y3 := heap_setCell_same _ gx 2 _ _ (.slice A3 res.2.length c3) y2
        have y4 := heap_setCell_same _ gx 3 _ _ (.slice none 0 0) y3
        simp at y4
        have nt := own_ne_tag HO8.out HXx.out (by decide)
        have HO9 := Lib.hid (own_setN (i := 3) (u := .slice none 0 0) (own_setN (i := 2) (u := .slice A3 res.2.length c3) (own_setN (i := 1) (u := .slice none 0 0) (own_setN (i := 0) (u := .int .i64 (n : Int)) HO8.out nt) nt) nt) nt)
        have hxR' : gR ≠ gx := fun e => hxR e.symm
        have HR9 := Lib.hid (((heap_setCell_other' (((W.setCell ⟨gx, 0, none⟩ (.int .i64 (n : Int))).setCell ⟨gx, 1, none⟩ (.slice none 0 0)).setCell ⟨gx, 2, none⟩ (.slice A3 res.2.length c3)) gx 3 (.slice none 0 0) gR hxR').trans (heap_setCell_other' ((W.setCell ⟨gx, 0, none⟩ (.int .i64 (n : Int))).setCell ⟨gx, 1, none⟩ (.slice none 0 0)) gx 2 (.slice A3 res.2.length c3) gR hxR')).trans ((heap_setCell_other' (W.setCell ⟨gx, 0, none⟩ (.int .i64 (n : Int))) gx 1 (.slice none 0 0) gR hxR').trans ((heap_setCell_other' W gx 0 (.int .i64 (n : Int)) gR hxR').trans HRr.out)))
        have HB9 := Lib.hid ((((HBb.out.setCell (p := ⟨gx, 0, none⟩) hwx (.int .i64 (n : Int))).setCell (p := ⟨gx, 1, none⟩) hwx (.slice none 0 0)).setCell (p := ⟨gx, 2, none⟩) hwx (.slice A3 res.2.length c3)).setCell (p := ⟨gx, 3, none⟩) hwx (.slice none 0 0))
        have Hy4 := Lib.hid y4
        clear y1 y2 y3 y4 nt q0 q1 q2 q3 x0 x1 x2 x3 f0 f1 f2 f3
        go_roundw
        case rel => exact ⟨k + 1, .slice A3 res.2.length c3, by omega, by go_num, by rw [HS.out], Lib.hid (by rw [HS.out]; exact HO9.out), Hy4, HR9, HB9⟩
        case measure => simp [intOf]; omega
    · obtain rfl : k = n := by omega
      obtain ⟨GL, hGL⟩ : ∃ GL, GL = (Cir.decGo F v k).2.length := ⟨_, rfl⟩
      obtain ⟨ov, hov⟩ : ∃ ov, ov = (Cir.decGo F v k).1 := ⟨_, rfl⟩
      have HGL := Lib.hid (And.intro hGL hov)
      have hg0 := HG.out
      rw [← hGL] at hg0
      rw [← hov]
      obtain ⟨A2, c2, hv2⟩ := slice_of_own hg0
      subst hv2
      have hb5 := bel_new wr (.cells #[.int .i64 (ov : Int)] 3)
      have hr5 := World.ownsRow_lit (base := wr.heap.size) (e := 3) (size := 1) wr #[.int .i64 (ov : Int)] 1 (Nat.le_refl _) (by unfold maxLen; omega) rfl
      obtain ⟨W5, hW5⟩ : ∃ W5, wr.alloc (.cells #[.int .i64 (ov : Int)] 3) = W5 := ⟨_, rfl⟩
      rw [hW5] at hb5 hr5
      have hX5 := (hb5.block gx hgxz).trans HX.out
      have hR5 := (hb5.block gR hgRz').trans HR.out
      have hG5 := own_below hg0 hb5
      have nx1 := own_ne_tag hG5 hX5 (by decide)
      have nx2 := own_ne_tag hr5 hX5 (by decide)
      have nR1 := own_ne_tag hG5 hR5 (by decide)
      have nR2 := own_ne_tag hr5 hR5 (by decide)
      have HN := Lib.hid (And.intro (And.intro nx1 nx2) (And.intro nR1 nR2))
      have HG5 := Lib.hid hG5
      have HO5 := Lib.hid hr5
      have HB5 := Lib.hid (Hb.out.trans (hb5.mono Hb.out.size))
      have q0 := blk_cell hX5 0
      have q1 := blk_cell hX5 1
      have q2 := blk_cell hX5 2
      have q3 := blk_cell hX5 3
      have g3 := blk_free hX5 3
      have r0 := blk_cell hR5 0
      have r1 := blk_cell hR5 1
      have r2 := blk_cell hR5 2
      have r3 := blk_cell hR5 3
      have f0 := blk_free hR5 0
      have f1 := blk_free hR5 1
      have f2 := blk_free hR5 2
      have f3 := blk_free hR5 3
      simp at q0 q1 q2 q3 r0 r1 r2 r3
      have hxR' : gR ≠ gx := fun e => hxR e.symm
      clear hg0 hb5 hr5 hX5 hR5 hG5 nx1 nx2 nR1 nR2 HG HX HR Hb hi1 hi2 hGL hov hlt
      go_wp2_with fail
      have el : (Cir.toCz (Cir.decI k v)).gates.length = GL := by rw [HRes.out, HGL.out.1]; simp [Cir.toCz]
      refine bodyPost_ret (v := .agg #[.int .i64 (k : Int), .slice none 0 0, .slice A2 GL c2, .slice (some ⟨wr.heap.size, 0, none⟩) 1 1]) (by simp [results, Try.results28, go_sem, r0, r1, r2, r3]) rfl ⟨⟨_, rfl, .slice none 0 0, .slice A2 GL c2, .slice (some ⟨wr.heap.size, 0, none⟩) 1 1, by rw [HRes.out]; rfl, ?_, ?_, ?_⟩, ?_⟩
      · rw [HRes.out]
        exact Row.of_own (World.ownsRow_nil _ 0 3 1)
      · unfold CubesAt
        rw [el, HRes.out]
        exact Row.of_own (own_setN (own_setN (own_setN (own_setN (own_setN HG5.out HN.out.1.1) HN.out.2.1) HN.out.2.1) HN.out.2.1) HN.out.2.1)
      · rw [HRes.out, ← HGL.out.2]
        exact Row.of_own (own_setN (own_setN (own_setN (own_setN (own_setN HO5.out HN.out.1.2) HN.out.2.2) HN.out.2.2) HN.out.2.2) HN.out.2.2)
      · exact ((((HB5.out.setCell (p := ⟨gx, 3, none⟩) hwx _).setCell (p := ⟨gR, 0, none⟩) hwR _).setCell (p := ⟨gR, 1, none⟩) hwR _).setCell (p := ⟨gR, 2, none⟩) hwR _).setCell (p := ⟨gR, 3, none⟩) hwR _
theorem specDecoder_no (n v : Int) (w : World) (hn : -10 ≤ n ∧ n ≤ 10) (h : ¬ (1 ≤ n ∧ n ≤ 2 ∧ 0 ≤ v ∧ v < (2 : Int) ^ n.toNat)) :
    Calls Try.prog 28 #[.int .i64 n, .int .i64 v] w fun e w' => (∃ v', e = .returned v' ∧ CircAt w' v' ⟨0, [], [], []⟩) ∧ Below w.heap.size w w' := by
  have hb0 := bel_new w (.cells #[.int .i64 0, .slice none 0 0, .slice none 0 0, .slice none 0 0] 26)
  have hR0 := heap_alloc_new w (.cells #[.int .i64 0, .slice none 0 0, .slice none 0 0, .slice none 0 0] 26)
  obtain ⟨W0, hW0⟩ : ∃ W0, w.alloc (.cells #[.int .i64 0, .slice none 0 0, .slice none 0 0, .slice none 0 0] 26) = W0 := ⟨_, rfl⟩
  rw [hW0] at hb0 hR0
  have r0 := blk_cell hR0 0
  have r1 := blk_cell hR0 1
  have r2 := blk_cell hR0 2
  have r3 := blk_cell hR0 3
  have f0 := blk_free hR0 0
  have f1 := blk_free hR0 1
  have f2 := blk_free hR0 2
  have f3 := blk_free hR0 3
  simp at r0 r1 r2 r3
  have HB := Lib.hid hb0
  have HE : Hid (∀ u0 u1 u2 u3 : Value, Below w.heap.size w ((((W0.setCell ⟨w.heap.size, 0, none⟩ u0).setCell ⟨w.heap.size, 1, none⟩ u1).setCell ⟨w.heap.size, 2, none⟩ u2).setCell ⟨w.heap.size, 3, none⟩ u3)) := Lib.hid fun u0 u1 u2 u3 => (((HB.out.setCell (p := ⟨w.heap.size, 0, none⟩) (Nat.le_refl _) _).setCell (p := ⟨w.heap.size, 1, none⟩) (Nat.le_refl _) _).setCell (p := ⟨w.heap.size, 2, none⟩) (Nat.le_refl _) _).setCell (p := ⟨w.heap.size, 3, none⟩) (Nat.le_refl _) _
  clear hb0 hR0
  have HI := Lib.hid (fun (a lo hi : Int) (w' : World) => l1In_any a lo hi w')
  by_cases c1 : 1 ≤ n ∧ n ≤ 2
  · have d1 : decide ((1 : Int) ≤ n ∧ n ≤ 2) = true := decide_eq_true c1
    obtain ⟨m, hm⟩ : ∃ m : Nat, n = (m : Int) := ⟨n.toNat, by omega⟩
    subst hm
    have hm2 : m ≤ 2 := by omega
    have h4 : 2 ^ m ≤ 4 := Nat.pow_le_pow_right (show 0 < 2 by decide) hm2
    have h40 : 0 < 2 ^ m := Nat.pow_pos (by omega)
    obtain ⟨M, hM⟩ : ∃ M, M = 2 ^ m := ⟨_, rfl⟩
    have e2 : (2 : Int) ^ m = (M : Int) := by rw [hM]; exact two_pow m
    rw [← hM] at h4 h40
    have hwM := IntWalk.i64_in (M : Int) (by omega)
    have hwM1 : IntKind.i64.wrap ((M : Int) - 1) = (M : Int) - 1 := IntWalk.i64_in _ (by omega)
    have hwu : IntKind.u64.wrap (m : Int) = m := by rw [IntKind.wrap_u64]; omega
    have d4 : decide ((0 : Int) ≤ v ∧ v ≤ (M : Int) - 1) = false := decide_eq_false fun ⟨h1, h2⟩ => h ⟨c1.1, c1.2, h1, by rw [Int.toNat_natCast, e2]; omega⟩
    have H1 := Lib.hid (fun w' => HI.out (m : Int) 1 2 w')
    have H2 := Lib.hid (fun w' => HI.out v 0 ((M : Int) - 1) w')
    rw [d1] at H1
    rw [d4] at H2
    clear h hM c1 d1 d4 HI
    go_enter Try.func28, Try.ntmps28
    go_wp2_with fail
    refine (H1.out W0).mono ?_
    rintro e w' ⟨rfl, rfl⟩
    go_wp2_with fail
    refine (H2.out W0).mono ?_
    rintro e w' ⟨rfl, rfl⟩
    go_wp2_with fail
    exact bodyPost_ret (v := .agg #[.int .i64 0, .slice none 0 0, .slice none 0 0, .slice none 0 0]) (by simp [results, Try.results28, go_sem, r0, r1, r2, r3]) rfl ⟨⟨_, rfl, _, _, _, rfl, Row.of_own (World.ownsRow_nil _ 0 3 1), Row.of_own (World.ownsRow_nil _ 0 72 2), Row.of_own (World.ownsRow_nil _ 0 3 1)⟩, HE.out _ _ _ _⟩
  · have d1 : decide ((1 : Int) ≤ n ∧ n ≤ 2) = false := decide_eq_false c1
    have H1 := Lib.hid (fun w' => HI.out n 1 2 w')
    rw [d1] at H1
    clear h c1 d1 HI
    go_enter Try.func28, Try.ntmps28
    go_wp2_with fail
    refine (H1.out W0).mono ?_
    rintro e w' ⟨rfl, rfl⟩
    go_wp2_with fail
    exact bodyPost_ret (v := .agg #[.int .i64 0, .slice none 0 0, .slice none 0 0, .slice none 0 0]) (by simp [results, Try.results28, go_sem, r0, r1, r2, r3]) rfl ⟨⟨_, rfl, _, _, _, rfl, Row.of_own (World.ownsRow_nil _ 0 3 1), Row.of_own (World.ownsRow_nil _ 0 72 2), Row.of_own (World.ownsRow_nil _ 0 3 1)⟩, HE.out _ _ _ _⟩
theorem specDecoder_any (n v : Int) (w : World) (hn : -10 ≤ n ∧ n ≤ 10) :
    Calls Try.prog 28 #[.int .i64 n, .int .i64 v] w fun e w' => (∃ v', e = .returned v' ∧ CircAt w' v' (Cir.decZ n v)) ∧ Below w.heap.size w w' := by
  by_cases h : 1 ≤ n ∧ n ≤ 2 ∧ 0 ≤ v ∧ v < (2 : Int) ^ n.toNat
  · obtain ⟨m, hm⟩ : ∃ m : Nat, n = (m : Int) := ⟨n.toNat, by omega⟩
    obtain ⟨x, hx⟩ : ∃ x : Nat, v = (x : Int) := ⟨v.toNat, by omega⟩
    have e : Cir.decZ n v = Cir.toCz (Cir.decI m x) := by
      unfold Cir.decZ
      rw [if_pos h, hm, hx, Int.toNat_natCast, Int.toNat_natCast]
    rw [e]
    subst hm hx
    rw [Int.toNat_natCast, two_pow] at h
    exact specDecoder_ok m x w (by omega) (by omega) (by omega)
  · have e : Cir.decZ n v = ⟨0, [], [], []⟩ := by unfold Cir.decZ; rw [if_neg h]
    rw [e]
    exact specDecoder_no n v w hn h
end Go.Proofs.Ytdgminjbgjbamaa
