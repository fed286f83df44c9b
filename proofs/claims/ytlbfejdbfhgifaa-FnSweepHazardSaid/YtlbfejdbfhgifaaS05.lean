import Derived.Test.YtlbfejdbfhgifaaS04
import Derived.Test.YtlbfejdbfhgifaaS01
import Derived.Test.YtlbfejdbfhgifaaS02
import Derived.Test.YtlbfejdbfhgifaaS03
set_option linter.unusedVariables false
set_option linter.unusedSimpArgs false
namespace Go.Proofs.Ytlbfejdbfhgifaa
open Go.RowKit
set_option maxRecDepth 100000
theorem take_eq_get {α : Type} {xs ys : List α} {k : Nat} {x : α} (h : xs.take k = ys.take k) (hx : xs[k]? = some x) (hy : ys[k]? = some x) : xs.take (k + 1) = ys.take (k + 1) := by
  rw [take_snoc hx, take_snoc hy, h]
set_option maxHeartbeats 4000000 in
theorem eqIntSS_any (v v2 : Value) (xss yss : List (List Int)) (w : World) (h : SSAt ints w v xss) (h2 : SSAt ints w v2 yss) (hlen : ∀ x ∈ xss, x.length ≤ 1048576) :
    Calls Try.prog 69 #[v, v2] w fun e w' => e = .returned (.bool (decide (xss = yss))) ∧ Below w.heap.size w w' := by
  obtain ⟨A, c, hv, hc, hcm⟩ := h.shape
  obtain ⟨A2, c2, hv2, hc2, hcm2⟩ := h2.shape
  subst hv hv2
  unfold maxLen at hcm hcm2
  have H := Lib.hid h
  have H2 := Lib.hid h2
  clear h h2
  obtain ⟨res, hres⟩ : ∃ res, decide (xss = yss) = res := ⟨_, rfl⟩
  rw [hres]
  have HR := Lib.hid hres
  clear hres
  by_cases hl : xss.length = yss.length
  · have HL := Lib.hid hl
    have hl1 : ((xss.length : Int) != (yss.length : Int)) = false := by rw [hl]; simp
    have hl2 : xss.length ≤ yss.length := by omega
    have hl3 : yss.length ≤ xss.length := by omega
    clear hl
    go_enter Try.func69, Try.ntmps69
    go_wp2_with fail
    go_loopw [5] (fun i wr => ∃ k : Nat, k ≤ xss.length ∧ i = .int .i64 k ∧ Hid (xss.take k = yss.take k) ∧ Below w.heap.size w wr) (fun i _ => xss.length - (intOf i).toNat)
    case atStart => exact ⟨0, Nat.zero_le _, rfl, Lib.hid rfl, Below.refl _ _⟩
    case round =>
      obtain ⟨k, hk, rfl, htk, hb⟩ := hrel
      by_cases hlt : k < xss.length
      · obtain ⟨x, hx⟩ := at_some hlt
        obtain ⟨y, hy⟩ := at_some (show k < yss.length by omega)
        obtain ⟨b, o, Bx, m, rfl, hbl, hc1, hm1, hm2, hr⟩ := ss_open H.out hb hx
        obtain ⟨b', o', Bx', m', rfl, hbl', hc1', hm1', hm2', hr'⟩ := ss_open H2.out hb hy
        have hxl := hlen x (List.mem_of_getElem? hx)
        have Hx := Lib.hid hx
        have Hy := Lib.hid hy
        have Hb := Lib.hid hb
        have hz := hb.size
        have g1 := gw_cell hc1 (show b < wr.heap.size by omega)
        have g2 := gw_cell hc1' (show b' < wr.heap.size by omega)
        have HC : Hid (∀ n : GW wr, Calls Try.prog 56 #[.slice Bx x.length m, .slice Bx' y.length m'] (gw n) fun e w' => e = .returned (.bool (decide (x = y))) ∧ Drew (gw n) w') := Lib.hid fun n => eqIntS_any _ _ x y _ (hr.below (gw_below n)) (hr'.below (gw_below n)) hxl
        clear hx hy hb hr hr'
        cases hd : decide (x = y)
        · rw [hd] at HC
          obtain rfl : res = false := by rw [← HR.out]; exact decide_eq_false (take_ne Hx.out Hy.out (of_decide_eq_false hd))
          go_wp2_with fail
          refine wp_region_grow (by kernel_rfl) (by kernel_rfl) ?_
          repeat (go_big_quiet_step ((go_at_call 56; exact grow_drew (HC.out _))))
          refine wpQuiet_nil ?_
          intro _ hw'
          obtain ⟨nq, hw''⟩ := hw'
          subst hw''
          have hgq := gw_below nq
          generalize gw nq = wq at *
          clear nq
          have Hb5 := Lib.hid (Hb.out.trans (hgq.mono hz))
          clear hgq g1 g2
          go_wp2_with fail
          go_ret
          exact ⟨rfl, Hb5.out⟩
        · rw [hd] at HC
          have hxy := of_decide_eq_true hd
          subst hxy
          have Hn := Lib.hid (take_eq_get htk.out Hx.out Hy.out)
          clear hd
          go_wp2_with fail
          refine wp_region_grow (by kernel_rfl) (by kernel_rfl) ?_
          repeat (go_big_quiet_step ((go_at_call 56; exact grow_drew (HC.out _))))
          refine wpQuiet_nil ?_
          intro _ hw'
          obtain ⟨nq, hw''⟩ := hw'
          subst hw''
          have hgq := gw_below nq
          generalize gw nq = wq at *
          clear nq
          have Hb5 := Lib.hid (Hb.out.trans (hgq.mono hz))
          clear hgq g1 g2
          go_wp2_with fail
          go_roundw
          case rel => exact ⟨k + 1, by omega, by go_num, Hn, Hb5.out⟩
          case measure => simp [intOf] <;> omega
      · obtain rfl : k = xss.length := by omega
        obtain rfl : res = true := by
          rw [← HR.out]
          refine decide_eq_true ?_
          have := htk.out
          rwa [List.take_length, List.take_of_length_le (by omega)] at this
        go_wp2_with fail
        go_ret
        exact ⟨rfl, hb⟩
  · have hl1 : ((xss.length : Int) != (yss.length : Int)) = true := by simp; omega
    obtain rfl : res = false := by rw [← HR.out]; exact decide_eq_false fun e => hl (by rw [e])
    go_enter Try.func69, Try.ntmps69
    go_wp2_with fail
    go_ret
    exact ⟨rfl, Below.refl _ _⟩
/-- Rows of values of the call's own, all apart, of such lengths. -/
def OwnIntSE (B : Nat) (E : Nat → Prop) (w : World) (v : Value) (xss : List (List Int)) : Prop := OwnSE ints 22 3 B E w v xss
def OwnVS (B : Nat) (E : Nat → Prop) (w : World) (v : Value) (rows : List (List Value)) : Prop := OwnSE id 22 3 B E w v rows
theorem OwnIntSE.raw {B : Nat} {E : Nat → Prop} {w : World} {v : Value} {xss : List (List Int)} (h : OwnIntSE B E w v xss) : OwnVS B E w v (xss.map ints) := OwnSE.raw ints_length h
/-- What marking comes to. -/
def MarkedSS (B : Nat) (E : Nat → Prop) (v : Value) (ns : List Nat) (k : Nat) (w : World) (e : Ending) (w' : World) : Prop :=
  e = .returned (.int .i64 ((k + ns.sum : Nat) : Int)) ∧ OwnVS B E w' v (runs k ns) ∧ Only (fun g => B ≤ g ∧ E g) w w'
theorem lens_get {rows : List (List Value)} {ns : List Nat} (hl : rows.map List.length = ns) {j : Nat} {n : Nat} (h : ns[j]? = some n) : ∃ r, rows[j]? = some r ∧ r.length = n := by
  subst hl
  rw [List.getElem?_map] at h
  obtain ⟨r, hr, rfl⟩ := Option.map_eq_some_iff.1 h
  exact ⟨r, hr, rfl⟩
set_option maxHeartbeats 4000000 in
theorem markIntSS_any (B : Nat) (E : Nat → Prop) (v : Value) (k : Nat) (rows : List (List Value)) (ns : List Nat) (w : World) (h : OwnVS B E w v rows) (hns : rows.map List.length = ns) (hl : ns.length ≤ 1048576) (hn : ns.sum ≤ 1048576) (hk : k ≤ 10000000) :
    Calls Try.prog 70 #[v, .int .i64 k] w (MarkedSS B E v ns k w) := by
  have hrl : rows.length = ns.length := by rw [← hns, List.length_map]
  have hsh : ∃ A c, v = .slice A ns.length c := by
    obtain ⟨A, c, hv, _⟩ := (OwnSE.at h).shape
    exact ⟨A, c, by rw [← hrl]; exact hv⟩
  obtain ⟨A, c, hv⟩ := hsh
  subst hv
  have H := Lib.hid h
  have Hns := Lib.hid hns
  have Hrl := Lib.hid hrl
  clear h hns hrl
  go_enter Try.func70, Try.ntmps70
  go_wp2_with fail
  go_loopw [1, 5] (fun q i wr => ∃ j : Nat, j ≤ ns.length ∧ i = .int .i64 j ∧ q = .int .i64 ((k + (ns.take j).sum : Nat) : Int) ∧ Hid (OwnVS B E wr (.slice A ns.length c) (runs k (ns.take j) ++ rows.drop j)) ∧ Only (fun g => B ≤ g ∧ E g) w wr) (fun _ i _ => ns.length - (intOf i).toNat)
  case atStart => exact ⟨0, Nat.zero_le _, rfl, by simp, H, Only.refl _ _⟩
  case round =>
    obtain ⟨j, hj, rfl, rfl, Ho, hon⟩ := hrel
    clear H
    by_cases hlt : j < ns.length
    · obtain ⟨n, hnj⟩ := at_some hlt
      obtain ⟨r, hr, hrn⟩ := lens_get Hns.out hnj
      obtain ⟨vs, q1, q2, q3, q4, q5, q6, q7⟩ := Ho.out
      have hlenR : (runs k (ns.take j) ++ rows.drop j).length = ns.length := by
        rw [List.length_append, runs_length, List.length_take, List.length_drop, Hrl.out]; omega
      have hrj : (runs k (ns.take j) ++ rows.drop j)[j]? = some r := by
        rw [List.getElem?_append_right (by rw [runs_length, List.length_take]; omega), runs_length, List.length_take, List.getElem?_drop, show j + (j - min j ns.length) = j from by omega]
        exact hr
      obtain ⟨u, hu⟩ : ∃ u, vs[j]? = some u := ⟨vs[j]'(by omega), List.getElem?_eq_getElem _⟩
      have hown := q3 j r u hrj hu
      rw [hrn] at hown
      have hS := Lib.hid (runs_set (k := k) (rows := rows) Hrl.out hnj)
      have hT := Lib.hid (sum_take_succ hnj)
      have hsl := sum_take_le ns j
      have hsl2 := sum_take_le ns (j + 1)
      have hTT := hT.out
      have hQ := Lib.hid q2
      obtain ⟨b, o, c', hv, _, _, hbl, hcell⟩ := (Row.of_own q2).open (by omega)
      rw [hlenR] at hv
      injection hv with hA _ hcc
      subst hA hcc
      have hc0 := hcell j u hu
      obtain ⟨Au, cu, hvu, hcu, hcmu⟩ := (Row.of_own hown).shape
      subst hvu
      have Hown := Lib.hid hown
      have Hon := Lib.hid hon
      have HU := Lib.hid (fun (w' : World) (x' : List Value) (hg : wr.grownBy w' (Value.slice Au n cu).ownBlock) (hx : w'.ownsRow B 3 1 (.slice Au n cu) x'.length (id x')) => OwnSE.update (enc := id) q1 q2 q3 q4 q5 q6 q7 hu hg hx)
      have HE : Hid (∀ g, (Value.slice Au n cu).ownBlock = some g → B ≤ g ∧ E g) := Lib.hid fun g hg => ⟨(hown.lt g hg).1, q7 _ (List.mem_of_getElem? hu) g hg⟩
      generalize (ns.take j).sum = s at *
      clear hcell hown hon q1 q2 q3 q4 q5 q6 q7 hu hr hrn hrj hlenR hnj hTT
      go_wp2_with fail
      refine (markIntS_any B _ n (k + s) _ _ Hown.out (by have := hT.out; omega) (by omega)).mono ?_
      rintro e w2 ⟨rfl, hown2, hg2⟩
      have Hown2 := Lib.hid hown2
      have Hg2 := Lib.hid hg2
      clear hown2 hg2
      go_wp2_with fail
      go_roundw
      case rel =>
        refine ⟨j + 1, by omega, by go_num, by have := hT.out; go_num, Lib.hid ?_, Hon.out.trans (Only.grown Hg2.out HE.out)⟩
        rw [← hS.out]
        exact HU.out w2 (runI (k + s) n) Hg2.out (by rw [runI_length]; exact Hown2.out)
      case measure => simp [intOf] <;> omega
    · obtain rfl : j = ns.length := by omega
      go_wp2_with fail
      go_ret
      refine ⟨ret_int (by rw [List.take_length]), ?_, hon⟩
      have := Ho.out
      rwa [List.take_length, List.drop_eq_nil_of_le (by rw [Hrl.out]; exact Nat.le_refl _), List.append_nil] at this
theorem heldIntSS_any (v : Value) (k : Nat) (ns : List Nat) (w : World) (h : SSAt id w v (runs k ns)) (hl : ns.length ≤ 1048576) (hn : ns.sum ≤ 1048576) (hk : k ≤ 10000000) :
    Calls Try.prog 71 #[v, .int .i64 k] w fun e w' => e = .returned (.int .i64 ((k + ns.sum : Nat) : Int)) ∧ w = w' := by
  have hsh : ∃ A c, v = .slice A ns.length c := by
    obtain ⟨A, c, hv, _⟩ := h.shape
    exact ⟨A, c, by rw [← runs_length k ns]; exact hv⟩
  obtain ⟨A, c, hv⟩ := hsh
  subst hv
  have H := Lib.hid h
  clear h
  go_enter Try.func71, Try.ntmps71
  go_wp2_with fail
  go_loop [1, 5] (fun q i => ∃ j : Nat, j ≤ ns.length ∧ i = .int .i64 j ∧ q = .int .i64 ((k + (ns.take j).sum : Nat) : Int)) (fun _ i => ns.length - (intOf i).toNat)
  case atStart => exact ⟨0, Nat.zero_le _, rfl, by simp⟩
  case round =>
    obtain ⟨j, hj, rfl, rfl⟩ := hrel
    by_cases hlt : j < ns.length
    · obtain ⟨n, hnj⟩ := at_some hlt
      obtain ⟨b, o, Bx, m, rfl, hbl, hc1, hm1, hm2, hr⟩ := ss_open H.out (Below.refl _ _) (runs_get hnj)
      rw [runI_length] at hc1 hm1 hr
      have Hr := Lib.hid hr
      have hT := Lib.hid (sum_take_succ hnj)
      have hsl := sum_take_le ns j
      have hsl2 := sum_take_le ns (j + 1)
      generalize (ns.take j).sum = s at *
      clear hr hnj
      go_wp2_with fail
      refine (heldIntS_any _ n (k + s) _ Hr.out (by have := hT.out; omega) (by omega)).mono ?_
      rintro e w' ⟨rfl, rfl⟩
      have hpos : ¬ (((k + s + n : Nat) : Int) < 0) := by omega
      go_wp2_with fail
      go_round
      case rel => exact ⟨j + 1, by omega, by go_num, by have := hT.out; go_num⟩
      case measure => simp [intOf] <;> omega
    · obtain rfl : j = ns.length := by omega
      go_wp2_with fail
      go_ret
      exact ⟨ret_int (by simp), rfl⟩
end Go.Proofs.Ytlbfejdbfhgifaa

namespace Go.Proofs.Ytlbfejdbfhgifaa
/-! Machines, plainly. -/
/-- A machine as it lies in memory. -/
structure Mz where
  ins : Int
  next : List (List Int)
  out : List (List Int)
namespace Mac
def lenOk (ins : Int) (r : List Int) : Bool := decide ((r.length : Int) = ((2 ^ ins.toNat : Nat) : Int))
def inOk (limit x : Int) : Bool := decide (0 ≤ x ∧ x < limit)
def rowOk (ins limit : Int) (r : List Int) : Bool := lenOk ins r && r.all (inOk limit)
def sizes (m : Mz) : Bool := decide (0 ≤ m.ins ∧ m.ins ≤ 4 ∧ 1 ≤ m.next.length ∧ m.next.length ≤ 8 ∧ m.out.length = m.next.length)
def valid (m : Mz) : Bool := sizes m && (m.next.all (rowOk m.ins m.next.length) && m.out.all (rowOk m.ins 8))
/-- Row by row, as the reference looks at it. -/
def entOk (n : Int) (p : Int × Int) : Bool := inOk n p.1 && inOk 8 p.2
def pairOk (ins n : Int) (p : List Int × List Int) : Bool := lenOk ins p.1 && lenOk ins p.2 && (p.1.zip p.2).all (entOk n)
theorem all_zip {α β : Type} (f : α → Bool) (g : β → Bool) : ∀ (l : List α) (l' : List β), l.length = l'.length → (l.zip l').all (fun p => f p.1 && g p.2) = (l.all f && l'.all g)
  | [], [], _ => rfl
  | a :: l, b :: l', h => by
    rw [List.zip_cons_cons, List.all_cons, List.all_cons, List.all_cons, all_zip f g l l' (by simpa using h)]
    cases f a <;> cases g b <;> simp
  | [], _ :: _, h => by simp at h
  | _ :: _, [], h => by simp at h
theorem pair_row (ins n : Int) (p : List Int × List Int) : pairOk ins n p = (rowOk ins n p.1 && rowOk ins 8 p.2) := by
  unfold pairOk rowOk
  cases h1 : lenOk ins p.1
  · simp
  · cases h2 : lenOk ins p.2
    · simp
    · unfold lenOk at h1 h2
      rw [decide_eq_true_eq] at h1 h2
      have := all_zip (inOk n) (inOk 8) p.1 p.2 (by omega)
      simp only [Bool.true_and]
      exact this
theorem valid_zip (m : Mz) : valid m = (sizes m && (m.next.zip m.out).all (pairOk m.ins m.next.length)) := by
  unfold valid
  cases h : sizes m
  · rfl
  · unfold sizes at h
    rw [decide_eq_true_eq] at h
    rw [show (pairOk m.ins m.next.length) = fun p => rowOk m.ins m.next.length p.1 && rowOk m.ins 8 p.2 from funext (pair_row _ _), all_zip _ _ _ _ h.2.2.2.2.symm]
theorem sizes_cases {m : Mz} (h : sizes m = false) : m.ins < 0 ∨ (0 ≤ m.ins ∧ 4 < m.ins) ∨ (0 ≤ m.ins ∧ m.ins ≤ 4 ∧ (m.next.length : Int) < 1) ∨ (0 ≤ m.ins ∧ m.ins ≤ 4 ∧ (1 : Int) ≤ m.next.length ∧ (8 : Int) < m.next.length) ∨ (0 ≤ m.ins ∧ m.ins ≤ 4 ∧ (1 : Int) ≤ m.next.length ∧ (m.next.length : Int) ≤ 8 ∧ (m.out.length : Int) ≠ m.next.length) := by
  unfold sizes at h
  rw [decide_eq_false_iff_not] at h
  omega
theorem all_dropG {α : Type} {p : α → Bool} {l : List α} {k : Nat} {x : α} (h : l[k]? = some x) : (l.drop k).all p = (p x && (l.drop (k + 1)).all p) := by
  obtain ⟨hk, rfl⟩ := List.getElem?_eq_some_iff.1 h
  rw [List.drop_eq_getElem_cons hk, List.all_cons]
theorem zip_get {α β : Type} {l : List α} {l' : List β} {k : Nat} {x : α} {y : β} (h : l[k]? = some x) (h' : l'[k]? = some y) : (l.zip l')[k]? = some (x, y) := by
  rw [List.getElem?_zip_eq_some]
  exact ⟨h, h'⟩
end Mac
end Go.Proofs.Ytlbfejdbfhgifaa

namespace Go.Proofs.Ytlbfejdbfhgifaa
open Go.RowKit
set_option maxRecDepth 100000
/-! What laws do with machines. -/
def MachAt (w : World) (v : Value) (m : Mz) : Prop := ∃ vn vo, v = .agg #[.int .i64 m.ins, vn, vo] ∧ SSAt ints w vn m.next ∧ SSAt ints w vo m.out
theorem MachAt.below {w w' : World} {v : Value} {m : Mz} (h : MachAt w v m) (hb : Below w.heap.size w w') : MachAt w' v m := by
  obtain ⟨vn, vo, hv, h1, h2⟩ := h
  exact ⟨vn, vo, hv, h1.below hb, h2.below hb⟩
theorem MachAt.shape {w : World} {v : Value} {m : Mz} (h : MachAt w v m) : ∃ An cn Ao co, v = .agg #[.int .i64 m.ins, .slice An m.next.length cn, .slice Ao m.out.length co] ∧ cn ≤ maxLen ∧ co ≤ maxLen ∧ m.next.length ≤ cn ∧ m.out.length ≤ co := by
  obtain ⟨vn, vo, rfl, h1, h2⟩ := h
  obtain ⟨An, cn, rfl, h3, h4⟩ := h1.shape
  obtain ⟨Ao, co, rfl, h5, h6⟩ := h2.shape
  exact ⟨An, cn, Ao, co, rfl, h4, h6, h3, h5⟩
/-- The cells of a machine in memory. -/
def MCells (w : World) (g : Nat) (i : Int) (vn vo : Value) : Prop := g < w.heap.size ∧ w.cell? ⟨g, 0, none⟩ = some (.int .i64 i) ∧ w.cell? ⟨g, 1, none⟩ = some vn ∧ w.cell? ⟨g, 2, none⟩ = some vo
theorem MCells.below {w w' : World} {g : Nat} {i : Int} {vn vo : Value} (h : MCells w g i vn vo) (hb : Below w.heap.size w w') : MCells w' g i vn vo := by
  obtain ⟨hg, c0, c1, c2⟩ := h
  exact ⟨Nat.lt_of_lt_of_le hg hb.size, (hb.cell (p := ⟨g, 0, none⟩) hg).trans c0, (hb.cell (p := ⟨g, 1, none⟩) hg).trans c1, (hb.cell (p := ⟨g, 2, none⟩) hg).trans c2⟩
theorem MCells.boxed (w : World) (i : Int) (vn vo : Value) (t : TypeId) : MCells (w.alloc (.cells #[.int .i64 i, vn, vo] t)) w.heap.size i vn vo :=
  ⟨by simp, World.cell?_alloc_new _ _ _ 0, World.cell?_alloc_new _ _ _ 1, World.cell?_alloc_new _ _ _ 2⟩
theorem bel_alloc (w : World) (o : Obj) : Below w.heap.size w (w.alloc o) := (Below.refl _ _).alloc (Nat.le_refl _) o
theorem set_grownM (w : World) (g i : Nat) (v : Value) : w.grownBy (w.setCell ⟨g, i, none⟩ v) (some g) :=
  ⟨rfl, rfl, rfl, by simp [World.setCell], fun k _ hk => heap_setCell_other w ⟨g, i, none⟩ k _ (fun e => hk (by simp [e]))⟩
theorem own_setSS {α : Type} {enc : List α → List Value} {tO ti : TypeId} {B T : Nat} {w : World} {v : Value} {xss : List (List α)} {g i : Nat} {u : Value} (h : OwnSS enc tO ti B T w v xss) (hg : g < B) : OwnSS enc tO ti B T (w.setCell ⟨g, i, none⟩ u) v xss :=
  OwnSS.only h (Only.grown (E := fun k => k = g) (set_grownM w g i u) (fun k hk => (Option.some.inj hk).symm)) (fun k hk _ e => by omega)
end Go.Proofs.Ytlbfejdbfhgifaa

namespace Go.Proofs.Ytlbfejdbfhgifaa
open Go.RowKit
set_option maxRecDepth 100000
/-! A machine under construction: its box, its rows. -/
theorem append_intss {w : World} {ops : Array Oper} {rest : List Oper} {o : Oper} {a : Act} {Q : Exit → Act → World → Prop} (hgd : o.guard = none) (s x : Operand)
    (ho : o.op = .call { callee := .builtin .append, args := #[s, x], argTypes := #[39, 39] })
    (base : Nat) (v : Value) (n : Nat) (xs : List Value) (hs : a.eval s = v) (hown : w.ownsRow base 22 1 v n xs) (sv : Value) (m : Nat) (news : List Value) (hx : a.eval x = sv) (hr : Row w 1 sv m news) (h1 : ∀ u ∈ news, u.oneCell' = true)
    (h63 : n + m ≤ 1000000) (hbase : base ≤ w.heap.size)
    (h : ∀ v' w', w'.ownsRow base 22 1 v' (n + m) (xs ++ news) → w.grownBy w' v.ownBlock → (v'.ownBlock = v.ownBlock ∨ v'.ownBlock = some w.heap.size) → wpList Try.prog ops Q rest (a.put o.dst v') w') : wpList Try.prog ops Q (o :: rest) a w := by
  obtain ⟨i, hi, hz0, hz1, hz2⟩ := info_parts info_ints
  exact wpList_append_at hgd s x 39 ho base 22 i _ 1 24 Try.underlying39 hi hz0 hz1 hz2 rfl (by decide) v n xs hs hown sv m news hx hr h1 (by unfold maxLen; omega) (by omega) hbase h
section
variable {α : Type} {enc : List α → List Value} {tO ti : TypeId} {B : Nat} {E : Nat → Prop} {w w' : World} {v : Value} {xss : List (List α)}
theorem OwnSE.grown (h : OwnSE enc tO ti B E w v xss) {r : Option Nat} (hg : w.grownBy w' r) (hr : ∀ g, r = some g → ¬ E g) : OwnSE enc tO ti B E w' v xss :=
  OwnSE.only (X := fun g => r = some g) h (Only.grown hg fun k hk => hk) fun g _ he hx => hr g hx he
theorem OwnSE.set (h : OwnSE enc tO ti B E w v xss) {g i : Nat} {u : Value} (hg : g < B) : OwnSE enc tO ti B E (w.setCell ⟨g, i, none⟩ u) v xss :=
  OwnSE.only (X := fun k => k = g) h (Only.grown (set_grown w g i u) fun k hk => (Option.some.inj hk).symm) fun k hk _ e => by omega
end
structure MB (gm : Nat) (ins : Int) (E1 E2 : Nat → Prop) (vN vO : Value) (xs ys : List (List Int)) (w : World) : Prop where
  box : w.heap[gm]? = some (.cells #[.int .i64 ins, vN, vO] 43 (0, 0))
  n : OwnIntSE (gm + 1) E1 w vN xs
  o : OwnIntSE (gm + 1) E2 w vO ys
  d : ∀ g, E1 g → ¬ E2 g
  l1 : ∀ g, E1 g → g < w.heap.size
  l2 : ∀ g, E2 g → g < w.heap.size
theorem mb_lt {gm : Nat} {ins : Int} {E1 E2 : Nat → Prop} {vN vO : Value} {xs ys : List (List Int)} {w : World} (h : MB gm ins E1 E2 vN vO xs ys w) : gm < w.heap.size := by
  rcases Nat.lt_or_ge gm w.heap.size with hl | hl
  · exact hl
  · have := h.box
    rw [Array.getElem?_eq_none hl] at this
    cases this
theorem MB.start {ins : Int} {w : World} (_ : True) : MB w.heap.size ins (fun _ => False) (fun _ => False) (.slice none 0 0) (.slice none 0 0) [] [] (w.alloc (.cells #[.int .i64 ins, .slice none 0 0, .slice none 0 0] 43)) :=
  ⟨heap_alloc_new _ _, OwnSE.nil _ _ _ _ _ _, OwnSE.nil _ _ _ _ _ _, fun _ h => h.elim, fun _ h => h.elim, fun _ h => h.elim⟩
section
variable {gm : Nat} {ins : Int} {E1 E2 : Nat → Prop} {vN vO : Value} {xs ys : List (List Int)} {w w' : World}
theorem MB.grown (h : MB gm ins E1 E2 vN vO xs ys w) {r : Option Nat} (hg : w.grownBy w' r) (h0 : r ≠ some gm) (h1 : ∀ g, r = some g → ¬ E1 g) (h2 : ∀ g, r = some g → ¬ E2 g) : MB gm ins E1 E2 vN vO xs ys w' :=
  ⟨(hg.block gm (mb_lt h) (fun e => h0 e.symm)).trans h.box, h.n.grown hg h1, h.o.grown hg h2, h.d, fun g he => Nat.lt_of_lt_of_le (h.l1 g he) hg.size, fun g he => Nat.lt_of_lt_of_le (h.l2 g he) hg.size⟩
theorem MB.below (h : MB gm ins E1 E2 vN vO xs ys w) (hb : Below w.heap.size w w') : MB gm ins E1 E2 vN vO xs ys w' :=
  h.grown (r := none) ⟨hb.os, hb.tape, hb.output, hb.size, fun k hk _ => hb.block k hk⟩ (by simp) (by simp) (by simp)
theorem MB.cells (h : MB gm ins E1 E2 vN vO xs ys w) : w.cell? ⟨gm, 0, none⟩ = some (.int .i64 ins) ∧ w.cell? ⟨gm, 1, none⟩ = some vN ∧ w.cell? ⟨gm, 2, none⟩ = some vO ∧ w.frozen? ⟨gm, 1, none⟩ = false ∧ w.frozen? ⟨gm, 2, none⟩ = false :=
  ⟨blk_cell h.box 0, blk_cell h.box 1, blk_cell h.box 2, blk_free h.box 1, blk_free h.box 2⟩
/-- A row more of next states. -/
theorem MB.addN {u v' : Value} {x : List Int} {vs : List Value} (h : MB gm ins E1 E2 vN vO xs ys w) (q1 : vs.length = xs.length) (q3 : ∀ (i : Nat) (x : List Int) (u : Value), xs[i]? = some x → vs[i]? = some u → w.ownsRow (gm + 1) 3 1 u x.length (ints x)) (q4 : vs.Pairwise Apart) (q5 : ∀ u ∈ vs, Apart u vN) (q6 : ∀ g, vN.ownBlock = some g → E1 g) (q7 : ∀ u ∈ vs, ∀ g, u.ownBlock = some g → E1 g)
    (hu : w.ownsRow (gm + 1) 3 1 u x.length (ints x)) (n1 : ∀ g, u.ownBlock = some g → ¬ E1 g) (n2 : ∀ g, u.ownBlock = some g → ¬ E2 g) (hown : w'.ownsRow (gm + 1) 22 1 v' (xs.length + 1) (vs ++ [u])) (hg : w.grownBy w' vN.ownBlock) (hat : v'.ownBlock = vN.ownBlock ∨ v'.ownBlock = some w.heap.size) :
    MB gm ins (fun g => E1 g ∨ u.ownBlock = some g ∨ v'.ownBlock = some g) E2 v' vO (xs ++ [x]) ys (w'.setCell ⟨gm, 1, none⟩ v') := by
  have hgm : vN.ownBlock ≠ some gm := fun e => by
    obtain ⟨vs', _, p2, _⟩ := h.n
    have := (p2.lt gm e).1
    omega
  have hbox := (hg.block gm (mb_lt h) (fun e => hgm e.symm)).trans h.box
  have hv2 : ∀ g, v'.ownBlock = some g → ¬ E2 g := fun g hv => by
    rcases hat with e | e
    · rw [e] at hv
      exact h.d g (q6 g hv)
    · rw [e] at hv
      intro he
      have h3 := h.l2 g he
      have h4 := Option.some.inj hv
      omega
  refine ⟨heap_setCell_same w' gm 1 _ _ v' hbox, OwnSE.set (se_append q1 q3 q4 q5 q6 q7 hu n1 hown hg hat) (Nat.lt_succ_self _), (h.o.grown hg fun g hv => h.d g (q6 g hv)).set (Nat.lt_succ_self _), ?_, ?_, ?_⟩
  · rintro g (he | he | he)
    · exact h.d g he
    · exact n2 g he
    · exact hv2 g he
  · rintro g (he | he | he)
    · have h1 := h.l1 g he; have h2 := hg.size; have h3 := (set_grown w' gm 1 v').size; omega
    · have h1 := (hu.lt g he).2; have h2 := hg.size; have h3 := (set_grown w' gm 1 v').size; omega
    · have h1 := (hown.lt g he).2; have h3 := (set_grown w' gm 1 v').size; omega
  · intro g he
    have h1 := h.l2 g he; have h2 := hg.size; have h3 := (set_grown w' gm 1 v').size; omega
/-- A row more of outputs. -/
theorem MB.addO {u v' : Value} {x : List Int} {vs : List Value} (h : MB gm ins E1 E2 vN vO xs ys w) (q1 : vs.length = ys.length) (q3 : ∀ (i : Nat) (x : List Int) (u : Value), ys[i]? = some x → vs[i]? = some u → w.ownsRow (gm + 1) 3 1 u x.length (ints x)) (q4 : vs.Pairwise Apart) (q5 : ∀ u ∈ vs, Apart u vO) (q6 : ∀ g, vO.ownBlock = some g → E2 g) (q7 : ∀ u ∈ vs, ∀ g, u.ownBlock = some g → E2 g)
    (hu : w.ownsRow (gm + 1) 3 1 u x.length (ints x)) (n1 : ∀ g, u.ownBlock = some g → ¬ E1 g) (n2 : ∀ g, u.ownBlock = some g → ¬ E2 g) (hown : w'.ownsRow (gm + 1) 22 1 v' (ys.length + 1) (vs ++ [u])) (hg : w.grownBy w' vO.ownBlock) (hat : v'.ownBlock = vO.ownBlock ∨ v'.ownBlock = some w.heap.size) :
    MB gm ins E1 (fun g => E2 g ∨ u.ownBlock = some g ∨ v'.ownBlock = some g) vN v' xs (ys ++ [x]) (w'.setCell ⟨gm, 2, none⟩ v') := by
  have hgm : vO.ownBlock ≠ some gm := fun e => by
    obtain ⟨vs', _, p2, _⟩ := h.o
    have := (p2.lt gm e).1
    omega
  have hbox := (hg.block gm (mb_lt h) (fun e => hgm e.symm)).trans h.box
  have hv1 : ∀ g, v'.ownBlock = some g → ¬ E1 g := fun g hv => by
    rcases hat with e | e
    · rw [e] at hv
      exact fun he => h.d g he (q6 g hv)
    · rw [e] at hv
      intro he
      have h3 := h.l1 g he
      have h4 := Option.some.inj hv
      omega
  refine ⟨heap_setCell_same w' gm 2 _ _ v' hbox, (h.n.grown hg fun g hv he => h.d g he (q6 g hv)).set (Nat.lt_succ_self _), OwnSE.set (se_append q1 q3 q4 q5 q6 q7 hu n2 hown hg hat) (Nat.lt_succ_self _), ?_, ?_, ?_⟩
  · rintro g h1 (he | he | he)
    · exact h.d g h1 he
    · exact n1 g he h1
    · exact hv1 g he h1
  · intro g he
    have h1 := h.l1 g he; have h2 := hg.size; have h3 := (set_grown w' gm 2 v').size; omega
  · rintro g (he | he | he)
    · have h1 := h.l2 g he; have h2 := hg.size; have h3 := (set_grown w' gm 2 v').size; omega
    · have h1 := (hu.lt g he).2; have h2 := hg.size; have h3 := (set_grown w' gm 2 v').size; omega
    · have h1 := (hown.lt g he).2; have h3 := (set_grown w' gm 2 v').size; omega
end
end Go.Proofs.Ytlbfejdbfhgifaa

namespace Go.Proofs.Ytlbfejdbfhgifaa
open Go.RowKit
/-! Rows that lie in blocks of a set: they stay while only other blocks are written. -/
def RowIn (F : Nat → Prop) (w : World) (size : Nat) (v : Value) (n : Nat) (cs : List Value) : Prop := Row w size v n cs ∧ (0 < n → ∀ g, v.ownBlock = some g → F g)
/-- The blocks from B on. -/
def From (B : Nat) : Nat → Prop := fun g => B ≤ g
theorem RowIn.only {F E : Nat → Prop} {w w' : World} {size n : Nat} {v : Value} {cs : List Value} (h : RowIn F w size v n cs) (ho : Only E w w') (hE : ∀ g, F g → ¬ E g) : RowIn F w' size v n cs := by
  obtain ⟨⟨h1, A, c, rfl, h2, h3, h4⟩, h5⟩ := h
  refine ⟨⟨h1, A, c, rfl, h2, h3, fun hn => ?_⟩, h5⟩
  obtain ⟨b, o, rfl, hb, hc⟩ := h4 hn
  refine ⟨b, o, rfl, Nat.lt_of_lt_of_le hb ho.size, fun j u hu => ?_⟩
  rw [World.cell?_of_block (ho.block b hb (hE b (h5 hn b rfl)))]
  exact hc j u hu
theorem RowIn.mono {F F' : Nat → Prop} {w : World} {size n : Nat} {v : Value} {cs : List Value} (h : RowIn F w size v n cs) (hF : ∀ g, F g → F' g) : RowIn F' w size v n cs := ⟨h.1, fun hn g hg => hF g (h.2 hn g hg)⟩
theorem RowIn.below {F : Nat → Prop} {w w' : World} {size n : Nat} {v : Value} {cs : List Value} (h : RowIn F w size v n cs) (hb : Below w.heap.size w w') : RowIn F w' size v n cs := ⟨h.1.below hb, h.2⟩
theorem RowIn.of_own {w : World} {B size n : Nat} {e : TypeId} {v : Value} {cs : List Value} (h : w.ownsRow B e size v n cs) : RowIn (fun g => B ≤ g ∧ g < w.heap.size) w size v n cs := ⟨Row.of_own h, fun _ g hg => h.lt g hg⟩
def SSIn {α : Type} (enc : List α → List Value) (F : Nat → Prop) (w : World) (v : Value) (xss : List (List α)) : Prop :=
  ∃ vs : List Value, vs.length = xss.length ∧ RowIn F w 1 v xss.length vs ∧ ∀ (i : Nat) (x : List α) (u : Value), xss[i]? = some x → vs[i]? = some u → RowIn F w 1 u x.length (enc x)
variable {α : Type} {enc : List α → List Value} {F : Nat → Prop} {w w' : World} {v : Value} {xss : List (List α)}
theorem SSIn.at (h : SSIn enc F w v xss) : SSAt enc w v xss := by
  obtain ⟨vs, h1, h2, h3⟩ := h
  exact ⟨vs, h1, h2.1, fun i x u hx hu => (h3 i x u hx hu).1⟩
theorem SSIn.only {E : Nat → Prop} (h : SSIn enc F w v xss) (ho : Only E w w') (hE : ∀ g, F g → ¬ E g) : SSIn enc F w' v xss := by
  obtain ⟨vs, h1, h2, h3⟩ := h
  exact ⟨vs, h1, h2.only ho hE, fun i x u hx hu => (h3 i x u hx hu).only ho hE⟩
theorem SSIn.below (h : SSIn enc F w v xss) (hb : Below w.heap.size w w') : SSIn enc F w' v xss := by
  obtain ⟨vs, h1, h2, h3⟩ := h
  exact ⟨vs, h1, h2.below hb, fun i x u hx hu => (h3 i x u hx hu).below hb⟩
theorem SSIn.mono {F' : Nat → Prop} (h : SSIn enc F w v xss) (hF : ∀ g, F g → F' g) : SSIn enc F' w v xss := by
  obtain ⟨vs, h1, h2, h3⟩ := h
  exact ⟨vs, h1, h2.mono hF, fun i x u hx hu => (h3 i x u hx hu).mono hF⟩
theorem SSIn.nil (enc : List α → List Value) (F : Nat → Prop) (w : World) : SSIn enc F w (.slice none 0 0) [] := ⟨[], rfl, ⟨Row.nil w 1, fun h => absurd h (Nat.lt_irrefl 0)⟩, fun i x u hx _ => by simp at hx⟩
/-- A row that was copied, and one more row behind it. -/
theorem SSIn.snoc {B : Nat} {e ti : TypeId} {v' u : Value} {x : List α} {vs : List Value} (h1 : vs.length = xss.length) (h3 : ∀ (i : Nat) (x : List α) (u : Value), xss[i]? = some x → vs[i]? = some u → RowIn F w 1 u x.length (enc x))
    (hu : w.ownsRow B ti 1 u x.length (enc x)) (hv : w.ownsRow B e 1 v' (xss.length + 1) (vs ++ [u])) : SSIn enc (fun g => F g ∨ (B ≤ g ∧ g < w.heap.size)) w v' (xss ++ [x]) := by
  refine ⟨vs ++ [u], by simp [h1], ?_, fun i y z hy hz => ?_⟩
  · rw [List.length_append, List.length_singleton]
    exact (RowIn.of_own hv).mono fun g hg => .inr hg
  · rcases Nat.lt_or_ge i xss.length with hi | hi
    · rw [List.getElem?_append_left hi] at hy
      rw [List.getElem?_append_left (by omega)] at hz
      exact (h3 i y z hy hz).mono fun g hg => .inl hg
    · have hil : i = xss.length := by
        rcases Nat.lt_or_ge xss.length i with h | h
        · rw [List.getElem?_eq_none (by simp; omega)] at hy; cases hy
        · omega
      subst hil
      rw [List.getElem?_append_right (Nat.le_refl _), Nat.sub_self] at hy
      rw [List.getElem?_append_right (by omega), h1, Nat.sub_self] at hz
      obtain rfl := Option.some.inj hy
      obtain rfl := Option.some.inj hz
      exact (RowIn.of_own hu).mono fun g hg => .inr hg
end Go.Proofs.Ytlbfejdbfhgifaa

namespace Go.Proofs.Ytlbfejdbfhgifaa
open Go.RowKit
set_option maxRecDepth 100000
/-! Hazards: the small functions. -/
namespace Cir
def valsA (d : Ci) (x : Nat) : List Bool := vals d (bits (x / 2 ^ d.ins) d.next.length) (bits x d.ins)
theorem valsA_length (d : Ci) (x : Nat) : (valsA d x).length = nvars d := vals_length d (bits_length _ _) (bits_length _ _)
theorem outsA_drop (d : Ci) (x : Nat) : (lits (valsA d x) (d.next ++ d.outs)).drop d.next.length = outsA d x := by
  unfold lits outsA lits
  rw [List.map_append]
  have : (d.next.map (lit (valsA d x))).length = d.next.length := by simp
  exact List.drop_left' this
theorem outsA_length (d : Ci) (x : Nat) : (outsA d x).length = d.outs.length := by unfold outsA lits; simp
end Cir
theorem run_tail {w : World} {A : Option Addr} {n c : Nat} {xs : List Bool} {k : Nat} (h : BoolsAt w (.slice A n c) xs) (hn : xs.length = n) (hk : k ≤ n) : BoolsAt w (sliced A k n c 1) (xs.drop k) := by
  subst hn
  obtain ⟨-, A', c', e, h1, h2, h3⟩ := h
  injection e with e1 _ e3
  subst e1 e3
  refine ⟨by rw [bools_length, Nat.mul_one], if c = k then A else A.map (·.add (k * 1)), c - k, ?_, by rw [List.length_drop]; omega, by omega, fun h0 => ?_⟩
  · unfold sliced; rw [List.length_drop]
  · rw [List.length_drop] at h0
    obtain ⟨b, o, rfl, hb, hc⟩ := h3 (by omega)
    refine ⟨b, o + k, ?_, hb, fun j u hj => ?_⟩
    · rw [if_neg (by omega)]; simp [Addr.add]
    · rw [Nat.add_assoc]
      exact hc (k + j) u (by rw [← hj]; unfold bools; rw [List.map_drop, List.getElem?_drop])
theorem RowIn.of_row {w : World} {size n : Nat} {v : Value} {cs : List Value} (h : Row w size v n cs) : RowIn (fun g => g < w.heap.size) w size v n cs := ⟨h, fun hn g hg => by
  obtain ⟨b, o, c, rfl, _, _, hb, _⟩ := h.open hn
  have := Option.some.inj hg
  simp only at this
  omega⟩
def TInB (F : Nat → Prop) (xs : List Bool) : Ty := fun w v => RowIn F w 1 v xs.length (bools xs)
theorem stb_inB (F : Nat → Prop) (xs : List Bool) : Stb (fun _ => False) (TInB F xs) := fun _ _ _ h ho => h.below (only_below ho)
theorem run_tailIn {F : Nat → Prop} {w : World} {A : Option Addr} {n c : Nat} {xs : List Bool} {k : Nat} (h : RowIn F w 1 (.slice A n c) n (bools xs)) (hn : xs.length = n) (hk : k ≤ n) : RowIn F w 1 (sliced A k n c 1) (n - k) (bools (xs.drop k)) := by
  have h1 : BoolsAt w (sliced A k n c 1) (xs.drop k) := run_tail (by subst hn; exact h.1) hn hk
  have hl : (xs.drop k).length = n - k := by rw [List.length_drop, hn]
  refine ⟨by rw [← hl]; exact h1, fun hp g hg => h.2 (by omega) g ?_⟩
  obtain ⟨_, A', c', e, h2, h3, h4⟩ := h.1
  injection e with e1 _ e3
  subst e1 e3
  obtain ⟨b, o, rfl, _, _⟩ := h4 (by omega)
  unfold sliced at hg
  rw [if_neg (by omega)] at hg
  simp [Value.ownBlock, Addr.add] at hg ⊢
  rw [← hg]
  split <;> rfl
set_option maxHeartbeats 4000000 in
theorem results_any (g : Nat) (d : Ci) (x : Nat) (w : World) (h : PCirc w g (Cir.toCz d)) (hd : Cir.Ok d) (hx : x ≤ 1000) :
    Calls Try.prog 105 #[.pointer (some ⟨g, 0, none⟩), .int .i64 x, .int .i64 (-1), .bool false] w (OwnBools (Cir.lits (Cir.valsA d x) (d.next ++ d.outs)) w) := by
  have s1 := hd.ins
  have s2 := hd.nexts
  have s3 := hd.gatess
  have s4 := hd.outss
  have HP := Lib.hid h
  have HD := Lib.hid hd
  clear h hd
  go_enter Try.func105, Try.ntmps105
  go_wp2_with fail
  refine (latchBits_any g _ d.ins d.next.length x _ HP.out rfl (toCz_next d) (by omega) (by omega) (by omega)).mono ?_
  rintro e w2 ⟨v2, rfl, hown2, hb2⟩
  have Ho2 := Lib.hid hown2
  have Hb2 := Lib.hid hb2
  have hz2 := hb2.size
  clear hown2 hb2
  go_wp2_with fail
  refine (inputBits_any g _ d.ins x _ (HP.out.below Hb2.out) rfl (by omega) (by omega)).mono ?_
  rintro e w3 ⟨v3, rfl, hown3, hb3⟩
  have Ho3 := Lib.hid hown3
  have Ho23 := Lib.hid (own_below Ho2.out hb3)
  have Hb3 := Lib.hid (Hb2.out.trans (hb3.mono hz2))
  have hz3 := Nat.le_trans hz2 hb3.size
  clear hown3 hb3
  go_wp2_with fail
  refine (evaluate_any g d v2 v3 _ _ _ (HP.out.below Hb3.out) HD.out (ownBools_at Ho23.out) (ownBools_at Ho3.out) (Cir.bits_length _ _) (Cir.bits_length _ _)).mono ?_
  rintro e w4 ⟨v4, rfl, hown4, hb4⟩
  have Ho4 := Lib.hid (show BoolsAt w4 v4 (Cir.valsA d x) from ownBools_at hown4)
  have Hb4 := Lib.hid (Hb3.out.trans (hb4.mono hz3))
  have hz4 := Nat.le_trans hz3 hb4.size
  clear hown4 hb4
  go_wp2_with fail
  refine (roots_any g _ _ (HP.out.below Hb4.out) (by rw [toCz_next]; omega) (by rw [toCz_outs]; omega)).mono ?_
  rintro e w5 ⟨v5, rfl, hown5, hb5⟩
  have Ho5 := Lib.hid (show NatsAt w5 v5 (d.next ++ d.outs) by
    have := Row.of_own hown5
    unfold NatsAt nats
    rw [List.map_append]
    exact this)
  have Ho45 := Lib.hid (Row.below Ho4.out hb5)
  have Hb5 := Lib.hid (Hb4.out.trans (hb5.mono hz4))
  have hz5 := Nat.le_trans hz4 hb5.size
  clear hown5 hb5
  have hl := Cir.valsA_length d x
  go_wp2_with fail
  refine (litValues_any v4 v5 (Cir.valsA d x) (d.next ++ d.outs) _ Ho45.out Ho5.out (fun l hl2 => by
    rw [hl]
    rcases List.mem_append.1 hl2 with h | h
    · exact HD.out.next l h
    · exact HD.out.out l h) (by rw [List.length_append]; omega) (by rw [hl]; unfold Cir.nvars Cir.nfirst; omega)).mono ?_
  rintro e w6 ⟨v6, rfl, hown6, hb6⟩
  have Ho6 := Lib.hid hown6
  have Hb6 := Lib.hid (Hb5.out.trans (hb6.mono hz5))
  clear hown6 hb6
  go_wp2_with fail
  go_ret
  exact ⟨_, rfl, own_mono Ho6.out hz5, Hb6.out⟩
set_option maxHeartbeats 4000000 in
theorem outsAt_any (g : Nat) (d : Ci) (x : Nat) (w : World) (h : PCirc w g (Cir.toCz d)) (hd : Cir.Ok d) (hx : x ≤ 1000) :
    Calls Try.prog 53 #[.pointer (some ⟨g, 0, none⟩), .int .i64 x] w fun e w' => (∃ u, e = .returned u ∧ RowIn (From w.heap.size) w' 1 u (Cir.outsA d x).length (bools (Cir.outsA d x))) ∧ Below w.heap.size w w' := by
  have s2 := hd.nexts
  have s4 := hd.outss
  have HP := Lib.hid h
  have HD := Lib.hid hd
  obtain ⟨vn, vg, vo, hg, c0, c1, c2, c3, r1, r2, r3⟩ := h
  obtain ⟨An, cn, rfl, hcn, hcmn⟩ := NatsAt.shape (xs := d.next) r1
  have hl : (Cir.lits (Cir.valsA d x) (d.next ++ d.outs)).length = d.next.length + d.outs.length := by unfold Cir.lits; simp
  have HL := Lib.hid hl
  have HDr := Lib.hid (Cir.outsA_drop d x)
  have HRes := Lib.hid (fun w' (hb : Below w.heap.size w w') => results_any g d x w' (HP.out.below hb) HD.out hx)
  clear r1 r2 r3 hd hl
  go_enter Try.func53, Try.ntmps53
  go_wp2_with fail
  generalize Cir.lits (Cir.valsA d x) (d.next ++ d.outs) = R at *
  refine wp_region_rs (quietRS Try.prog _ w _) quietRS_ok (by kernel_rfl) (by kernel_rfl) (by kernel_rfl) (Nat.le_of_ble_eq_true rfl) trivial trivial ?_
  refine rs_old quietRS_ok quiet_any _ (.inl rfl) _ rfl rfl ?_
  refine rs_old quietRS_ok quiet_any _ (.inl rfl) _ rfl rfl ?_
  refine rs_call quietRS_ok quiet_any (TInB (From w.heap.size) R) (stb_inB _ _) 105 _ _ rfl (fun ρ w' ho hK => by
    have ho : Only _ w w' := ho
    obtain ⟨h0, h1, h2, h3, h4, -⟩ := hK
    have h0' : ρ (.func 105) = .func (.func 105) #[] #[] := h0
    have h1' : ρ (.tmp 5) = _ := h1
    have h2' : ρ (.tmp 6) = _ := h2
    have h3' : ρ (.const (Value.int IntKind.i64 (-1))) = (Value.int IntKind.i64 (-1)) := h3
    have h4' : ρ (.const (Value.bool false)) = (Value.bool false) := h4
    refine ⟨#[ρ (.tmp 5), ρ (.tmp 6), ρ (.const (Value.int IntKind.i64 (-1))), ρ (.const (Value.bool false))], ?_, ?_⟩
    · go_simp
    · rw [h1', h2', h3', h4']
      refine (HRes.out w' (only_below ho)).mono ?_
      rintro e w2 ⟨v2, rfl, hO, hb⟩
      exact ⟨v2, rfl, (RowIn.of_own hO).mono (fun g hg => Nat.le_trans ho.size hg.1), hb⟩) ?_
  refine rs_old quietRS_ok quiet_any _ (.inl rfl) _ rfl rfl ?_
  apply rs_eq quietRS_ok quiet_any
  · intro ρ w' ho hK
    have ho : Only _ w w' := ho
    obtain ⟨h0, -⟩ := hK
    have h0' : ρ (.tmp 8) = _ := h0
    go_simp
    try exact rfl
  apply rs_eq quietRS_ok quiet_any
  · intro ρ w' ho hK
    have ho : Only _ w w' := ho
    obtain ⟨h0, -⟩ := hK
    have h0' : ρ (.tmp 9) = _ := h0
    go_simp
    try exact rfl
  apply rs_eq quietRS_ok quiet_any
  · intro ρ w' ho hK
    have ho : Only _ w w' := ho
    obtain ⟨h0, -⟩ := hK
    have h0' : ρ (.tmp 10) = _ := h0
    have hb := only_below ho
    have q1 := (hb.cell (p := ⟨g, 1, none⟩) hg).trans c1
    go_simp
    try exact rfl
  apply rs_eq quietRS_ok quiet_any
  · intro ρ w' ho hK
    have ho : Only _ w w' := ho
    obtain ⟨h0, -⟩ := hK
    have h0' : ρ (.tmp 11) = _ := h0
    go_simp
    try exact rfl
  refine rs_look quietRS_ok quiet_any (TInB (From w.heap.size) (Cir.outsA d x)) (stb_inB _ _) (fun ρ w' ho hK => by
    obtain ⟨h0, h1, -⟩ := hK
    have h0' : (TInB (From w.heap.size) R) w' (ρ (.tmp 7)) := h0
    have h1' : ρ (.tmp 12) = .int .i64 d.next.length := h1
    obtain ⟨A7, c7, e7, hc7, -⟩ := Row.shape h0'.1
    rw [HL.out] at e7 hc7
    have hrow : RowIn (From w.heap.size) w' 1 (.slice A7 (d.next.length + d.outs.length) c7) (d.next.length + d.outs.length) (bools R) := by
      have := h0'
      unfold TInB at this
      rw [e7, HL.out] at this
      exact this
    have ht := run_tailIn (k := d.next.length) hrow HL.out (by omega)
    rw [HDr.out, Nat.add_sub_cancel_left] at ht
    clear h0' h0 hrow
    refine ⟨_, ?_, (by unfold TInB; rw [Cir.outsA_length]; exact ht)⟩
    go_simp
    intro hbad
    omega) ?_
  refine rs_same quietRS_ok quiet_any 13 8 (.inr rfl) rfl _ rfl ?_
  intro f w9 k9 hk9 hI9 ht9 hcp9
  have E0 : f 0 = _ := ht9 0 (Nat.le_of_ble_eq_true rfl)
  conv at E0 => rhs; whnf
  have E1 : f 1 = _ := ht9 1 (Nat.le_of_ble_eq_true rfl)
  conv at E1 => rhs; whnf
  have E2 : (TInB (From w.heap.size) R) w9 (f 2) := ht9 2 (Nat.le_of_ble_eq_true rfl)
  have E3 : f 3 = _ := ht9 3 (Nat.le_of_ble_eq_true rfl)
  conv at E3 => rhs; whnf
  have E4 : f 4 = _ := ht9 4 (Nat.le_of_ble_eq_true rfl)
  have E5 : f 5 = _ := ht9 5 (Nat.le_of_ble_eq_true rfl)
  have E6 : f 6 = _ := ht9 6 (Nat.le_of_ble_eq_true rfl)
  have E7 : f 7 = _ := ht9 7 (Nat.le_of_ble_eq_true rfl)
  have E8 : (TInB (From w.heap.size) (Cir.outsA d x)) w9 (f 8) := ht9 8 (Nat.le_of_ble_eq_true rfl)
  have E9 : (TInB (From w.heap.size) (Cir.outsA d x)) w9 (f 9) := ht9 9 (Nat.le_of_ble_eq_true rfl)
  have Ho9 : Only _ w w9 := hI9.2.1
  have C9 : f 9 = f 8 := (hcp9 9 _ 13 8 rfl rfl rfl rfl).2
  simp only [putAll, E0, E1, E3, E4, E5, E6, E7, C9, Nat.zero_add, Nat.reduceAdd, Act.put, List.setIfInBounds_toArray, List.set_cons_succ, List.set_cons_zero]
  clear E0 E1 E3 E4 E5 E6 E7
  clear hI9 ht9 hcp9 hk9
  generalize f 2 = r2 at *
  generalize f 8 = r8 at *
  have B := Lib.hid (only_below Ho9)
  have HU := Lib.hid E8
  clear Ho9 E2 E8 E9
  go_wp2_with fail
  go_ret
  exact ⟨⟨_, rfl, HU.out⟩, B.out⟩
end Go.Proofs.Ytlbfejdbfhgifaa

namespace Go.Proofs.Ytlbfejdbfhgifaa
open Go.RowKit
set_option maxRecDepth 100000
/-! Hazards, by the program. -/
theorem append_haz {w : World} {ops : Array Oper} {rest : List Oper} {o : Oper} {a : Act} {Q : Exit → Act → World → Prop} (hgd : o.guard = none) (s x : Operand)
    (ho : o.op = .call { callee := .builtin .append, args := #[s, x], argTypes := #[27, 27] })
    (base : Nat) (v : Value) (n : Nat) (xs : List Value) (hs : a.eval s = v) (hown : w.ownsRow base 57 3 v n xs) (sv : Value) (m : Nat) (news : List Value) (hx : a.eval x = sv) (hr : Row w 3 sv m news) (h1 : ∀ u ∈ news, u.oneCell' = true)
    (h63 : n + m ≤ 10000000) (hbase : base ≤ w.heap.size)
    (h : ∀ v' w', w'.ownsRow base 57 3 v' (n + m) (xs ++ news) → w.grownBy w' v.ownBlock → (v'.ownBlock = v.ownBlock ∨ v'.ownBlock = some w.heap.size) → wpList Try.prog ops Q rest (a.put o.dst v') w') : wpList Try.prog ops Q (o :: rest) a w := by
  obtain ⟨i, hi, hz0, hz1, hz2⟩ := info_parts info_haz
  exact wpList_append_at hgd s x 27 ho base 57 i _ 3 24 Try.underlying27 hi hz0 hz1 hz2 rfl (by decide) v n xs hs hown sv m news hx hr h1 (by unfold maxLen; omega) (by omega) hbase h
theorem Only.aftH {E F : Nat → Prop} {a b c : World} (h : Only E a b) (h' : Only F b c) (hF : ∀ g, F g → a.heap.size ≤ g ∨ E g) : Only E a c :=
  ⟨h'.os.trans h.os, h'.tape.trans h.tape, h'.output.trans h.output, Nat.le_trans h.size h'.size, fun k hk hn => (h'.block k (Nat.lt_of_lt_of_le hk h.size) (fun hf => by
    rcases hF k hf with h1 | h1
    · omega
    · exact hn h1)).trans (h.block k hk hn)⟩
def OwnHaz (xs : List (Nat × Nat × Nat)) (w : World) (e : Ending) (w' : World) : Prop := ∃ v, e = .returned v ∧ w'.ownsRow w.heap.size 57 3 v xs.length (trips xs) ∧ Below w.heap.size w w'
namespace Cir
theorem tbits_terns (x n : Nat) : tbits x n = terns (bits x n) := rfl
theorem hzV_length (d : Ci) (x k : Nat) : (hzV d x k).length = nvars d := by
  unfold hzV
  refine tvals_length d ?_ ?_
  · rw [List.length_set, tbits_terns, terns_length, bits_length]
  · rw [tbits_terns, terns_length, bits_length]
theorem hzV_le (d : Ci) (x k : Nat) : ∀ t ∈ hzV d x k, t ≤ 2 := by
  unfold hzV
  refine tvals_le d (terns_le _) fun t ht => ?_
  rcases List.mem_or_eq_of_mem_set ht with h | h
  · exact terns_le _ t h
  · omega
theorem hzO_no {d : Ci} {x k o : Nat} (h : hz d x k o = false) : hzO d x k (o + 1) = hzO d x k o := by
  rw [hzO, h]; simp
theorem hzO_yes {d : Ci} {x k o : Nat} (h : hz d x k o = true) : hzO d x k (o + 1) = hzO d x k o ++ [(x, x + 2 ^ k, o)] := by
  rw [hzO, h]; simp
theorem hzK_skip {d : Ci} {x k : Nat} (h : x.testBit k = true) : hzK d x (k + 1) = hzK d x k := by
  rw [hzK, h]; simp
theorem hzK_all {d : Ci} {x k : Nat} (h : x.testBit k = false) : hzK d x (k + 1) = hzK d x k ++ hzO d x k d.outs.length := by
  rw [hzK, h]; simp
theorem outsA_get {d : Ci} {x o : Nat} (ho : o < d.outs.length) : (outsA d x)[o]? = some ((outsA d x).getD o false) := by
  rw [List.getD_eq_getElem?_getD, List.getElem?_eq_getElem (by rw [outsA_length]; exact ho)]
  rfl
theorem pow_small {k : Nat} (hk : k < 4) : 2 ^ k ≤ 8 := Nat.pow_le_pow_right (show 0 < 2 by decide) (show k ≤ 3 by omega)
end Cir
theorem bit_and (x k : Nat) (hx : x ≤ 1000000) : bits .and .i64 ((x / 2 ^ k : Nat) : Int) 1 = ((x / 2 ^ k % 2 : Nat) : Int) ∧ (((x / 2 ^ k % 2 : Nat) : Int) == 1) = x.testBit k ∧ (x : Int) / 2 ^ k = ((x / 2 ^ k : Nat) : Int) := by
  have hy : x / 2 ^ k ≤ 1000000 := Nat.le_trans (Nat.div_le_self _ _) hx
  refine ⟨?_, ?_, ?_⟩
  · have := i64_and_nat (x / 2 ^ k) 1 (by omega) (by omega)
    rw [Nat.and_one_is_mod] at this
    exact this
  · rw [Nat.testBit_eq_decide_div_mod_eq, Bool.eq_iff_iff, beq_iff_eq, decide_eq_true_iff]
    omega
  · rw [Int.natCast_ediv, two_pow]
set_option maxHeartbeats 16000000 in
theorem implHaz_ok (v : Value) (d : Ci) (w : World) (h : CircAt w v (Cir.toCz d)) (hd : Cir.Ok d) (hv : Cir.valid (Cir.toCz d) = true) :
    Calls Try.prog 13 #[v] w (OwnHaz (Cir.hazards d) w) := by
  have l1 := hd.ins
  have l2 := hd.nexts
  have l3 := hd.gatess
  have l4 := hd.outss
  have HC := Lib.hid h
  obtain ⟨vn, vg, vo, rfl, r1, r2, r3⟩ := h
  obtain ⟨Ao, co, rfl, hco, hcom⟩ := NatsAt.shape (xs := d.outs) r3
  have hins : (Cir.toCz d).ins = (d.ins : Int) := rfl
  have HP := Lib.hid (PCirc.boxed (c := Cir.toCz d) 31 r1 r2 r3)
  rw [hins] at HC HP ⊢
  have B0 := Lib.hid (bel_new w (.cells #[.int .i64 d.ins, vn, vg, .slice Ao d.outs.length co] 31))
  have PC := Lib.hid (PCells.boxed w d.ins vn vg (.slice Ao d.outs.length co) 31)
  have hsz : (w.alloc (.cells #[.int .i64 d.ins, vn, vg, .slice Ao d.outs.length co] 31)).heap.size = w.heap.size + 1 := by simp
  obtain ⟨z, p0, p1, p2, p3⟩ := PC.out
  have HC0 := Lib.hid (HC.out.below B0.out)
  have HV := Lib.hid (implValid_any _ _ _ HC0.out)
  rw [hv] at HV
  have HO := Lib.hid (show NatsAt (w.alloc (.cells #[.int .i64 d.ins, vn, vg, .slice Ao d.outs.length co] 31)) (.slice Ao d.outs.length co) d.outs from Row.below r3 B0.out)
  have Hd := Lib.hid hd
  obtain ⟨M, hM⟩ : ∃ M : Nat, M = 2 ^ (d.ins + d.next.length) := ⟨_, rfl⟩
  have hM128 : M ≤ 128 := by rw [hM]; exact Nat.pow_le_pow_right (show 0 < 2 by decide) (show _ ≤ 7 by omega)
  have HA : Hid (∀ w', Below (w.alloc (.cells #[.int .i64 d.ins, vn, vg, .slice Ao d.outs.length co] 31)).heap.size (w.alloc (.cells #[.int .i64 d.ins, vn, vg, .slice Ao d.outs.length co] 31)) w' → Calls Try.prog 48 #[.pointer (some ⟨w.heap.size, 0, none⟩)] w' fun e w'' => e = .returned (.int .i64 (M : Nat)) ∧ Below w'.heap.size w' w'') := Lib.hid fun w' hb => by
    rw [hM]
    exact assignments_any _ _ (d.ins + d.next.length) w' (HP.out.below hb) (by rw [toCz_next]; show (d.ins : Int) + _ = _; omega) (by omega)
  have HH : Hid (Cir.hazards d = Cir.hzX d M) := Lib.hid (by rw [hM]; rfl)
  have HLX := Lib.hid (fun x => Cir.hzX_len d hd x)
  have HLK := Lib.hid (fun x k => Cir.hzK_len d hd x k)
  rw [HH.out]
  clear r1 r2 r3 hd hins hv HC HC0 hco hcom hM HH
  go_enter Try.func13, Try.ntmps13
  go_wp2_with fail
  generalize w.alloc (.cells #[.int .i64 d.ins, vn, vg, .slice Ao d.outs.length co] 31) = W at *
  refine HV.out.mono ?_
  rintro e w1 ⟨rfl, hb1⟩
  have Hb1 := Lib.hid hb1
  have z1 := hb1.size
  clear hb1 p0 p1 p2 p3 z HV
  obtain ⟨z, p0, p1, p2, p3⟩ := PC.out.below Hb1.out
  go_wp2_with fail
  refine (HA.out _ Hb1.out).mono ?_
  rintro e w2 ⟨rfl, hb2⟩
  have Hb2 := Lib.hid (Hb1.out.trans (hb2.mono z1))
  have z2 := Nat.le_trans z1 hb2.size
  clear hb2 p0 p1 p2 p3 z HA Hb1 z1
  obtain ⟨z, p0, p1, p2, p3⟩ := PC.out.below Hb2.out
  go_wp2_with fail
  clear z p0 p1 p2 p3
  go_loopw [3, 17] (fun v i wr => ∃ (vv : Value) (x : Nat), vv = v ∧ i = .int .i64 x ∧ x ≤ M ∧ Hid (wr.ownsRow W.heap.size 57 3 v (Cir.hzX d x).length (trips (Cir.hzX d x))) ∧ Below W.heap.size W wr) (fun _ i _ => M - (intOf i).toNat)
  case atStart => exact ⟨_, 0, rfl, rfl, Nat.zero_le _, Lib.hid (World.ownsRow_nil _ _ _ _), Hb2.out⟩
  case round =>
    obtain ⟨vv, x, hvv, rfl, hx, Hl, hb⟩ := hrel
    subst hvv
    clear Hb2 z2
    have Hb := Lib.hid hb
    have zb := hb.size
    have PCr := Lib.hid (PC.out.below hb)
    clear hb
    obtain ⟨z, p0, p1, p2, p3⟩ := PCr.out
    by_cases hlx : x < M
    · have hdx : decide (x < M) = true := decide_eq_true hlx
      have HX1 : Hid (Cir.hzX d (x + 1) = Cir.hzX d x ++ Cir.hzK d x d.ins) := Lib.hid rfl
      have hX := HLX.out x
      obtain ⟨X, hXe⟩ : ∃ X, Cir.hzX d x = X := ⟨_, rfl⟩
      have Hl0 : Hid (wr.ownsRow W.heap.size 57 3 vv (X ++ Cir.hzK d x 0).length (trips (X ++ Cir.hzK d x 0))) := Lib.hid (by rw [← hXe]; show wr.ownsRow _ _ _ _ (Cir.hzX d x ++ []).length _; rw [List.append_nil]; rw [show Cir.hzX d x ++ Cir.hzK d x 0 = Cir.hzX d x from List.append_nil _]; exact Hl.out)
      rw [hXe] at HX1 hX
      clear Hl hXe
      go_wp2_with fail
      clear z p0 p1 p2 p3
      go_loopw [3, 22] (fun v i wr => ∃ (vv : Value) (k : Nat), vv = v ∧ i = .int .i64 k ∧ k ≤ d.ins ∧ Hid (wr.ownsRow W.heap.size 57 3 v (X ++ Cir.hzK d x k).length (trips (X ++ Cir.hzK d x k))) ∧ Below W.heap.size W wr) (fun _ i _ => d.ins - (intOf i).toNat)
      case atStart => exact ⟨_, 0, rfl, rfl, Nat.zero_le _, Hl0, Hb.out⟩
      case round =>
        obtain ⟨vv, k, hvv, rfl, hk, Hl, hb⟩ := hrel
        subst hvv
        clear Hl0 PCr Hb zb
        have Hb := Lib.hid hb
        have zb := hb.size
        have PCr := Lib.hid (PC.out.below hb)
        clear hb
        by_cases hlk : k < d.ins
        · have hdk : decide (k < d.ins) = true := decide_eq_true hlk
          obtain ⟨g1, g2, g3⟩ := bit_and x k (by omega)
          have Hor := Lib.hid (fun h => Cir.or_bit (x := x) (k := k) (by omega) (by omega) h)
          have hK := HLK.out x k
          have HKs := Lib.hid (fun h => Cir.hzK_skip (d := d) (x := x) (k := k) h)
          have HKa := Lib.hid (fun h => Cir.hzK_all (d := d) (x := x) (k := k) h)
          generalize x / 2 ^ k = y at g1 g2 g3
          generalize y % 2 = r at g1 g2
          cases hbit : x.testBit k
          · have HKn := Lib.hid (HKa.out hbit)
            have horN := Hor.out hbit
            rw [hbit] at g2
            have hp8 := Cir.pow_small (k := k) (by omega)
            obtain ⟨p, hp⟩ : ∃ p, 2 ^ k = p := ⟨_, rfl⟩
            have hpI : (2 : Int) ^ k = (p : Int) := by rw [← hp]; exact two_pow k
            rw [hpI] at g3
            rw [hp] at horN hp8
            have hwp := IntWalk.i64_in (p : Int) (by omega)
            have hor : bits .or .i64 (x : Int) (p : Int) = ((x + p : Nat) : Int) := by
              have := i64_or_nat x p (by omega) (by omega)
              rw [horN] at this
              exact this
            clear HKs HKa Hor hbit horN
            have HPk := Lib.hid (HP.out.below Hb.out)
            obtain ⟨Wk, hWk⟩ : ∃ Wk, Wk = wr := ⟨_, rfl⟩
            subst hWk
            go_wp2_with fail
            refine (inputBits_any _ _ d.ins x _ HPk.out rfl (by omega) (by omega)).mono ?_
            rintro e w2 ⟨v2, rfl, hown2, hb2⟩
            have Ho2 := Lib.hid (ownBools_at hown2)
            have Hb2 := Lib.hid hb2
            have z2 := hb2.size
            clear hown2 hb2
            go_wp2_with fail
            refine (ternaryOf_any _ _ _ Ho2.out (by rw [Cir.bits_length]; omega)).mono ?_
            rintro e w3 ⟨v3, rfl, hown3, hb3⟩
            have hlen3 : (nats (Cir.terns (Cir.bits x d.ins))).length = d.ins := by rw [nats_length, Cir.terns_length, Cir.bits_length]
            rw [hlen3] at hown3
            have Hb3 := Lib.hid (Hb2.out.trans (hb3.mono z2))
            have z3 := Nat.le_trans z2 hb3.size
            obtain ⟨g3b, c3, hv3, hg3b, hg3l, -⟩ := own_open hown3 (by omega)
            subst hv3
            obtain ⟨u3, _, hs3, hf3⟩ := own_slot hown3 (j := k) (by omega)
            have Ho3 := Lib.hid (hown3.stored k (.int .i64 2)).1
            have HT3 : Hid ((ints (nats (Cir.terns (Cir.bits x d.ins)))).set k (.int .i64 2) = nints ((Cir.tbits x d.ins).set k 2)) := Lib.hid (by
              unfold nints ints nats Cir.tbits Cir.terns
              simp [List.map_set])
            have hge : Wk.heap.size ≤ g3b := by omega
            clear hown3 hb3 hlen3 Ho2
            go_wp2_with fail
            have Hb4 := Lib.hid (Hb3.out.setCell (p := ⟨g3b, k, none⟩) hge (.int .i64 2))
            have z4 := Hb4.out.size
            have Ho4 := Lib.hid (show NatsAt (w3.setCell ⟨g3b, k, none⟩ (.int .i64 2)) (.slice (some ⟨g3b, 0, none⟩) d.ins c3) ((Cir.tbits x d.ins).set k 2) by
              have := Ho3.out
              rw [HT3.out] at this
              exact nats_own this (by rw [List.length_set]; unfold Cir.tbits; rw [List.length_map, Cir.bits_length]))
            clear Ho3 HT3 hs3 hf3 Hb2 Hb3
            generalize w3.setCell ⟨g3b, k, none⟩ (.int .i64 2) = w4 at *
            refine (latchBits_any _ _ d.ins d.next.length x _ (HPk.out.below Hb4.out) rfl (toCz_next d) (by omega) (by omega) (by omega)).mono ?_
            rintro e w5 ⟨v5, rfl, hown5, hb5⟩
            have Ho5 := Lib.hid (ownBools_at hown5)
            have Ho45 := Lib.hid (Row.below Ho4.out hb5)
            have Hb5 := Lib.hid (Hb4.out.trans (hb5.mono z4))
            have z5 := Nat.le_trans z4 hb5.size
            clear hown5 hb5 Ho4
            go_wp2_with fail
            refine (ternaryOf_any _ _ _ Ho5.out (by rw [Cir.bits_length]; omega)).mono ?_
            rintro e w6 ⟨v6, rfl, hown6, hb6⟩
            have Ho6 := Lib.hid (show NatsAt w6 v6 (Cir.tbits (x / 2 ^ d.ins) d.next.length) from Row.of_own hown6)
            have Ho46 := Lib.hid (Row.below Ho45.out hb6)
            have Hb6 := Lib.hid (Hb5.out.trans (hb6.mono z5))
            have z6 := Nat.le_trans z5 hb6.size
            clear hown6 hb6 Ho45 Ho5
            go_wp2_with fail
            refine (evalTernary_any _ d v6 _ (Cir.tbits (x / 2 ^ d.ins) d.next.length) ((Cir.tbits x d.ins).set k 2) _ (HPk.out.below Hb6.out) Hd.out Ho6.out Ho46.out (by rw [List.length_set]; unfold Cir.tbits; rw [List.length_map, Cir.bits_length]) (by unfold Cir.tbits; rw [List.length_map, Cir.bits_length]) (Cir.terns_le _) (fun t ht => by
              rcases List.mem_or_eq_of_mem_set ht with h | h
              · exact Cir.terns_le _ t h
              · omega)).mono ?_
            rintro e w7 ⟨v7, rfl, hown7, hb7⟩
            have Ho7 := Lib.hid (show RowIn (From Wk.heap.size) w7 1 v7 (nats (Cir.hzV d x k)).length (ints (nats (Cir.hzV d x k))) from (RowIn.of_own hown7).mono fun g hg => Nat.le_trans z6 hg.1)
            have Hb7 := Lib.hid (Hb6.out.trans (hb7.mono z6))
            have z7 := Nat.le_trans z6 hb7.size
            clear hown7 hb7 Ho46 Ho6
            go_wp2_with fail
            refine (outsAt_any _ d x _ (HPk.out.below Hb7.out) Hd.out (by omega)).mono ?_
            rintro e w8 ⟨⟨v8, rfl, ho8⟩, hb8⟩
            have Ho8 := Lib.hid (ho8.mono (F' := From Wk.heap.size) fun g hg => Nat.le_trans z7 hg)
            have Ho78 := Lib.hid (Ho7.out.below hb8)
            have Hb8 := Lib.hid (Hb7.out.trans (hb8.mono z7))
            have z8 := Nat.le_trans z7 hb8.size
            clear ho8 hb8 Ho7
            go_wp2_with fail
            refine (outsAt_any _ d (x + p) _ (HPk.out.below Hb8.out) Hd.out (by omega)).mono ?_
            rintro e w9 ⟨⟨v9, rfl, ho9⟩, hb9⟩
            have HA := Lib.hid (Ho8.out.below hb9)
            have HB := Lib.hid (ho9.mono (F' := From Wk.heap.size) fun g hg => Nat.le_trans z8 hg)
            have HT := Lib.hid (Ho78.out.below hb9)
            have Hb9 := Lib.hid (Hb8.out.trans (hb9.mono z8))
            have z9 := Nat.le_trans z8 hb9.size
            clear ho9 hb9 Ho8 Ho78 Hb8 Hb7 Hb6 Hb5 Hb4 z8 z7 z6 z5 z4 z3 z2
            have PC9 := Lib.hid (PCr.out.below Hb9.out)
            have HbW := Lib.hid (Hb.out.trans (Hb9.out.mono zb))
            have HO9 := Lib.hid ((RowIn.of_row (show Row W 1 (.slice Ao d.outs.length co) (nats d.outs).length (ints (nats d.outs)) from HO.out)).below HbW.out)
            have HP0 : Hid (∀ g, vv.ownBlock = some g → W.heap.size ≤ g ∧ (g < Wk.heap.size ∨ w9.heap.size ≤ g)) := Lib.hid fun g hg => ⟨(Hl.out.lt g hg).1, .inl (Hl.out.lt g hg).2⟩
            obtain ⟨z, p0, p1, p2, p3⟩ := PC9.out
            have hvl := Cir.hzV_length d x k
            have hvle := Lib.hid (Cir.hzV_le d x k)
            have hnv : Cir.nvars d ≤ 22 := by unfold Cir.nvars Cir.nfirst; omega
            obtain ⟨n0, hn0⟩ : ∃ n0, (X ++ Cir.hzK d x k).length = n0 := ⟨_, rfl⟩
            have hn0b : n0 ≤ 12 * x + 3 * k := by rw [← hn0, List.length_append]; omega
            have Hl0 : Hid (w9.ownsRow W.heap.size 57 3 vv ((X ++ Cir.hzK d x k) ++ Cir.hzO d x k 0).length (trips ((X ++ Cir.hzK d x k) ++ Cir.hzO d x k 0))) := Lib.hid (by
              rw [show (X ++ Cir.hzK d x k) ++ Cir.hzO d x k 0 = X ++ Cir.hzK d x k from List.append_nil _]
              exact own_below Hl.out Hb9.out)
            have HKn2 : Hid (X ++ Cir.hzK d x (k + 1) = (X ++ Cir.hzK d x k) ++ Cir.hzO d x k d.outs.length) := Lib.hid (by rw [HKn.out, List.append_assoc])
            have HZ : Hid (∀ o, Cir.hz d x k o = ((Cir.outsA d x).getD o false == (Cir.outsA d (x + p)).getD o false && Cir.tlit (Cir.hzV d x k) (d.outs.getD o 0) == 2)) := Lib.hid (fun o => by rw [← hp]; rfl)
            have HY : Hid (∀ o, Cir.hz d x k o = true → Cir.hzO d x k (o + 1) = Cir.hzO d x k o ++ [(x, x + p, o)]) := Lib.hid (fun o h => by rw [← hp]; exact Cir.hzO_yes h)
            have HNo : Hid (∀ o, Cir.hz d x k o = false → Cir.hzO d x k (o + 1) = Cir.hzO d x k o) := Lib.hid (fun o h => Cir.hzO_no h)
            have HLO := Lib.hid (fun o => Cir.hzO_len d x k o)
            generalize X ++ Cir.hzK d x k = Y at *
            generalize Cir.hzV d x k = V at *
            have HAl := Lib.hid (fun o (ho : o < d.outs.length) => Cir.outsA_get (d := d) (x := x) ho)
            have HBl := Lib.hid (fun o (ho : o < d.outs.length) => Cir.outsA_get (d := d) (x := x + p) ho)
            have hLA := Cir.outsA_length d x
            have hLB := Cir.outsA_length d (x + p)
            generalize Cir.outsA d x = OA at *
            generalize Cir.outsA d (x + p) = OB at *
            obtain ⟨A7, c7, e7, -, -⟩ := NatsAt.shape (xs := V) HT.out.1
            subst e7
            clear g1 g2 g3 hpI hwp hor hp hp8 HKn hK HPk hdk
            go_wp2_with fail
            clear z p0 p1 p2 p3
            go_loopw [3, 52] (fun v i wr => ∃ (vv : Value) (o : Nat), vv = v ∧ i = .int .i64 o ∧ o ≤ d.outs.length ∧ Hid (wr.ownsRow W.heap.size 57 3 v (Y ++ Cir.hzO d x k o).length (trips (Y ++ Cir.hzO d x k o))) ∧ Hid (∀ g, v.ownBlock = some g → W.heap.size ≤ g ∧ (g < Wk.heap.size ∨ w9.heap.size ≤ g)) ∧ Only (fun g => W.heap.size ≤ g ∧ g < Wk.heap.size) w9 wr) (fun _ i _ => d.outs.length - (intOf i).toNat)
            case atStart => exact ⟨_, 0, rfl, rfl, Nat.zero_le _, Hl0, HP0, Only.refl _ _⟩
            case round =>
              obtain ⟨uu, o, huu, rfl, ho, Hu, HP, hb⟩ := hrel
              subst huu
              clear Hl0
              have Hbo := Lib.hid hb
              have zo := hb.size
              clear hb
              by_cases hlo : o < d.outs.length
              · have hdo : decide (o < d.outs.length) = true := decide_eq_true hlo
                obtain ⟨bA, oA, cA, eA, hbA, hcA⟩ := boolsAt_cell (HA.out.only Hbo.out (fun g h e => Nat.lt_irrefl _ (Nat.lt_of_lt_of_le e.2 h))).1 (HAl.out o hlo)
                obtain ⟨bB, oB, cB, eB, hbB, hcB⟩ := boolsAt_cell (HB.out.only Hbo.out (fun g h e => Nat.lt_irrefl _ (Nat.lt_of_lt_of_le e.2 h))).1 (HBl.out o hlo)
                rw [hLA] at eA
                rw [hLB] at eB
                subst eA eB
                obtain ⟨b', o', l, rfl, hbl', hx0, hs0⟩ := nats_cell (nats_row (show NatsAt _ (.slice Ao d.outs.length co) d.outs from (HO9.out.only Hbo.out (fun g h e => Nat.lt_irrefl _ (Nat.lt_of_lt_of_le h e.1))).1)) rfl hlo
                have hl2 := Hd.out.out l (List.mem_of_getElem? hx0.out)
                have hgl : d.outs.getD o 0 = l := by rw [List.getD_eq_getElem?_getD, hx0.out]; rfl
                have HZo := Lib.hid (HZ.out o)
                rw [hgl] at HZo
                have hlO := HLO.out o
                have hlen : (Y ++ Cir.hzO d x k o).length ≤ n0 + 3 := by rw [List.length_append]; omega
                have ht2 := Cir.tlit_le hvle.out l
                have HTr := Lib.hid (show NatsAt wr (.slice A7 V.length c7) V from (HT.out.only Hbo.out (fun g h e => Nat.lt_irrefl _ (Nat.lt_of_lt_of_le e.2 h))).1)
                have ga := gw_cell hcA hbA
                have gb := gw_cell hcB hbB
                have gs := gw_cell hs0 hbl'
                have HTC : Hid (∀ n : GW wr, Calls Try.prog 54 #[.slice A7 (Cir.nvars d) c7, .int .i64 (l : Nat)] (gw n) fun e w' => e = .returned (.int .i64 (Cir.tlit V l : Nat)) ∧ gw n = w') := Lib.hid fun n => (by rw [← hvl]; exact ternaryLit_any _ V l (gw n) (Row.below HTr.out (gw_below n)) (by rw [hvl]; exact hl2) (by omega) hvle.out)
                obtain ⟨T, hTe⟩ : ∃ T, Cir.tlit V l = T := ⟨_, rfl⟩
                rw [hTe] at HTC HZo ht2
                clear hTe
                have HYo := Lib.hid (HY.out o)
                have HNoo := Lib.hid (HNo.out o)
                obtain ⟨ba, hba⟩ : ∃ ba, OA.getD o false = ba := ⟨_, rfl⟩
                rw [hba] at hcA ga HZo
                clear hba
                obtain ⟨bb, hbb⟩ : ∃ bb, OB.getD o false = bb := ⟨_, rfl⟩
                rw [hbb] at hcB gb HZo
                clear hbb
                clear hx0 hgl hl2 HZ HY HNo hlO
                rcases (Bool.eq_false_or_eq_true (ba == bb)).symm with hab | hab
                · have HR := Lib.hid (HNoo.out (hz_no1 HZo.out hab))
                  clear HYo HNoo HZo HTC
                  go_wp2_with fail
                  refine wp_region_grow (by kernel_rfl) (by kernel_rfl) ?_
                  repeat (go_big_quiet_step ((fail)))
                  refine wpQuiet_nil ?_
                  intro _ hw'
                  obtain ⟨nq, hw''⟩ := hw'
                  subst hw''
                  have hgq := gw_below nq
                  generalize gw nq = wq at *
                  clear nq
                  have Hb10 := Lib.hid (Hbo.out.trans (Only.of_below _ hgq))
                  have Hu10 := Lib.hid (own_below Hu.out hgq)
                  clear hgq ga gb gs hcA hcB hs0
                  go_wp2_with fail
                  go_roundw
                  case rel => exact ⟨_, o + 1, rfl, by go_num, by omega, Lib.hid (by rw [HR.out]; exact Hu10.out), HP, Hb10.out⟩
                  case measure => simp [intOf] <;> omega
                · by_cases hT : T = 2
                  · have HR := Lib.hid (HYo.out (hz_yes HZo.out hab (by rw [hT]; rfl)))
                    subst hT
                    clear HYo HNoo HZo
                    go_wp2_with fail
                    refine wp_region_grow (by kernel_rfl) (by kernel_rfl) ?_
                    repeat (go_big_quiet_step ((go_at_call 54; exact grow_same (HTC.out _))))
                    refine wpQuiet_nil ?_
                    intro _ hw'
                    obtain ⟨nq, hw''⟩ := hw'
                    subst hw''
                    have hgq := gw_below nq
                    generalize gw nq = wq at *
                    clear nq
                    have Hb10 := Lib.hid (Hbo.out.trans (Only.of_below _ hgq))
                    have Hu10 := Lib.hid (own_below Hu.out hgq)
                    have z10 := Nat.le_trans zo hgq.size
                    clear hgq ga gb gs hcA hcB hs0 HTC
                    have Hlit := Lib.hid (Row.of_own (World.ownsRow_lit (base := wq.heap.size) (e := 57) (size := 3) wq #[.int .i64 x, .int .i64 ((x + p : Nat) : Int), .int .i64 o] 1 (Nat.le_refl _) (by unfold maxLen; omega) rfl))
                    have HRt : Hid (trips (Y ++ Cir.hzO d x k (o + 1)) = trips (Y ++ Cir.hzO d x k o) ++ [.int .i64 x, .int .i64 ((x + p : Nat) : Int), .int .i64 o]) := Lib.hid (by rw [HR.out]; exact trips_snoc' _ _ _)
                    have HRl : Hid ((Y ++ Cir.hzO d x k (o + 1)).length = (Y ++ Cir.hzO d x k o).length + 1) := Lib.hid (by rw [HR.out]; exact len_snoc' _ _ _)
                    clear HR
                    obtain ⟨TY, hTY⟩ : ∃ TY, trips (Y ++ Cir.hzO d x k o) = TY := ⟨_, rfl⟩
                    rw [hTY] at HRt Hu10
                    clear hTY
                    obtain ⟨nY, hnY⟩ : ∃ nY, (Y ++ Cir.hzO d x k o).length = nY := ⟨_, rfl⟩
                    rw [hnY] at HRl Hu10 hlen
                    clear hnY
                    have hWq : W.heap.size ≤ wq.heap.size := by omega
                    go_wp2_with (at_builtin; refine append_haz rfl (.tmp 72) (.tmp 77) rfl W.heap.size _ nY TY rfl (Hu10.out.alloc _) _ 1 _ rfl Hlit.out (by simp [Value.oneCell']) (by omega) (by simp; omega) ?_; intro v7 w7 hown7 hg7 hat7; have Ho7 := Lib.hid hown7; have Hg7 := Lib.hid hg7; have Hat7 := Lib.hid hat7; clear hown7 hg7 hat7)
                    go_roundw
                    case rel => exact ⟨_, o + 1, rfl, by go_num, by omega, Lib.hid (by rw [HRt.out, HRl.out]; exact Ho7.out), Lib.hid (fun g hg => by
                      rcases Hat7.out with h | h
                      · exact HP.out g (h ▸ hg)
                      · rw [h] at hg
                        have h1 := Option.some.inj hg
                        rw [World.size_alloc] at h1
                        exact ⟨by omega, .inr (by omega)⟩), (Hb10.out.trans (Only.of_below _ (bel_new _ _))).aftH (Only.grown Hg7.out fun g hg => hg) (fun g hg => (HP.out g hg).2.elim (fun h => .inr ⟨(HP.out g hg).1, h⟩) .inl)⟩
                    case measure => simp [intOf] <;> omega
                  · have hT2 : (T == 2) = false := by simpa using hT
                    have hT3 : ((T : Int) == 2) = false := by simp; omega
                    have HR := Lib.hid (HNoo.out (hz_no2 HZo.out hT2))
                    clear HYo HNoo HZo hT hT2
                    go_wp2_with fail
                    refine wp_region_grow (by kernel_rfl) (by kernel_rfl) ?_
                    repeat (go_big_quiet_step ((go_at_call 54; exact grow_same (HTC.out _))))
                    refine wpQuiet_nil ?_
                    intro _ hw'
                    obtain ⟨nq, hw''⟩ := hw'
                    subst hw''
                    have hgq := gw_below nq
                    generalize gw nq = wq at *
                    clear nq
                    have Hb10 := Lib.hid (Hbo.out.trans (Only.of_below _ hgq))
                    have Hu10 := Lib.hid (own_below Hu.out hgq)
                    clear hgq ga gb gs hcA hcB hs0 HTC
                    go_wp2_with fail
                    go_roundw
                    case rel => exact ⟨_, o + 1, rfl, by go_num, by omega, Lib.hid (by rw [HR.out]; exact Hu10.out), HP, Hb10.out⟩
                    case measure => simp [intOf] <;> omega
              · obtain rfl : o = d.outs.length := by omega
                have hdo : decide (d.outs.length < d.outs.length) = false := decide_eq_false (by omega)
                go_wp2_with fail
                go_roundw
                case rel => exact ⟨_, k + 1, rfl, by go_num, by omega, Lib.hid (by rw [HKn2.out]; exact Hu.out), Only.below HbW.out Hbo.out HbW.out.size (fun k hk => hk.1)⟩
                case measure => simp [intOf] <;> omega
          · have HKn := Lib.hid (HKs.out hbit)
            rw [hbit] at g2
            clear HKs HKa Hor hbit
            go_wp2_with fail
            go_roundw
            case rel => exact ⟨_, k + 1, rfl, by go_num, by omega, Lib.hid (by rw [HKn.out]; exact Hl.out), Hb.out⟩
            case measure => simp [intOf] <;> omega
        · obtain rfl : k = d.ins := by omega
          have hdk : decide (d.ins < d.ins) = false := decide_eq_false (by omega)
          go_wp2_with fail
          go_roundw
          case rel => exact ⟨_, x + 1, rfl, by go_num, by omega, Lib.hid (by rw [HX1.out]; exact Hl.out), Hb.out⟩
          case measure => simp [intOf] <;> omega
    · obtain rfl : x = M := by omega
      have hdx : decide (x < x) = false := decide_eq_false (by omega)
      go_wp2_with fail
      go_ret
      exact ⟨_, rfl, own_mono Hl.out (by omega), B0.out.trans (Hb.out.mono B0.out.size)⟩
theorem implHaz_no (v : Value) (c : Cz) (w : World) (h : CircAt w v c) (hv : Cir.valid c = false) :
    Calls Try.prog 13 #[v] w (OwnHaz [] w) := by
  have HC := Lib.hid h
  obtain ⟨vn, vg, vo, rfl, r1, r2, r3⟩ := h
  have B0 := Lib.hid (bel_new w (.cells #[.int .i64 c.ins, vn, vg, vo] 31))
  obtain ⟨z, p0, p1, p2, p3⟩ := PCells.boxed w c.ins vn vg vo 31
  have HV := Lib.hid (implValid_any _ _ _ (HC.out.below B0.out))
  rw [hv] at HV
  clear r1 r2 r3 hv HC
  go_enter Try.func13, Try.ntmps13
  go_wp2_with fail
  refine HV.out.mono ?_
  rintro e w1 ⟨rfl, hb1⟩
  have B1 := Lib.hid (B0.out.trans (hb1.mono B0.out.size))
  clear hb1
  go_wp2_with fail
  go_ret
  exact ⟨_, rfl, World.ownsRow_nil _ _ _ _, B1.out⟩
def Cir.hazI (c : Cz) : List (Nat × Nat × Nat) := if Cir.valid c then Cir.hazards (Cir.nat c) else []
theorem implHaz_any (v : Value) (c : Cz) (w : World) (h : CircAt w v c) :
    Calls Try.prog 13 #[v] w (OwnHaz (Cir.hazI c) w) := by
  cases hv : Cir.valid c
  · rw [show Cir.hazI c = [] from by unfold Cir.hazI; rw [hv]; rfl]
    exact implHaz_no v c w h hv
  · rw [show Cir.hazI c = Cir.hazards (Cir.nat c) from by unfold Cir.hazI; rw [hv]; rfl]
    obtain ⟨d1, d2⟩ := Cir.nat_ok hv
    exact implHaz_ok v (Cir.nat c) w (by rw [← d1]; exact h) d2 (by rw [← d1]; exact hv)
end Go.Proofs.Ytlbfejdbfhgifaa

namespace Go.Proofs.Ytlbfejdbfhgifaa
open Go.RowKit
set_option maxRecDepth 100000
/-! Reachable, by the program. -/
def Cir.reachI (c : Cz) : List Int := if Cir.valid c then nats (Cir.reach (Cir.nat c)) else []
theorem own_no_map {w : World} {B n size b m : Nat} {e : TypeId} {v : Value} {cs : List Value} {S : Nat → Bool} (h : w.ownsRow B e size v n cs) (hs : SetAt w b m S) : ¬ v.ownBlock = some b := by
  rintro hv
  obtain ⟨D, ⟨es, clock, h1, _⟩, _⟩ := hs
  rcases h.2 with ⟨rfl, _⟩ | ⟨g, cap, cur, rfl, _, h2, _⟩
  · simp [Value.ownBlock] at hv
  · simp [Value.ownBlock] at hv
    subst hv
    rw [h1] at h2
    cases h2
set_option maxHeartbeats 4000000 in
theorem implReach_ok (v : Value) (d : Ci) (w : World) (h : CircAt w v (Cir.toCz d)) (hd : Cir.Ok d) (hv : Cir.valid (Cir.toCz d) = true) :
    Calls Try.prog 85 #[v] w (OwnInts (nats (Cir.reach d)) w) := by
  have l1 := hd.ins
  have l2 := hd.nexts
  have HC := Lib.hid h
  obtain ⟨vn, vg, vo, rfl, r1, r2, r3⟩ := h
  have hins : (Cir.toCz d).ins = (d.ins : Int) := rfl
  have HP := Lib.hid (PCirc.boxed (c := Cir.toCz d) 31 r1 r2 r3)
  rw [hins] at HC HP ⊢
  have B0 := Lib.hid (bel_new w (.cells #[.int .i64 d.ins, vn, vg, vo] 31))
  have hsz : (w.alloc (.cells #[.int .i64 d.ins, vn, vg, vo] 31)).heap.size = w.heap.size + 1 := by simp
  obtain ⟨z, p0, p1, p2, p3⟩ := PCells.boxed w d.ins vn vg vo 31
  have HV := Lib.hid (implValid_any _ _ _ (HC.out.below B0.out))
  rw [hv] at HV
  have Hd := Lib.hid hd
  obtain ⟨M, e, hM⟩ : ∃ M : Nat, (2 : Int) ^ d.ins = (M : Int) ∧ M = 2 ^ d.ins := ⟨2 ^ d.ins, two_pow d.ins, rfl⟩
  have hM16 : M ≤ 16 := by rw [hM]; exact Nat.pow_le_pow_right (show 0 < 2 by decide) l1
  have hwM := IntWalk.i64_in (M : Int) (by omega)
  have HM := Lib.hid hM
  have hmm := @run_makeMap Try.prog
  clear r1 r2 r3 hd hins hM hv HC
  go_enter Try.func85, Try.ntmps85
  go_wp2_with fail
  generalize w.alloc (.cells #[.int .i64 d.ins, vn, vg, vo] 31) = W at *
  refine HV.out.mono ?_
  rintro e w1 ⟨rfl, hb1⟩
  have B1 := Lib.hid (B0.out.trans (hb1.mono B0.out.size))
  have HP1 := Lib.hid (HP.out.below hb1)
  have q0 := (hb1.cell (p := ⟨w.heap.size, 0, none⟩) z).trans p0
  have z1 := hb1.size
  clear hb1 p0 p1 p2 p3 HV HP
  have Hset0 : Hid (SetAt ((w1.alloc (.cells #[.int .i64 0] 3)).alloc (.map #[] 0)) (w1.heap.size + 1) 0 (fun _ => false)) := Lib.hid (by have := setAt_made (w1.alloc (.cells #[.int .i64 0] 3)); rwa [World.size_alloc] at this)
  have Hlit : Hid (((w1.alloc (.cells #[.int .i64 0] 3)).alloc (.map #[] 0)).ownsRow w1.heap.size 3 1 (.slice (some ⟨w1.heap.size, 0, none⟩) 1 1) 1 [.int .i64 0]) := Lib.hid ((World.ownsRow_lit (base := w1.heap.size) (e := 3) (size := 1) w1 #[.int .i64 0] 1 (Nat.le_refl _) (by unfold maxLen; omega) rfl).alloc _)
  have hs1 : (w1.alloc (.cells #[.int .i64 0] 3)).heap.size = w1.heap.size + 1 := by simp
  have Bm : Hid (Below w1.heap.size w1 ((w1.alloc (.cells #[.int .i64 0] 3)).alloc (.map #[] 0))) := Lib.hid (((Below.refl _ _).alloc (Nat.le_refl _) _).alloc (by simp) _)
  go_wp2_with (with_reducible refine wpList_add_set _ rfl (.tmp 13) _ _ (.inr rfl) _ _ _ rfl Hset0.out (by omega) 0 (by omega) rfl rfl ?_; intro w2 hset2 hg2)
  have Hset2 := Lib.hid (hset2.congr (S' := fun x => Cir.memB [0] x) (fun x => by rw [Cir.memB_zero, Bool.false_or]))
  have Ho2 := Lib.hid (own_kept Hlit.out hg2 (fun g hg e => own_no_map Hlit.out Hset0.out (hg.trans e.symm)))
  have B2 := Lib.hid (Bm.out.grown hg2 Bm.out.size (fun q hq => by have := Option.some.inj hq; omega))
  clear hset2 hg2 Hset0 Hlit Bm hmm
  have hR0 : Hid (Cir.reach d = Cir.bfs d (9 - 0) 0 [0]) := Lib.hid rfl
  generalize Cir.reach d = res at *
  go_wp2_with fail
  go_loopw [3, 5] (fun v i wr => ∃ (vv : Value) (k m : Nat) (l : List Nat), vv = v ∧ i = .int .i64 k ∧ k ≤ l.length ∧ l.length ≤ 8 ∧ m ≤ 300 ∧ Hid (Cir.Sts d l) ∧ Hid (res = Cir.bfs d (9 - k) k l) ∧ Hid (wr.ownsRow w1.heap.size 3 1 v l.length (nints l)) ∧ Hid (SetAt wr (w1.heap.size + 1) m (fun x => Cir.memB l x)) ∧ m ≤ 1 + k * 16 ∧ Below w1.heap.size w1 wr) (fun v i _ => 8 - (intOf i).toNat)
  case atStart => exact ⟨_, 0, 1, [0], rfl, rfl, by simp, by simp, by omega, Lib.hid (Cir.Sts.zero d), hR0, Ho2, Lib.hid (Hset2.out.mono (by omega)), by omega, B2.out⟩
  case round =>
    obtain ⟨vv, k, m, l, hvv, rfl, hk, hl8, hm3, Hst, hres, Ho, Hs, hm16, hb⟩ := hrel
    subst hvv
    clear Ho2 Hset2 B2 hR0
    obtain ⟨A, c, rfl, hc, hcm⟩ := NatsAt.shape (own_nats Ho.out)
    unfold maxLen at hcm
    have Hb := Lib.hid hb
    have hzb := hb.size
    have c0 := (hb.cell (p := ⟨w.heap.size, 0, none⟩) (show w.heap.size < w1.heap.size by omega)).trans q0
    clear hb
    by_cases hlt : k < l.length
    · obtain ⟨s, hs⟩ := at_some hlt
      have hs8 : s < 8 := by
        have h1 := Hst.out.lt s (List.mem_of_getElem? hs)
        have h2 : 2 ^ d.next.length ≤ 2 ^ 3 := Nat.pow_le_pow_right (show 0 < 2 by decide) l2
        omega
      have Hstep := Lib.hid (Cir.bfs_step (c := d) (f := 9 - (k + 1)) hs)
      have hf : 9 - k = 9 - (k + 1) + 1 := by omega
      rw [hf] at hres
      have Hgs := Lib.hid hs
      have hdl : decide (k < l.length) = true := decide_eq_true hlt
      clear hs hf
      go_wp2_with fail
      obtain ⟨Wk, hWk⟩ : ∃ Wk, Wk = wr := ⟨_, rfl⟩
      subst hWk
      go_loopw [3, 24] (fun v i wr => ∃ (vv : Value) (j q : Nat), vv = v ∧ i = .int .i64 j ∧ j ≤ M ∧ q ≤ m + j ∧ Hid (wr.ownsRow w1.heap.size 3 1 v (Cir.pushes d s j l).length (nints (Cir.pushes d s j l))) ∧ Hid (SetAt wr (w1.heap.size + 1) q (fun x => Cir.memB (Cir.pushes d s j l) x)) ∧ Below w1.heap.size w1 wr) (fun v i _ => M - (intOf i).toNat)
      case atStart => exact ⟨_, 0, m, rfl, rfl, Nat.zero_le _, by omega, Ho, Hs, Hb.out⟩
      case round =>
        obtain ⟨vv, j, q, hvv, rfl, hj, hq, Ho, Hs, hb⟩ := hrel
        subst hvv
        clear c0
        have Hb := Lib.hid hb
        have hzb := hb.size
        have c0 := (hb.cell (p := ⟨w.heap.size, 0, none⟩) (show w.heap.size < w1.heap.size by omega)).trans q0
        have Hst2 := Lib.hid (Hst.out.pushes s j)
        have hL8 := Hst2.out.len Hd.out
        have Hgj := Lib.hid (Cir.pushes_get (c := d) (s := s) (j := j) Hgs.out)
        have Hsu := Lib.hid (Cir.pushes_succ d s j l)
        by_cases hlj : j < M
        · obtain ⟨L2, hL2⟩ : ∃ L2, Cir.pushes d s (j + 1) l = L2 := ⟨_, rfl⟩
          rw [hL2] at Hsu
          have HL2 := Lib.hid hL2
          clear hL2
          generalize Cir.pushes d s j l = L at *
          obtain ⟨A, c, rfl, hc, hcm⟩ := NatsAt.shape (own_nats Ho.out)
          unfold maxLen at hcm
          have hkL : k < L.length := (List.getElem?_eq_some_iff.1 Hgj.out).1
          obtain ⟨b, o, s', rfl, hbl, hx0, hs0⟩ := nats_cell (nats_row (own_nats Ho.out)) rfl hkL
          obtain rfl : s' = s := Option.some.inj (hx0.out.symm.trans Hgj.out)
          clear hb
          go_wp2_with fail
          refine (cycle_any w.heap.size d s' j _ (HP1.out.below Hb.out) Hd.out (by omega) (by omega)).mono ?_
          rintro e w5 ⟨rfl, hb5⟩
          have Hb5 := Lib.hid (Hb.out.trans (hb5.mono hzb))
          have Ho5 := Lib.hid (own_below Ho.out hb5)
          have Hs5 := Lib.hid (Hs.out.below hb5)
          have hz5 := hb5.size
          have hN8 : Cir.nextOf d s' j < 8 := by
            have h1 := Cir.nextOf_lt d s' j
            have h2 : 2 ^ d.next.length ≤ 2 ^ 3 := Nat.pow_le_pow_right (show 0 < 2 by decide) l2
            omega
          clear hb5 Ho Hs c0 hs0
          generalize Cir.nextOf d s' j = N at *
          generalize Cir.num (Cir.outsOf d s' j) = On at *
          cases hc : Cir.memB L N
          · have HP := Lib.hid (Cir.push_no hc)
            go_wp2_with (first
              | (at_lookup; refine wpList_look_set _ rfl (.tmp 36) (.tmp 37) rfl _ _ _ rfl Hs5.out N (by omega) rfl ?_)
              | (at_mapUpdate; refine wpList_add_set _ rfl (.tmp 40) (.tmp 41) _ (.inl rfl) _ _ _ rfl Hs5.out (by omega) N (by omega) rfl rfl ?_; intro w6 hset6 hg6; have Hset6 := Lib.hid (hset6.congr (S' := fun x => Cir.memB (L ++ [N]) x) (fun x => by rw [Cir.memB_snoc])); have Ho6 := Lib.hid (own_kept Ho5.out hg6 (fun g hg e => own_no_map Ho5.out Hs5.out (hg.trans e.symm))); have Hb6 := Lib.hid (Hb5.out.grown hg6 Hb5.out.size (fun q hq => by have := Option.some.inj hq; omega)); have hz6 := hg6.size; have Hlit := Lib.hid (Row.of_own (World.ownsRow_lit (base := w6.heap.size) (e := 3) (size := 1) w6 #[.int .i64 N] 1 (Nat.le_refl _) (by unfold maxLen; omega) rfl)); clear hset6 hg6)
              | (at_builtin; refine append_ints rfl (.tmp 42) (.tmp 44) rfl w1.heap.size _ L.length (nints L) rfl (Ho6.out.alloc _) _ 1 [.int .i64 N] rfl Hlit.out (by simp [Value.oneCell']) (by omega) (by simp; omega) ?_; intro v7 w7 hown7 hg7 hat7; have Ho7 := Lib.hid hown7; have Hset7 := Lib.hid ((Hset6.out.below (bel_new w6 (.cells #[.int .i64 N] 3))).only (Only.grown (E := fun g => some g = (Value.slice (some ⟨b, o, none⟩) L.length c).ownBlock) hg7 (fun k hk => hk.symm)) (fun hq => own_no_map Ho6.out Hset6.out hq.symm)); have Hg7 := Lib.hid hg7; clear hown7 hg7 hat7))
            go_roundw
            case rel => exact ⟨_, j + 1, q + 1, rfl, by go_num, by omega, by omega, Lib.hid (by rw [HL2.out, Hsu.out, HP.out, nints_snoc, List.length_append]; exact Ho7.out), Lib.hid (by rw [HL2.out, Hsu.out, HP.out]; exact Hset7.out), (Hb6.out.alloc Hb6.out.size _).grown Hg7.out (Hb6.out.alloc Hb6.out.size _).size (own_ge0 Ho6.out)⟩
            case measure => simp [intOf] <;> omega
          · have HP := Lib.hid (Cir.push_yes hc)
            go_wp2_with (first
              | (at_lookup; refine wpList_look_set _ rfl (.tmp 36) (.tmp 37) rfl _ _ _ rfl Hs5.out N (by omega) rfl ?_))
            go_roundw
            case rel => exact ⟨_, j + 1, q, rfl, by go_num, by omega, by omega, Lib.hid (by rw [HL2.out, Hsu.out, HP.out]; exact Ho5.out), Lib.hid (by rw [HL2.out, Hsu.out, HP.out]; exact Hs5.out), Hb5.out⟩
            case measure => simp [intOf] <;> omega
        · obtain rfl : j = M := by omega
          have HMr : Hid (res = Cir.bfs d (9 - (k + 1)) (k + 1) (Cir.pushes d s j l)) := Lib.hid (by rw [hres.out, Hstep.out, HM.out])
          have Hlk := Lib.hid (show k + 1 ≤ (Cir.pushes d s j l).length by have := (List.getElem?_eq_some_iff.1 Hgj.out).1; omega)
          clear hb
          generalize Cir.pushes d s j l = L at *
          go_wp2_with fail
          go_roundw
          case rel => exact ⟨_, k + 1, q, L, rfl, by go_num, Hlk.out, hL8, by omega, Hst2, HMr, Ho, Hs, by omega, Hb.out⟩
          case measure => simp [intOf] <;> omega
    · obtain rfl : k = l.length := by omega
      have hr : res = l := by rw [hres.out, Cir.bfs_end]
      go_wp2_with fail
      go_ret
      exact ⟨_, rfl, by rw [hr, nats_length]; exact own_mono Ho.out (by omega), B1.out.trans (Hb.out.mono B1.out.size)⟩
end Go.Proofs.Ytlbfejdbfhgifaa

namespace Go.Proofs.Ytlbfejdbfhgifaa
open Go.RowKit
set_option maxRecDepth 100000
/-! Reachable, by the reference; both, for all circuits. -/
theorem implReach_any (v : Value) (c : Cz) (w : World) (h : CircAt w v c) :
    Calls Try.prog 85 #[v] w (OwnInts (Cir.reachI c) w) := by
  cases hv : Cir.valid c
  · have HC := Lib.hid h
    obtain ⟨vn, vg, vo, rfl, -⟩ := h
    have B0 := Lib.hid (bel_new w (.cells #[.int .i64 c.ins, vn, vg, vo] 31))
    obtain ⟨z, p0, p1, p2, p3⟩ := PCells.boxed w c.ins vn vg vo 31
    have HV := Lib.hid (implValid_any _ _ _ (HC.out.below B0.out))
    rw [hv] at HV
    have HR : Hid (Cir.reachI c = []) := Lib.hid (by unfold Cir.reachI; rw [hv]; rfl)
    clear hv HC
    go_enter Try.func85, Try.ntmps85
    go_wp2_with fail
    refine HV.out.mono ?_
    rintro e w1 ⟨rfl, hb1⟩
    have B := Lib.hid (B0.out.trans (hb1.mono B0.out.size))
    clear hb1
    go_wp2_with fail
    go_ret
    rw [HR.out]
    exact own_nil _ _ B.out
  · obtain ⟨d1, d2⟩ := Cir.nat_ok hv
    have hr : Cir.reachI c = nats (Cir.reach (Cir.nat c)) := by unfold Cir.reachI; rw [hv]; rfl
    rw [hr]
    exact implReach_ok v (Cir.nat c) w (by rw [← d1]; exact h) d2 (by rw [← d1]; exact hv)
end Go.Proofs.Ytlbfejdbfhgifaa

namespace Go.Proofs.Ytlbfejdbfhgifaa
open Go.RowKit
set_option maxRecDepth 100000
/-! The place of a number in a list. -/
def idxFrom : Nat → List Nat → Nat → Int
  | _, [], _ => -1
  | k, x :: l, n => if x = n then (k : Int) else idxFrom (k + 1) l n
def idxOf (l : List Nat) (n : Nat) : Int := idxFrom 0 l n
theorem idxFrom_drop {l : List Nat} {k x : Nat} (h : l[k]? = some x) (n : Nat) : idxFrom k (l.drop k) n = if x = n then (k : Int) else idxFrom (k + 1) (l.drop (k + 1)) n := by
  obtain ⟨hk, rfl⟩ := List.getElem?_eq_some_iff.1 h
  rw [List.drop_eq_getElem_cons hk, idxFrom]
theorem idxFrom_cases : ∀ (l : List Nat) (k n : Nat), (idxFrom k l n = -1 ∧ n ∉ l) ∨ ∃ i, idxFrom k l n = ((k + i : Nat) : Int) ∧ l[i]? = some n ∧ ∀ j, j < i → l[j]? ≠ some n
  | [], k, n => .inl ⟨rfl, by simp⟩
  | x :: l, k, n => by
    rw [idxFrom]
    by_cases h : x = n
    · subst h
      exact .inr ⟨0, by simp, by simp, fun j hj => by omega⟩
    · rw [if_neg h]
      rcases idxFrom_cases l (k + 1) n with ⟨h1, h2⟩ | ⟨i, h1, h2, h3⟩
      · exact .inl ⟨h1, by simp [Ne.symm h, h2]⟩
      · refine .inr ⟨i + 1, by rw [h1]; congr 1; omega, by simpa using h2, fun j hj => ?_⟩
        cases j with
        | zero => simpa using h
        | succ j => simpa using h3 j (by omega)
theorem idxOf_mem {l : List Nat} {n : Nat} (h : n ∈ l) : ∃ i : Nat, idxOf l n = i ∧ l[i]? = some n ∧ ∀ j, j < i → l[j]? ≠ some n := by
  rcases idxFrom_cases l 0 n with ⟨_, h2⟩ | ⟨i, h1, h2, h3⟩
  · exact absurd h h2
  · exact ⟨i, by unfold idxOf; rw [h1, Nat.zero_add], h2, h3⟩
theorem idxOf_not {l : List Nat} {n : Nat} (h : n ∉ l) : idxOf l n = -1 := by
  rcases idxFrom_cases l 0 n with ⟨h1, _⟩ | ⟨i, _, h2, _⟩
  · exact h1
  · exact absurd (List.mem_of_getElem? h2) h
theorem idxOf_lo (l : List Nat) (n : Nat) : -1 ≤ idxOf l n ∧ idxOf l n < l.length := by
  by_cases h : n ∈ l
  · obtain ⟨i, h1, h2, _⟩ := idxOf_mem h
    have := (List.getElem?_eq_some_iff.1 h2).1
    omega
  · rw [idxOf_not h]; omega
theorem index_any (v : Value) (xs : List Nat) (n : Nat) (w : World) (h : NatsAt w v xs) (hn : n ≤ 1000000) :
    Calls Try.prog 67 #[v, .int .i64 n] w fun e w' => e = .returned (.int .i64 (idxOf xs n)) ∧ w = w' := by
  obtain ⟨A, c, rfl, hc, hcm⟩ := h.shape
  unfold maxLen at hcm
  have H := Lib.hid h
  have h0 : Hid (idxOf xs n = idxFrom 0 (xs.drop 0) n) := Lib.hid rfl
  generalize idxOf xs n = res at h0 ⊢
  clear h
  go_enter Try.func67, Try.ntmps67
  go_wp2_with fail
  go_loop [8] (fun i => ∃ k : Nat, k ≤ xs.length ∧ i = .int .i64 k ∧ Hid (res = idxFrom k (xs.drop k) n)) (fun i => xs.length - (intOf i).toNat)
  case atStart => exact ⟨0, Nat.zero_le _, rfl, h0⟩
  case round =>
    obtain ⟨k, hk, rfl, hres⟩ := hrel
    clear h0
    by_cases hlt : k < xs.length
    · obtain ⟨b, o, x, rfl, hbl, hx, hs1⟩ := nats_cell (nats_row H.out) rfl hlt
      have Hstep := Lib.hid (idxFrom_drop hx.out n)
      by_cases hxn : x = n
      · have hr : res = (k : Int) := by rw [hres.out, Hstep.out, if_pos hxn]
        have hq : ((n : Int) == (x : Int)) = true := by simp [hxn]
        subst hr
        clear hxn
        go_wp2_with fail
        go_ret
        exact ⟨rfl, rfl⟩
      · have Hn : Hid (res = idxFrom (k + 1) (xs.drop (k + 1)) n) := Lib.hid (by rw [hres.out, Hstep.out, if_neg hxn])
        have hq : ((n : Int) == (x : Int)) = false := by simp; omega
        clear hxn
        go_wp2_with fail
        go_round
        case rel => exact ⟨k + 1, by omega, by go_num, Hn⟩
        case measure => simp [intOf] <;> omega
    · have hr : res = -1 := by rw [hres.out, List.drop_eq_nil_of_le (by omega : xs.length ≤ k)]; rfl
      subst hr
      go_wp2_with fail
      go_ret
      exact ⟨rfl, rfl⟩
theorem l29At_any (v : Value) (xs : List Nat) (n : Nat) (w : World) (h : NatsAt w v xs) (hn : n ≤ 1000000) :
    Calls Try.prog 63 #[v, .int .i64 n] w fun e w' => e = .returned (.int .i64 (idxOf xs n)) ∧ w = w' := by
  obtain ⟨A, c, rfl, hc, hcm⟩ := h.shape
  unfold maxLen at hcm
  have H := Lib.hid h
  have h0 : Hid (idxOf xs n = idxFrom 0 (xs.drop 0) n) := Lib.hid rfl
  generalize idxOf xs n = res at h0 ⊢
  clear h
  go_enter Try.func63, Try.ntmps63
  go_wp2_with fail
  go_loop [5] (fun i => ∃ k : Nat, k ≤ xs.length ∧ i = .int .i64 k ∧ Hid (res = idxFrom k (xs.drop k) n)) (fun i => xs.length - (intOf i).toNat)
  case atStart => exact ⟨0, Nat.zero_le _, rfl, h0⟩
  case round =>
    obtain ⟨k, hk, rfl, hres⟩ := hrel
    clear h0
    by_cases hlt : k < xs.length
    · obtain ⟨b, o, x, rfl, hbl, hx, hs1⟩ := nats_cell (nats_row H.out) rfl hlt
      have Hstep := Lib.hid (idxFrom_drop hx.out n)
      by_cases hxn : x = n
      · have hr : res = (k : Int) := by rw [hres.out, Hstep.out, if_pos hxn]
        have hq : ((x : Int) == (n : Int)) = true := by simp [hxn]
        subst hr
        clear hxn
        go_wp2_with fail
        go_ret
        exact ⟨rfl, rfl⟩
      · have Hn : Hid (res = idxFrom (k + 1) (xs.drop (k + 1)) n) := Lib.hid (by rw [hres.out, Hstep.out, if_neg hxn])
        have hq : ((x : Int) == (n : Int)) = false := by simp; omega
        clear hxn
        go_wp2_with fail
        go_round
        case rel => exact ⟨k + 1, by omega, by go_num, Hn⟩
        case measure => simp [intOf] <;> omega
    · have hr : res = -1 := by rw [hres.out, List.drop_eq_nil_of_le (by omega : xs.length ≤ k)]; rfl
      subst hr
      go_wp2_with fail
      go_ret
      exact ⟨rfl, rfl⟩
end Go.Proofs.Ytlbfejdbfhgifaa

namespace Go.Proofs.Ytlbfejdbfhgifaa
open Go.RowKit
set_option maxRecDepth 100000
/-! The rows of a machine, by the program. -/
namespace Cir
def rowN (d : Ci) (s : Nat) : List Nat := (List.range (2 ^ d.ins)).map (nextOf d s)
def rowO (d : Ci) (s : Nat) : List Nat := (List.range (2 ^ d.ins)).map fun x => num (outsOf d s x)
def rowI (d : Ci) (s : Nat) : List Int := (rowN d s).map (idxOf (reach d))
/-- The machine of a circuit. -/
def machN (d : Ci) : Mz := { ins := d.ins, next := (reach d).map (rowI d), out := (reach d).map fun s => nats (rowO d s) }
def machI (c : Cz) : Mz := if valid c then machN (nat c) else { ins := 0, next := [], out := [] }
end Cir
/-- Two rows of the call's own, apart. -/
def OwnTwo (xs ys : List Int) (w : World) (e : Ending) (w' : World) : Prop := ∃ a b, e = .returned (.tuple #[a, b]) ∧ w'.ownsRow w.heap.size 3 1 a xs.length (ints xs) ∧ w'.ownsRow w.heap.size 3 1 b ys.length (ints ys) ∧ Apart a b ∧ Below w.heap.size w w'
set_option maxHeartbeats 8000000 in
theorem stateRows_any (g : Nat) (d : Ci) (s : Nat) (w : World) (h : PCirc w g (Cir.toCz d)) (hd : Cir.Ok d) (hs : s ≤ 1000) :
    Calls Try.prog 86 #[.pointer (some ⟨g, 0, none⟩), .int .i64 s] w (OwnTwo (nats (Cir.rowN d s)) (nats (Cir.rowO d s)) w) := by
  have l1 := hd.ins
  have HP := Lib.hid h
  obtain ⟨vn, vg, vo, hg, c0, c1, c2, c3, r1, r2, r3⟩ := h
  have C0 : Hid (w.cell? ⟨g, 0, none⟩ = some (.int .i64 d.ins)) := Lib.hid c0
  have Hd := Lib.hid hd
  obtain ⟨M, e, hM⟩ : ∃ M : Nat, (2 : Int) ^ d.ins = (M : Int) ∧ M = 2 ^ d.ins := ⟨2 ^ d.ins, two_pow d.ins, rfl⟩
  have hM16 : M ≤ 16 := by rw [hM]; exact Nat.pow_le_pow_right (show 0 < 2 by decide) l1
  have hwM := IntWalk.i64_in (M : Int) (by omega)
  have HM := Lib.hid hM
  have q0 := C0.out
  clear r1 r2 r3 hd hM c0 c1 c2 c3
  go_enter Try.func86, Try.ntmps86
  go_wp2_with fail
  clear q0
  go_loopw [6, 7, 16] (fun v u i wr => ∃ (vv uu : Value) (k : Nat), vv = v ∧ uu = u ∧ k ≤ M ∧ i = .int .i64 k ∧ Hid (wr.ownsRow w.heap.size 3 1 v k (nints ((List.range k).map (Cir.nextOf d s)))) ∧ Hid (wr.ownsRow w.heap.size 3 1 u k (nints ((List.range k).map fun x => Cir.num (Cir.outsOf d s x)))) ∧ Hid (Apart v u) ∧ Below w.heap.size w wr) (fun _ _ i _ => M - (intOf i).toNat)
  case atStart => exact ⟨_, _, 0, rfl, rfl, Nat.zero_le _, rfl, Lib.hid (World.ownsRow_nil _ _ _ _), Lib.hid (World.ownsRow_nil _ _ _ _), Lib.hid (fun g h => by simp [Value.ownBlock] at h), Below.refl _ _⟩
  case round =>
    obtain ⟨vv, uu, k, hvv, huu, hk, rfl, Ho, Hu, Ha, hb⟩ := hrel
    subst hvv huu
    have Hb := Lib.hid hb
    have hzb := hb.size
    clear hb
    by_cases hlt : k < M
    · have HS1 : Hid (nints ((List.range (k + 1)).map (Cir.nextOf d s)) = nints ((List.range k).map (Cir.nextOf d s)) ++ [.int .i64 (Cir.nextOf d s k : Nat)]) := Lib.hid (by rw [List.range_succ, List.map_append, List.map_cons, List.map_nil, nints_snoc])
      have HS2 : Hid (nints ((List.range (k + 1)).map fun x => Cir.num (Cir.outsOf d s x)) = nints ((List.range k).map fun x => Cir.num (Cir.outsOf d s x)) ++ [.int .i64 (Cir.num (Cir.outsOf d s k) : Nat)]) := Lib.hid (by rw [List.range_succ, List.map_append, List.map_cons, List.map_nil, nints_snoc])
      go_wp2_with fail
      refine (cycle_any g d s k _ (HP.out.below Hb.out) Hd.out hs (by omega)).mono ?_
      rintro e w5 ⟨rfl, hb5⟩
      have Hb5 := Lib.hid (Hb.out.trans (hb5.mono hzb))
      have Ho5 := Lib.hid (own_below Ho.out hb5)
      have Hu5 := Lib.hid (own_below Hu.out hb5)
      have hz5 := Nat.le_trans hzb hb5.size
      clear hb5 Ho Hu
      generalize Cir.nextOf d s k = N at *
      generalize Cir.num (Cir.outsOf d s k) = O at *
      have Hlit := Lib.hid (Row.of_own (World.ownsRow_lit (base := w5.heap.size) (e := 3) (size := 1) w5 #[.int .i64 N] 1 (Nat.le_refl _) (by unfold maxLen; omega) rfl))
      go_wp2_with (first
        | (at_builtin; refine append_ints rfl (.tmp 26) (.tmp 28) rfl w.heap.size _ k _ rfl (Ho5.out.alloc _) _ 1 [.int .i64 N] rfl Hlit.out (by simp [Value.oneCell']) (by omega) (by simp; omega) ?_; intro v7 w7 hown7 hg7 hat7; have Ho7 := Lib.hid hown7; have Hat7 := Lib.hid hat7; have Hu7 := Lib.hid (own_kept (Hu5.out.alloc (.cells #[.int .i64 N] 3)) hg7 (fun g h1 h2 => Ha.out g h2 h1)); have Ha7 := Lib.hid (apart_new Ha.out hat7 (fun g hg => by have := ((Hu5.out.alloc (.cells #[.int .i64 N] 3)).lt g hg).2; exact this)); have Hb7 := Lib.hid ((Hb5.out.alloc hz5 _).grown hg7 (Hb5.out.alloc hz5 _).size (own_ge0 Ho5.out)); have Hlit2 := Lib.hid (Row.of_own (World.ownsRow_lit (base := w7.heap.size) (e := 3) (size := 1) w7 #[.int .i64 O] 1 (Nat.le_refl _) (by unfold maxLen; omega) rfl)); have hz7 := (Hb7.out).size; clear hown7 hg7 hat7)
        | (at_builtin; refine append_ints rfl (.tmp 30) (.tmp 32) rfl w.heap.size _ k _ rfl (Hu7.out.alloc _) _ 1 [.int .i64 O] rfl Hlit2.out (by simp [Value.oneCell']) (by omega) (by simp; omega) ?_; intro v8 w8 hown8 hg8 hat8; have Ho8 := Lib.hid (own_kept (Ho7.out.alloc (.cells #[.int .i64 O] 3)) hg8 (fun g h1 h2 => Ha7.out g h1 h2)); have Hu8 := Lib.hid hown8; have Ha8 := Lib.hid ((apart_new (Apart.symm Ha7.out) hat8 (fun g hg => by have := ((Ho7.out.alloc (.cells #[.int .i64 O] 3)).lt g hg).2; exact this)).symm); have Hb8 := Lib.hid ((Hb7.out.alloc hz7 _).grown hg8 (Hb7.out.alloc hz7 _).size (own_ge0 Hu7.out)); clear hown8 hg8 hat8))
      go_roundw
      case rel => exact ⟨_, _, k + 1, rfl, rfl, by omega, by go_num, Lib.hid (by rw [HS1.out]; exact Ho8.out), Lib.hid (by rw [HS2.out]; exact Hu8.out), Ha8, Hb8.out⟩
      case measure => simp [intOf] <;> omega
    · obtain rfl : k = M := by omega
      have hl1 : (nats (Cir.rowN d s)).length = k := by rw [nats_length, Cir.rowN, List.length_map, List.length_range, HM.out]
      have hl2 : (nats (Cir.rowO d s)).length = k := by rw [nats_length, Cir.rowO, List.length_map, List.length_range, HM.out]
      have HF1 : Hid (wr.ownsRow w.heap.size 3 1 vv (nats (Cir.rowN d s)).length (ints (nats (Cir.rowN d s)))) := Lib.hid (by rw [hl1]; have := Ho.out; rw [HM.out] at this ⊢; exact this)
      have HF2 : Hid (wr.ownsRow w.heap.size 3 1 uu (nats (Cir.rowO d s)).length (ints (nats (Cir.rowO d s)))) := Lib.hid (by rw [hl2]; have := Hu.out; rw [HM.out] at this ⊢; exact this)
      clear hl1 hl2
      go_wp2_with fail
      exact bodyPost_ret (v := .tuple #[vv, uu]) (by simp [results, Try.results86, go_sem]) rfl ⟨_, _, rfl, HF1.out, HF2.out, Ha.out, Hb.out⟩
end Go.Proofs.Ytlbfejdbfhgifaa

namespace Go.Proofs.Ytlbfejdbfhgifaa
open Go.RowKit
set_option maxRecDepth 100000
theorem eqMachine_same (v v2 : Value) (m : Mz) (w : World) (h : MachAt w v m) (h2 : MachAt w v2 m) (hl : m.next.length + total m.next + m.out.length + total m.out ≤ 1048576) :
    Calls Try.prog 25 #[v, v2] w fun e w' => e = .returned (.bool true) ∧ Below w.heap.size w w' := by
  obtain ⟨vn, vo, rfl, r1, r2⟩ := h
  obtain ⟨un, uo, rfl, s1, s2⟩ := h2
  have P1 := Lib.hid ((MCells.boxed w m.ins vn vo 43).below (bel_alloc _ (.cells #[.int .i64 m.ins, un, uo] 43)))
  have P2 : Hid (MCells ((w.alloc (.cells #[.int .i64 m.ins, vn, vo] 43)).alloc (.cells #[.int .i64 m.ins, un, uo] 43)) (w.heap.size + 1) m.ins un uo) := Lib.hid (by have := MCells.boxed (w.alloc (.cells #[.int .i64 m.ins, vn, vo] 43)) m.ins un uo 43; simpa using this)
  have B0 : Hid (Below w.heap.size w ((w.alloc (.cells #[.int .i64 m.ins, vn, vo] 43)).alloc (.cells #[.int .i64 m.ins, un, uo] 43))) := Lib.hid (((Below.refl _ _).alloc (Nat.le_refl _) _).alloc (by simp) _)
  have R1 := Lib.hid r1
  have R2 := Lib.hid r2
  have S1 := Lib.hid s1
  have S2 := Lib.hid s2
  clear r1 r2 s1 s2
  have hn : ((m.ins : Int) != m.ins) = false := by simp
  have HL1 : Hid (∀ x ∈ m.next, x.length ≤ 1048576) := Lib.hid fun x hx => Nat.le_trans (total_mem hx) (by omega)
  have HL2 : Hid (∀ x ∈ m.out, x.length ≤ 1048576) := Lib.hid fun x hx => Nat.le_trans (total_mem hx) (by omega)
  go_enter Try.func25, Try.ntmps25
  go_wp2_with fail
  generalize ((w.alloc (.cells #[.int .i64 m.ins, vn, vo] 43)).alloc (.cells #[.int .i64 m.ins, un, uo] 43)) = W at *
  refine (eqIntSS_any vn un _ _ _ (R1.out.below B0.out) (S1.out.below B0.out) HL1.out).mono ?_
  rintro e w1 ⟨rfl, hb1⟩
  rw [show decide (m.next = m.next) = true from decide_eq_true rfl]
  have B1 := Lib.hid (B0.out.trans (hb1.mono B0.out.size))
  obtain ⟨z1, p10, p11, p12⟩ := P1.out.below hb1
  obtain ⟨z2, p20, p21, p22⟩ := P2.out.below hb1
  clear hb1
  go_wp2_with fail
  refine (eqIntSS_any vo uo _ _ _ (R2.out.below B1.out) (S2.out.below B1.out) HL2.out).mono ?_
  rintro e w2 ⟨rfl, hb2⟩
  rw [show decide (m.out = m.out) = true from decide_eq_true rfl]
  have B2 := Lib.hid (B1.out.trans (hb2.mono B1.out.size))
  clear hb2
  go_wp2_with fail
  go_ret
  exact ⟨rfl, B2.out⟩
/-- A machine of the call's own, in blocks from B up to T. -/
def OwnMachE (B T : Nat) (v : Value) (m : Mz) (w : World) : Prop :=
  ∃ vn vo E1 E2, v = .agg #[.int .i64 m.ins, vn, vo] ∧ (∀ g, E1 g → g < T) ∧ (∀ g, E2 g → g < T) ∧ (∀ g, E1 g → ¬ E2 g) ∧ OwnIntSE B E1 w vn m.next ∧ OwnIntSE B E2 w vo m.out
theorem OwnMachE.at {B T : Nat} {v : Value} {m : Mz} {w : World} (h : OwnMachE B T v m w) : MachAt w v m := by
  obtain ⟨vn, vo, E1, E2, hv, _, _, _, h1, h2⟩ := h
  exact ⟨vn, vo, hv, OwnSE.at h1, OwnSE.at h2⟩
theorem OwnMachE.only {X : Nat → Prop} {B T : Nat} {v : Value} {m : Mz} {w w' : World} (h : OwnMachE B T v m w) (ho : Only X w w') (hE : ∀ g, B ≤ g → g < T → ¬ X g) : OwnMachE B T v m w' := by
  obtain ⟨vn, vo, E1, E2, hv, e1, e2, e3, h1, h2⟩ := h
  exact ⟨vn, vo, E1, E2, hv, e1, e2, e3, OwnSE.only h1 ho (fun g hb he => hE g hb (e1 g he)), OwnSE.only h2 ho (fun g hb he => hE g hb (e2 g he))⟩
/-- A machine of which all cells of the rows hold numbers that go on from k. -/
def RunMach (B T : Nat) (i : Int) (v : Value) (ns os : List Nat) (k : Nat) (w : World) : Prop :=
  ∃ vn vo E1 E2, v = .agg #[.int .i64 i, vn, vo] ∧ (∀ g, E1 g → g < T) ∧ (∀ g, E2 g → g < T) ∧ OwnVS B E1 w vn (runs k ns) ∧ OwnVS B E2 w vo (runs (k + ns.sum) os)
theorem RunMach.only {X : Nat → Prop} {B T : Nat} {i : Int} {v : Value} {ns os : List Nat} {k : Nat} {w w' : World} (h : RunMach B T i v ns os k w) (ho : Only X w w') (hE : ∀ g, B ≤ g → g < T → ¬ X g) : RunMach B T i v ns os k w' := by
  obtain ⟨vn, vo, E1, E2, hv, e1, e2, h1, h2⟩ := h
  exact ⟨vn, vo, E1, E2, hv, e1, e2, OwnSE.only h1 ho (fun g hb he => hE g hb (e1 g he)), OwnSE.only h2 ho (fun g hb he => hE g hb (e2 g he))⟩
theorem total_map {α : Type} (xss : List (List α)) : total xss = (xss.map List.length).sum := rfl
set_option maxHeartbeats 4000000 in
theorem markMachine_any (B T : Nat) (v : Value) (m : Mz) (k : Nat) (w : World) (h : OwnMachE B T v m w) (hl : m.next.length + total m.next + m.out.length + total m.out ≤ 1048576) (hk : k ≤ 1000000) (hT : T ≤ w.heap.size) :
    Calls Try.prog 26 #[v, .int .i64 k] w fun e w' => e = .returned (.int .i64 ((k + total m.next + total m.out : Nat) : Int)) ∧ RunMach B T m.ins v (m.next.map List.length) (m.out.map List.length) k w' ∧ Only (fun g => B ≤ g ∧ g < T) w w' := by
  obtain ⟨vn, vo, E1, E2, rfl, e1, e2, e3, r1, r2⟩ := h
  have hb0 := bel_alloc w (.cells #[.int .i64 m.ins, vn, vo] 43)
  have R1 := Lib.hid (OwnIntSE.raw (OwnSE.below r1 hb0))
  have R2 := Lib.hid (OwnIntSE.raw (OwnSE.below r2 hb0))
  have P := Lib.hid (MCells.boxed w m.ins vn vo 43)
  have B0 := Lib.hid hb0
  have l1 : ((m.next.map ints).map List.length) = m.next.map List.length := by simp [ints_length, Function.comp_def]
  have l2 : ((m.out.map ints).map List.length) = m.out.map List.length := by simp [ints_length, Function.comp_def]
  have L1 := Lib.hid l1
  have L2 := Lib.hid l2
  have tN : (m.next.map List.length).sum = total m.next := rfl
  have tO : (m.out.map List.length).sum = total m.out := rfl
  have TN := Lib.hid tN
  have TO := Lib.hid tO
  have z0 : w.heap.size < (w.alloc (.cells #[.int .i64 m.ins, vn, vo] 43)).heap.size := by simp
  clear r1 r2 hb0 l1 l2 tN tO
  go_enter Try.func26, Try.ntmps26
  go_wp2_with fail
  generalize w.alloc (.cells #[.int .i64 m.ins, vn, vo] 43) = W at *
  refine (markIntSS_any B E1 vn k _ _ _ R1.out L1.out (by rw [List.length_map]; omega) (by rw [TN.out]; omega) (by omega)).mono ?_
  rintro e w1 ⟨rfl, ho1, hon1⟩
  rw [TN.out]
  have Ho1 := Lib.hid ho1
  have Hon1 := Lib.hid hon1
  have R2' := Lib.hid (OwnSE.only R2.out hon1 (fun g h1 h2 h3 => e3 g h3.2 h2))
  obtain ⟨z, p0, p1, p2⟩ := P.out
  have q2 := (World.cell?_of_block (a := ⟨w.heap.size, 2, none⟩) (hon1.block w.heap.size z (fun h => by have := e1 _ h.2; omega))).trans p2
  clear ho1 hon1 p0 p1 p2 R1 R2
  go_wp2_with fail
  refine (markIntSS_any B E2 vo (k + total m.next) _ _ _ R2'.out L2.out (by rw [List.length_map]; omega) (by rw [TO.out]; omega) (by omega)).mono ?_
  rintro e w2 ⟨rfl, ho2, hon2⟩
  rw [TO.out]
  have Ho12 := Lib.hid (OwnSE.only Ho1.out hon2 (fun g h1 h2 h3 => e3 g h2 h3.2))
  have Ho2 := Lib.hid ho2
  have Hon2 := Lib.hid hon2
  clear ho2 hon2 Ho1
  go_wp2_with fail
  go_ret
  refine ⟨rfl, ⟨_, _, E1, E2, rfl, e1, e2, Ho12.out, by rw [TN.out]; exact Ho2.out⟩, ?_⟩
  exact (Only.of_below _ B0.out).trans ((Hon1.out.mono fun g h => ⟨h.1, e1 g h.2⟩).trans (Hon2.out.mono fun g h => ⟨h.1, e2 g h.2⟩))
theorem heldMachine_any (B T : Nat) (i : Int) (v : Value) (ns os : List Nat) (k : Nat) (w : World) (h : RunMach B T i v ns os k w) (hl : ns.length + ns.sum + os.length + os.sum ≤ 1048576) (hk : k ≤ 1000000) :
    Calls Try.prog 27 #[v, .int .i64 k] w fun e w' => e = .returned (.int .i64 ((k + ns.sum + os.sum : Nat) : Int)) ∧ Below w.heap.size w w' := by
  obtain ⟨vn, vo, E1, E2, rfl, e1, e2, r1, r2⟩ := h
  have hb0 := bel_alloc w (.cells #[.int .i64 i, vn, vo] 43)
  have R1 := Lib.hid (OwnSE.at (OwnSE.below r1 hb0))
  have R2 := Lib.hid (OwnSE.at (OwnSE.below r2 hb0))
  have B0 := Lib.hid hb0
  have h1 : ¬ (((k + ns.sum : Nat) : Int) < 0) := by omega
  have h2 : ¬ (((k + ns.sum + os.sum : Nat) : Int) < 0) := by omega
  clear r1 r2 hb0
  go_enter Try.func27, Try.ntmps27
  go_wp2_with fail
  refine (heldIntSS_any vn k ns _ R1.out (by omega) (by omega) (by omega)).mono ?_
  rintro e w' ⟨rfl, rfl⟩
  go_wp2_with fail
  refine (heldIntSS_any vo (k + ns.sum) os _ R2.out (by omega) (by omega) (by omega)).mono ?_
  rintro e w' ⟨rfl, rfl⟩
  go_wp2_with fail
  go_ret
  exact ⟨rfl, B0.out⟩
end Go.Proofs.Ytlbfejdbfhgifaa

namespace Go.Proofs.Ytlbfejdbfhgifaa
open Go.RowKit
set_option maxRecDepth 100000
/-! MachineOf, by the program. -/
/-- A machine of the call's own, as a result. -/
def OwnMachR (m : Mz) (w : World) (e : Ending) (w' : World) : Prop := ∃ v, e = .returned v ∧ OwnMachE w.heap.size w'.heap.size v m w' ∧ Below w.heap.size w w'
theorem rowI_take {d : Ci} {s j n : Nat} (h : (Cir.rowN d s)[j]? = some n) : ints ((Cir.rowI d s).take (j + 1) ++ nats ((Cir.rowN d s).drop (j + 1))) = (ints ((Cir.rowI d s).take j ++ nats ((Cir.rowN d s).drop j))).set j (.int .i64 (idxOf (Cir.reach d) n)) := by
  obtain ⟨hj, hn⟩ := List.getElem?_eq_some_iff.1 h
  have e1 : (Cir.rowI d s)[j]? = some (idxOf (Cir.reach d) n) := by unfold Cir.rowI; rw [List.getElem?_map, h]; rfl
  have hl : ((Cir.rowI d s).take j).length = j := by
    have : (Cir.rowI d s).length = (Cir.rowN d s).length := by unfold Cir.rowI; simp
    rw [List.length_take]; omega
  have e2 : (Cir.rowN d s).drop j = n :: (Cir.rowN d s).drop (j + 1) := by rw [List.drop_eq_getElem_cons hj, hn]
  unfold ints
  rw [← List.map_set, take_snoc e1, e2]
  unfold nats
  rw [List.map_cons, List.set_append_right _ _ (by omega), hl, Nat.sub_self, List.set_cons_zero, List.append_assoc]
  rfl
set_option maxHeartbeats 16000000 in
theorem implMof_ok (v : Value) (d : Ci) (w : World) (h : CircAt w v (Cir.toCz d)) (hd : Cir.Ok d) (hv : Cir.valid (Cir.toCz d) = true) :
    Calls Try.prog 34 #[v] w (OwnMachR (Cir.machN d) w) := by
  have l1 := hd.ins
  have l2 := hd.nexts
  have HC := Lib.hid h
  obtain ⟨vn, vg, vo, rfl, r1, r2, r3⟩ := h
  have hins : (Cir.toCz d).ins = (d.ins : Int) := rfl
  have HP := Lib.hid (PCirc.boxed (c := Cir.toCz d) 31 r1 r2 r3)
  rw [hins] at HC HP ⊢
  have hb0 := bel_new w (.cells #[.int .i64 d.ins, vn, vg, vo] 31)
  have hb00 := bel_new (w.alloc (.cells #[.int .i64 d.ins, vn, vg, vo] 31)) (.cells #[.int .i64 0, .slice none 0 0, .slice none 0 0] 43)
  have B0 := Lib.hid (hb0.trans (hb00.mono hb0.size))
  have HP := Lib.hid (HP.out.below hb00)
  have PC := Lib.hid ((PCells.boxed w d.ins vn vg vo 31).below hb00)
  have hsz : ((w.alloc (.cells #[.int .i64 d.ins, vn, vg, vo] 31)).alloc (.cells #[.int .i64 0, .slice none 0 0, .slice none 0 0] 43)).heap.size = w.heap.size + 2 := by simp
  have hR : ((w.alloc (.cells #[.int .i64 d.ins, vn, vg, vo] 31)).alloc (.cells #[.int .i64 0, .slice none 0 0, .slice none 0 0] 43)).heap[w.heap.size + 1]? = some (.cells #[.int .i64 0, .slice none 0 0, .slice none 0 0] 43 (0, 0)) := by
    have := heap_alloc_new (w.alloc (.cells #[.int .i64 d.ins, vn, vg, vo] 31)) (.cells #[.int .i64 0, .slice none 0 0, .slice none 0 0] 43)
    rwa [World.size_alloc] at this
  have HRes := Lib.hid hR
  obtain ⟨z, p0, p1, p2, p3⟩ := PC.out
  have HC0 := Lib.hid (HC.out.below B0.out)
  have HV := Lib.hid (implValid_any _ _ _ HC0.out)
  rw [hv] at HV
  have Hv := Lib.hid hv
  have Hd := Lib.hid hd
  obtain ⟨M, e, hM⟩ : ∃ M : Nat, (2 : Int) ^ d.ins = (M : Int) ∧ M = 2 ^ d.ins := ⟨2 ^ d.ins, two_pow d.ins, rfl⟩
  have hM16 : M ≤ 16 := by rw [hM]; exact Nat.pow_le_pow_right (show 0 < 2 by decide) l1
  have hM1 : 1 ≤ M := by rw [hM]; exact Nat.pow_pos (by decide)
  have HM := Lib.hid hM
  have hL8 := (Cir.reach_sts d).len hd
  have HSt := Lib.hid (Cir.reach_sts d)
  clear r1 r2 r3 hd hins hM hv HC hb0 hb00 hR
  go_enter Try.func34, Try.ntmps34
  go_wp2_with fail
  generalize (w.alloc (.cells #[.int .i64 d.ins, vn, vg, vo] 31)).alloc (.cells #[.int .i64 0, .slice none 0 0, .slice none 0 0] 43) = W at *
  refine HV.out.mono ?_
  rintro e w1 ⟨rfl, hb1⟩
  have B1 := Lib.hid (B0.out.trans (hb1.mono B0.out.size))
  have HP1 := Lib.hid (HP.out.below hb1)
  have HC1 := Lib.hid (HC0.out.below hb1)
  have HRes1 := Lib.hid ((hb1.block _ (by omega)).trans HRes.out)
  have PC1 := Lib.hid (PC.out.below hb1)
  have z1 := hb1.size
  clear hb1 p0 p1 p2 p3 z HV HP HC0 HRes PC
  obtain ⟨z, p0, p1, p2, p3⟩ := PC1.out
  go_wp2_with fail
  refine (implReach_ok _ d _ HC1.out Hd.out Hv.out).mono ?_
  rintro e w2 ⟨vs, rfl, hO2, hb2⟩
  have B2 := Lib.hid (B1.out.trans (hb2.mono B1.out.size))
  have HP2 := Lib.hid (HP1.out.below hb2)
  have HRes2 := Lib.hid ((hb2.block _ (by omega)).trans HRes1.out)
  have PC2 := Lib.hid (PC1.out.below hb2)
  have z2 := hb2.size
  have HS2 := Lib.hid (own_nats (v := vs) (xs := Cir.reach d) (by rw [nats_length] at hO2; exact hO2))
  clear hb2 hO2 p0 p1 p2 p3 z HP1 HC1 HRes1 PC1
  obtain ⟨z, p0, p1, p2, p3⟩ := PC2.out
  obtain ⟨As, cs, rfl, hcs, hcsm⟩ := NatsAt.shape HS2.out
  unfold maxLen at hcsm
  have hb3 := bel_new w2 (.cells #[.int .i64 d.ins, .slice none 0 0, .slice none 0 0] 43)
  have HMB := Lib.hid (MB.start (ins := (d.ins : Int)) (w := w2) trivial)
  have HF0 : Hid (Below w2.heap.size w2 (w2.alloc (.cells #[.int .i64 d.ins, .slice none 0 0, .slice none 0 0] 43))) := Lib.hid hb3
  go_wp2_with fail
  clear hb3 p0 p1 p2 p3 z
  generalize w2.alloc (.cells #[.int .i64 d.ins, .slice none 0 0, .slice none 0 0] 43) = w3 at *
  go_loopw [22] (fun i wr => ∃ (k : Nat) (E1 E2 : Nat → Prop) (vN vO : Value), k ≤ (Cir.reach d).length ∧ i = .int .i64 k ∧ Hid (MB w2.heap.size d.ins E1 E2 vN vO ((Cir.machN d).next.take k) ((Cir.machN d).out.take k) wr) ∧ Below w2.heap.size w2 wr) (fun i _ => (Cir.reach d).length - (intOf i).toNat)
  case atStart => exact ⟨0, _, _, _, _, Nat.zero_le _, rfl, HMB, HF0.out⟩
  case round =>
    obtain ⟨k, E1, E2, vN, vO, hk, rfl, HMB, hb⟩ := hrel
    clear HF0
    have Hb := Lib.hid hb
    have hzb := hb.size
    have hgm := mb_lt HMB.out
    clear hb
    by_cases hlt : k < (Cir.reach d).length
    · obtain ⟨b, o, s, rfl, hbl, hx, hs0⟩ := nats_cell (nats_row HS2.out) rfl hlt
      have hs1 := (Hb.out.cell (p := ⟨b, o + k, none⟩) hbl).trans hs0
      have hs8 : s < 8 := by
        have h1 := HSt.out.lt s (List.mem_of_getElem? hx.out)
        have h2 : 2 ^ d.next.length ≤ 2 ^ 3 := Nat.pow_le_pow_right (show 0 < 2 by decide) l2
        omega
      have HX1 : Hid ((Cir.machN d).next.take (k + 1) = (Cir.machN d).next.take k ++ [Cir.rowI d s]) := Lib.hid (take_snoc (by unfold Cir.machN; simp only [List.getElem?_map, hx.out]; rfl))
      have HX2 : Hid ((Cir.machN d).out.take (k + 1) = (Cir.machN d).out.take k ++ [nats (Cir.rowO d s)]) := Lib.hid (take_snoc (by unfold Cir.machN; simp only [List.getElem?_map, hx.out]; rfl))
      have hN1 : (nats (Cir.rowN d s)).length = M := by rw [nats_length, Cir.rowN, List.length_map, List.length_range, HM.out]
      have hO1 : (nats (Cir.rowO d s)).length = M := by rw [nats_length, Cir.rowO, List.length_map, List.length_range, HM.out]
      have HN1 := Lib.hid hN1
      have HO1 := Lib.hid hO1
      clear hN1 hO1
      go_wp2_with fail
      refine (stateRows_any w.heap.size d s _ (HP2.out.below Hb.out) Hd.out (by omega)).mono ?_
      rintro e w4 ⟨va, vb, rfl, oa, ob, hab, hb4⟩
      rw [HN1.out] at oa
      rw [HO1.out] at ob
      have Hb4 := Lib.hid (Hb.out.trans (hb4.mono hzb))
      have HMB4 := Lib.hid (HMB.out.below hb4)
      have hz4 := Nat.le_trans hzb hb4.size
      have hgm4 := mb_lt HMB4.out
      have Oa := Lib.hid (own_mono oa (show w2.heap.size + 1 ≤ wr.heap.size by omega))
      have Ob := Lib.hid (own_mono ob (show w2.heap.size + 1 ≤ wr.heap.size by omega))
      have Hab := Lib.hid hab
      have Na1 : Hid (∀ g, va.ownBlock = some g → ¬ E1 g ∧ ¬ E2 g) := Lib.hid fun g hg => ⟨fun he => by have h1 := HMB.out.l1 g he; have h2 := (oa.lt g hg).1; omega, fun he => by have h1 := HMB.out.l2 g he; have h2 := (oa.lt g hg).1; omega⟩
      have Nb1 : Hid (∀ g, vb.ownBlock = some g → ¬ E1 g ∧ ¬ E2 g) := Lib.hid fun g hg => ⟨fun he => by have h1 := HMB.out.l1 g he; have h2 := (ob.lt g hg).1; omega, fun he => by have h1 := HMB.out.l2 g he; have h2 := (ob.lt g hg).1; omega⟩
      obtain ⟨ga, ca, hva, hga, hga2, hca, hcam⟩ := own_open Oa.out (by omega)
      obtain ⟨gb, cb, hvb, hgb, hgb2, hcb, hcbm⟩ := own_open Ob.out (by omega)
      subst hva hvb
      unfold maxLen at hcam hcbm
      have hcell4 := HMB4.out.cells
      clear hb4 oa ob hab hs1 hs0 hcell4
      go_wp2_with fail
      go_loopw [33] (fun i wr => ∃ j : Nat, j ≤ M ∧ i = .int .i64 j ∧ Hid (wr.ownsRow (w2.heap.size + 1) 3 1 (.slice (some ⟨ga, 0, none⟩) M ca) M (ints ((Cir.rowI d s).take j ++ nats ((Cir.rowN d s).drop j)))) ∧ Hid (w4.grownBy wr (some ga))) (fun i _ => M - (intOf i).toNat)
      case atStart => exact ⟨0, Nat.zero_le _, rfl, Lib.hid (by simpa using Oa.out), Lib.hid (World.grownBy.refl _ _)⟩
      case round =>
        obtain ⟨j, hj, rfl, Ho, Hg⟩ := hrel
        have Hbr := Lib.hid (Hb4.out.grown Hg.out hz4 (fun q hq => by have := Option.some.inj hq; omega))
        by_cases hlj : j < M
        · obtain ⟨n, hn⟩ := at_some (show j < (Cir.rowN d s).length by have := HN1.out; rw [nats_length] at this; omega)
          have hn8 : n ≤ 1000 := by
            unfold Cir.rowN at hn
            rw [List.getElem?_map] at hn
            obtain ⟨x, _, rfl⟩ := Option.map_eq_some_iff.1 hn
            have h1 := Cir.nextOf_lt d s x
            have h2 : 2 ^ d.next.length ≤ 2 ^ 3 := Nat.pow_le_pow_right (show 0 < 2 by decide) l2
            omega
          have hIl : (Cir.rowI d s).length = (Cir.rowN d s).length := by unfold Cir.rowI; simp
          have hjl := (List.getElem?_eq_some_iff.1 hn).1
          have hcj : (ints ((Cir.rowI d s).take j ++ nats ((Cir.rowN d s).drop j)))[j]? = some (.int .i64 (n : Int)) := by
            unfold ints
            rw [List.getElem?_map, List.getElem?_append_right (by rw [List.length_take]; omega), List.length_take, show j - min j (Cir.rowI d s).length = 0 from by omega]
            unfold nats
            rw [List.getElem?_map, List.getElem?_drop, Nat.add_zero, hn]
            rfl
          obtain ⟨u0, hu0, hd0, hf0⟩ := own_slot Ho.out (j := j) (by omega)
          rw [hcj] at hu0
          obtain rfl := Option.some.inj hu0
          have HS := Lib.hid (rowI_take (d := d) hn)
          have Hst := Lib.hid (Ho.out.stored j (.int .i64 (idxOf (Cir.reach d) n)))
          have HSr := Lib.hid (HS2.out.below Hbr.out)
          have hix := idxOf_lo (Cir.reach d) n
          clear hcj hu0 hIl hjl hn
          go_wp2_with fail
          refine (index_any _ (Cir.reach d) n _ HSr.out (by omega)).mono ?_
          rintro e w' ⟨rfl, rfl⟩
          go_wp2_with fail
          go_roundw
          case rel => exact ⟨j + 1, by omega, by go_num, Lib.hid (by rw [HS.out]; exact Hst.out.1), Lib.hid (grownBy_comp Hg.out Hst.out.2)⟩
          case measure => simp [intOf] <;> omega
        · obtain rfl : j = M := by omega
          have hRl : (Cir.rowI d s).length = j := by have := HN1.out; rw [nats_length] at this; unfold Cir.rowI; rw [List.length_map]; exact this
          have Oa5 : Hid (wr.ownsRow (w2.heap.size + 1) 3 1 (.slice (some ⟨ga, 0, none⟩) j ca) (Cir.rowI d s).length (ints (Cir.rowI d s))) := Lib.hid (by
            have := Ho.out
            rw [List.take_of_length_le (by omega), List.drop_eq_nil_of_le (by have := HN1.out; rw [nats_length] at this; omega)] at this
            rw [hRl]
            simpa [nats] using this)
          have Ob5 : Hid (wr.ownsRow (w2.heap.size + 1) 3 1 (.slice (some ⟨gb, 0, none⟩) j cb) (nats (Cir.rowO d s)).length (ints (nats (Cir.rowO d s)))) := Lib.hid (by rw [HO1.out]; exact own_kept Ob.out Hg.out (fun g h1 h2 => Hab.out g h2 h1))
          have HMB5 := Lib.hid (HMB4.out.grown Hg.out (fun e => by have := Option.some.inj e; omega) (fun g hg => (Na1.out g (by rw [← hg]; rfl)).1) (fun g hg => (Na1.out g (by rw [← hg]; rfl)).2))
          have Hk8 : k ≤ 8 := by omega
          have HMl := HMB5.out.below (bel_new wr (.cells #[.slice (some ⟨ga, 0, none⟩) j ca] 22))
          obtain ⟨us, q1, q2, q3, q4, q5, q6, q7⟩ := HMl.n
          have hl1 : ((Cir.machN d).next.take k).length = k := by rw [List.length_take]; unfold Cir.machN; rw [List.length_map]; omega
          have hl2 : ((Cir.machN d).out.take k).length = k := by rw [List.length_take]; unfold Cir.machN; rw [List.length_map]; omega
          rw [hl1] at q1 q2
          have Q2 := Lib.hid q2
          have HML := Lib.hid HMl
          have Q := Lib.hid (And.intro q1 (And.intro q3 (And.intro q4 (And.intro q5 (And.intro q6 q7)))))
          have Hl1 := Lib.hid hl1
          have Hl2 := Lib.hid hl2
          have Oal := Lib.hid (Oa5.out.alloc (.cells #[.slice (some ⟨ga, 0, none⟩) j ca] 22))
          have Obl := Lib.hid (Ob5.out.alloc (.cells #[.slice (some ⟨ga, 0, none⟩) j ca] 22))
          have Hlit := Lib.hid (Row.of_own (World.ownsRow_lit (base := wr.heap.size) (e := 22) (size := 1) wr #[.slice (some ⟨ga, 0, none⟩) j ca] 1 (Nat.le_refl _) (by unfold maxLen; omega) rfl))
          have hgm5 := mb_lt HMB5.out
          have hsl : (wr.alloc (.cells #[.slice (some ⟨ga, 0, none⟩) j ca] 22)).heap.size = wr.heap.size + 1 := by simp
          have Nb2 : Hid (∀ v7 : Value, (v7.ownBlock = vN.ownBlock ∨ v7.ownBlock = some (wr.alloc (.cells #[.slice (some ⟨ga, 0, none⟩) j ca] 22)).heap.size) → ∀ g, (Value.slice (some ⟨gb, 0, none⟩) j cb).ownBlock = some g → ¬ (E1 g ∨ (Value.slice (some ⟨ga, 0, none⟩) j ca).ownBlock = some g ∨ v7.ownBlock = some g)) := Lib.hid fun v7 hat g hg he => by
            have hgb : gb = g := by simpa [Value.ownBlock] using hg
            subst hgb
            rcases he with he | he | he
            · exact (Nb1.out gb rfl).1 he
            · exact Hab.out gb he rfl
            · rcases hat with h | h
              · exact (Nb1.out gb rfl).1 (q6 gb (by rw [← h]; exact he))
              · rw [h] at he
                have h2 := Option.some.inj he
                have h3 := (Ob5.out.lt gb rfl).2
                omega
          obtain ⟨k0, k1, k2, k3, k4⟩ := HMB5.out.cells
          clear hRl Ho HMl q1 q2 q3 q4 q5 q6 q7 hl1 hl2
          go_wp2_with (first
            | (at_builtin; refine append_intss rfl (.tmp 46) (.tmp 48) rfl (w2.heap.size + 1) vN k us rfl Q2.out _ 1 [.slice (some ⟨ga, 0, none⟩) j ca] rfl Hlit.out (by simp [Value.oneCell']) (by omega) (by first | omega | (simp <;> omega)) ?_; intro v7 w7 hown7 hg7 hat7; obtain ⟨A7, c7, hv7⟩ := slice_of_own hown7; subst hv7; have HMB7 := Lib.hid (MB.addN HML.out (Q.out.1.trans Hl1.out.symm) Q.out.2.1 Q.out.2.2.1 Q.out.2.2.2.1 Q.out.2.2.2.2.1 Q.out.2.2.2.2.2 Oal.out (fun g hg => (Na1.out g hg).1) (fun g hg => (Na1.out g hg).2) (by rw [Hl1.out]; exact hown7) hg7 hat7); have hbx := (hg7.block w2.heap.size (mb_lt HML.out) (fun e => by obtain ⟨_, _, p2, _⟩ := HML.out.n; have := (p2.lt _ e.symm).1; omega)).trans HML.out.box; have x1 := blk_cell hbx 1; have y1 := blk_free hbx 1; have x22 : w7.cell? ⟨w2.heap.size, 2, none⟩ = some vO := (blk_cell hbx 2); have y22 := blk_free hbx 2; obtain ⟨j0, j1, j2, j3, j4⟩ := HMB7.out.cells; have HMl8 := HMB7.out.below (bel_new _ (.cells #[.slice (some ⟨gb, 0, none⟩) j cb] 22)); obtain ⟨us2, t1, t2, t3, t4, t5, t6, t7⟩ := HMl8.o; rw [Hl2.out] at t1 t2; have T2 := Lib.hid t2; have HML8 := Lib.hid HMl8; have TQ := Lib.hid (And.intro t1 (And.intro t3 (And.intro t4 (And.intro t5 (And.intro t6 t7))))); have Ob8 := Lib.hid ((own_set (own_kept Obl.out hg7 (fun g h1 h2 => (Nb1.out g h1).1 (Q.out.2.2.2.2.1 g h2))) (show w2.heap.size < w2.heap.size + 1 by omega) (i := 1) (u := (Value.slice A7 (k + 1) c7))).alloc (.cells #[.slice (some ⟨gb, 0, none⟩) j cb] 22)); have Hlit2 := Lib.hid (Row.of_own (World.ownsRow_lit (base := (w7.setCell ⟨w2.heap.size, 1, none⟩ (Value.slice A7 (k + 1) c7)).heap.size) (e := 22) (size := 1) (w7.setCell ⟨w2.heap.size, 1, none⟩ (Value.slice A7 (k + 1) c7)) #[.slice (some ⟨gb, 0, none⟩) j cb] 1 (Nat.le_refl _) (by unfold maxLen; omega) rfl)); have Hg7 := Lib.hid hg7; have Hat7 := Lib.hid hat7; have hz7 := hg7.size; have hz8 : (w7.setCell ⟨w2.heap.size, 1, none⟩ (Value.slice A7 (k + 1) c7)).heap.size = w7.heap.size := (by simp [World.setCell]); have Hlit2 := Lib.hid (by have hh := Hlit2.out; rw [hz8] at hh; exact hh); clear hown7 hg7 hat7 hbx HMl8 t1 t2 t3 t4 t5 t6 t7 k0 k1 k2 k3 k4)
            | (at_builtin; refine append_intss rfl (.tmp 52) (.tmp 54) rfl (w2.heap.size + 1) vO k us2 rfl T2.out _ 1 [.slice (some ⟨gb, 0, none⟩) j cb] rfl Hlit2.out (by simp [Value.oneCell']) (by omega) (by first | omega | (simp <;> omega)) ?_; intro v9 w9 hown9 hg9 hat9; obtain ⟨A9, c9, hv9⟩ := slice_of_own hown9; subst hv9; have HMB9 := Lib.hid (MB.addO HML8.out (TQ.out.1.trans Hl2.out.symm) TQ.out.2.1 TQ.out.2.2.1 TQ.out.2.2.2.1 TQ.out.2.2.2.2.1 TQ.out.2.2.2.2.2 Ob8.out (Nb2.out _ Hat7.out) (fun g hg => (Nb1.out g hg).2) (by rw [Hl2.out]; exact hown9) hg9 hat9); have hbx := (hg9.block w2.heap.size (mb_lt HML8.out) (fun e => by obtain ⟨_, _, p2, _⟩ := HML8.out.o; have := (p2.lt _ e.symm).1; omega)).trans HML8.out.box; have x2 := blk_cell hbx 2; have y2 := blk_free hbx 2; have Hg9 := Lib.hid hg9; clear hown9 hg9 hat9 hbx j0 j1 j2 j3 j4 x1 y1))
          go_roundw
          case rel => exact ⟨k + 1, _, _, _, _, by omega, by go_num, Lib.hid (by rw [HX1.out, HX2.out]; exact HMB9.out), by
            have b1 := (Hbr.out.alloc Hbr.out.size (.cells #[.slice (some ⟨ga, 0, none⟩) j ca] 22)).grown Hg7.out (by simp; omega) (fun q hq => by have := (Q2.out.lt q hq).1; omega)
            have b2 := (b1.setCell (p := ⟨w2.heap.size, 1, none⟩) (Nat.le_refl _) (Value.slice A7 (k + 1) c7)).alloc (by omega) (.cells #[.slice (some ⟨gb, 0, none⟩) j cb] 22)
            exact (b2.grown Hg9.out (by simp; omega) (fun q hq => by have := (T2.out.lt q hq).1; omega)).setCell (p := ⟨w2.heap.size, 2, none⟩) (Nat.le_refl _) (Value.slice A9 (k + 1) c9)⟩
          case measure => simp [intOf] <;> omega
    · obtain rfl : k = (Cir.reach d).length := by omega
      have HMf : Hid (MB w2.heap.size d.ins E1 E2 vN vO (Cir.machN d).next (Cir.machN d).out wr) := Lib.hid (by
        have := HMB.out
        rwa [List.take_of_length_le (by unfold Cir.machN; simp), List.take_of_length_le (by unfold Cir.machN; simp)] at this)
      obtain ⟨k0, k1, k2, k3, k4⟩ := HMf.out.cells
      have hR := (Hb.out.block (w.heap.size + 1) (by omega)).trans HRes2.out
      have o0 := blk_cell hR 0
      have o1 := blk_cell hR 1
      have o2 := blk_cell hR 2
      have b0 := blk_free hR 0
      have b1 := blk_free hR 1
      have b2 := blk_free hR 2
      simp at o0 o1 o2
      have HB := Lib.hid (B2.out.trans (Hb.out.mono B2.out.size))
      have hlN := HMf.out.l1
      have hlO := HMf.out.l2
      obtain ⟨An, cn, hvN, -, -⟩ := SSAt.shape (OwnSE.at HMf.out.n)
      obtain ⟨Ao, co, hvO, -, -⟩ := SSAt.shape (OwnSE.at HMf.out.o)
      have HMF2 := Lib.hid (And.intro HMf.out.n (And.intro HMf.out.o HMf.out.d))
      have HlN := Lib.hid hlN
      have HlO := Lib.hid hlO
      clear hR HMf HMB hlN hlO
      subst hvN hvO
      go_wp2_with fail
      refine bodyPost_ret (v := .agg #[.int .i64 d.ins, .slice An (Cir.machN d).next.length cn, .slice Ao (Cir.machN d).out.length co]) (by simp [results, Try.results34, go_sem, o0, o1, o2]) rfl ⟨_, rfl, ⟨_, _, E1, E2, rfl, fun g he => ?_, fun g he => ?_, HMF2.out.2.2, ?_, ?_⟩, ?_⟩
      · have h1 := HlN.out g he; simp [World.setCell]; omega
      · have h1 := HlO.out g he; simp [World.setCell]; omega
      · exact OwnSE.mono (((OwnSE.set (OwnSE.set (OwnSE.set HMF2.out.1 (by omega)) (by omega)) (by omega)))) (by omega) (fun _ h => h)
      · exact OwnSE.mono (((OwnSE.set (OwnSE.set (OwnSE.set HMF2.out.2.1 (by omega)) (by omega)) (by omega)))) (by omega) (fun _ h => h)
      · exact ((HB.out.setCell (by simp only; omega) _).setCell (by simp only; omega) _).setCell (by simp only; omega) _
end Go.Proofs.Ytlbfejdbfhgifaa

namespace Go.Proofs.Ytlbfejdbfhgifaa
open Go.RowKit
/-! An append in a drawn region, with the place of the new row. -/
def JApp2 (T B : Nat) (e : TypeId) (size : Nat) (v : Value) (n : Nat) (cs news : List Value) : Option Value → World → Prop
  | none, w => w.ownsRow B e size v n cs
  | some v', w => w.ownsRow B e size v' (n + 1) (cs ++ news) ∧ ∀ g, v'.ownBlock = some g → v.ownBlock = some g ∨ T ≤ g
@[reducible] def appRS2 (Pg : Program) (ops : Array Oper) (w : World) (a : Act) (B : Nat) (e : TypeId) (size : Nat) (v : Value) (n : Nat) (cs news : List Value) (d : Nat) : RS :=
  { P := Pg, ops := ops, E := fun g => v.ownBlock = some g, F := fun _ => False, rd := none, w0 := w, J := JApp2 w.heap.size B e size v n cs news, d := d, a0 := a }
theorem appRS2_ok {Pg : Program} {ops : Array Oper} {w : World} {a : Act} {B : Nat} {e : TypeId} {size : Nat} {v : Value} {n : Nat} {cs news : List Value} {d : Nat} (hown : w.ownsRow B e size v n cs) : (appRS2 Pg ops w a B e size v n cs news d).Ok :=
  ⟨fun _ h => h.elim, fun ov w1 w2 hj ho => by
    cases ov with
    | none => exact own_below hj (only_below ho)
    | some v' => exact ⟨own_below hj.1 (only_below ho), hj.2⟩,
    fun _ _ e => (by cases e), fun g hg => (hown.lt g hg).2⟩
section
variable {S : RS} {Fin : List Ty → Prop} {o : Oper} {l : List Oper} {i : Nat} {τs : List Ty}
theorem rs_append2 (hd : i = S.d) (B : Nat) (e t : TypeId) (size : Nat) (v : Value) (n : Nat) (cs news : List Value) (hJ : S.J = JApp2 S.w0.heap.size B e size v n cs news) (hrd : S.rd = none) (hE : ∀ g, v.ownBlock = some g → S.E g) (hB : B ≤ S.w0.heap.size)
    (x y : Nat) (ho : o.op = .call { callee := .builtin .append, args := #[.tmp x, .tmp y], argTypes := #[t, t] }) (jx jy : Nat) (hx : writer S.ops i x = some jx) (hy : writer S.ops i y = some jy) (hTx : tys τs jx = TEq v) (hTy : tys τs jy = TNew S.E size 1 news)
    (inf : TypeInfo) (z : Value) (bytes : Nat) (ht : S.P.underlying t = some (.slice e)) (hi : S.P.info? e = some inf) (hz : inf.zero = some z) (hsize : inf.size = size) (hby : inf.bytes = bytes) (hzs : z.cells.size = size) (hsz : 0 < size) (h63 : n ≤ 1000000) (hbb : bytes ≤ 1000) (hone : ∀ u ∈ news, u.oneCell' = true)
    (rest : RSeq S Fin l (i + 1) (TAny :: τs)) : RSeq S Fin (o :: l) i τs := by
  intro _
  refine ⟨TAny, stb_any _, fun k ov ρ w hk hI hov hK => ?_, rest⟩
  obtain rfl := hov (by rw [hd]; exact ancB_self _ _ _)
  rw [ho] at hK
  have h1 := hK.1
  have h2 := hK.2.1
  rw [hx] at h1
  rw [hy] at h2
  simp only [hTx] at h1
  simp only [hTy] at h2
  have h1' : ρ (.tmp x) = v := h1
  have h2' : Row w size (ρ (.tmp y)) 1 news := h2.1
  have hown : w.ownsRow B e size v n cs := by have := hI.2.2; rw [hJ] at this; exact this
  obtain ⟨v', w', hrun, hown', hgr, hat⟩ := run_append_row_at (P := S.P) w B t o.type e inf z size bytes ht hi hz hsize hby hzs hsz v n cs hown _ 1 news h2' hone (by unfold maxLen; omega) (Nat.le_trans (Nat.mul_le_mul (show n + 1 ≤ 1000001 by omega) hbb) (by decide)) (Nat.le_trans hB hI.2.1.size)
  have hre : (execOp ρ o).run S.P w = .ok (.value v') w' := by
    unfold execOp
    simp only [ho, resolve, invoke, builtin, Sem.run_bind, Sem.run_pure, Result.andThen_ok, List.map_toArray, List.map_cons, List.map_nil, h1', hrun]
  unfold Good
  rw [hre]
  have hon : Only S.E w w' := Only.grown hgr hE
  refine ⟨trivial, ⟨?_, hI.2.1.trans hon, ?_⟩, hon⟩
  · rw [hrd]; trivial
  · rw [if_pos hd, hJ]
    refine ⟨hown', fun g hg => ?_⟩
    rcases hat with h | h
    · exact .inl (h.symm.trans hg)
    · have := Option.some.inj (h.symm.trans hg)
      have h5 := hI.2.1.size
      exact .inr (by omega)
end
theorem apart_loc {T : Nat} {v v' u : Value} (h : Apart v u) (hl : ∀ g, v'.ownBlock = some g → v.ownBlock = some g ∨ T ≤ g) (hu : ∀ g, u.ownBlock = some g → g < T) : Apart v' u := fun g h1 h2 => by
  rcases hl g h1 with h3 | h3
  · exact h g h3 h2
  · have := hu g h2; omega
end Go.Proofs.Ytlbfejdbfhgifaa
