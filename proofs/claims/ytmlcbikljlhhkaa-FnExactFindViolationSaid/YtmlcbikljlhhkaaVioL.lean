import Derived.Test.YtmlcbikljlhhkaaBoolMark
import Derived.Test.YtmlcbikljlhhkaaVioI
import Derived.Test.YtmlcbikljlhhkaaHasC
namespace Go.Proofs.Ytmlcbikljlhhkaa
open Go.RowKit
set_option maxRecDepth 100000
/-! What laws do with violations. -/
theorem eqViol_same (b : Bool) (v v2 : Value) (xss : List (List Bool)) (w : World) (h : SSAt bools w v xss) (h2 : SSAt bools w v2 xss) (hlen : ∀ x ∈ xss, x.length ≤ 1048576) :
    Calls Try.prog 45 #[.agg #[.bool b, v], .agg #[.bool b, v2]] w fun e w' => e = .returned (.bool true) ∧ Below w.heap.size w w' := by
  obtain ⟨A, c, rfl, -⟩ := id h.shape
  obtain ⟨A2, c2, rfl, -⟩ := id h2.shape
  have hb0 := bel_new w (.cells #[.bool b, .slice A xss.length c] 55)
  have hb1 := bel_new (w.alloc (.cells #[.bool b, .slice A xss.length c] 55)) (.cells #[.bool b, .slice A2 xss.length c2] 55)
  have B0 := Lib.hid (hb0.trans (hb1.mono hb0.size))
  have H1 := Lib.hid (h.below B0.out)
  have H2 := Lib.hid (h2.below B0.out)
  have hne : (b != b) = false := by simp
  have Hl := Lib.hid hlen
  clear h h2 hb0 hb1 hlen
  go_enter Try.func45, Try.ntmps45
  go_wp2_with fail
  refine (eqBoolSS_any _ _ xss xss _ H1.out H2.out Hl.out).mono ?_
  rintro e w' ⟨rfl, hb⟩
  rw [show decide (xss = xss) = true from decide_eq_true rfl]
  have B1 := Lib.hid (B0.out.trans (hb.mono B0.out.size))
  clear hb
  go_wp2_with fail
  go_ret
  exact ⟨rfl, B1.out⟩
theorem OwnSE.has {α : Type} (enc : List α → List Value) (to ti : TypeId) (B T : Nat) (v : Value) (xss : List (List α)) : Lives B T (fun w => OwnSE enc to ti B (fun g => B ≤ g ∧ g < T) w v xss) := fun E w w' h _ ho hE => h.only ho fun g h1 h2 => hE g h1 h2.2
theorem markViol_any (B T : Nat) (b : Bool) (v : Value) (k : Nat) (rows : List (List Value)) (ns : List Nat) (w : World) (h : OwnVB B (fun g => B ≤ g ∧ g < T) w v rows) (hT : T ≤ w.heap.size) (hns : rows.map List.length = ns) (hl : ns.length ≤ 1048576) (hn : ns.sum ≤ 1048576) (hk : k ≤ 10000000) :
    Calls Try.prog 46 #[.agg #[.bool b, v], .int .i64 k] w fun e w' => e = .returned (.int .i64 ((k + ns.sum : Nat) : Int)) ∧ OwnVB B (fun g => B ≤ g ∧ g < T) w' v (runsB k ns) ∧ Only (fun g => B ≤ g ∧ g < T) w w' := by
  obtain ⟨A, c, hv, -⟩ := (OwnSE.at h).shape
  subst hv
  have hb0 := bel_new w (.cells #[.bool b, .slice A rows.length c] 55)
  have B0 := Lib.hid hb0
  have H := Lib.hid (OwnSE.below h hb0)
  have Hns := Lib.hid hns
  clear h hb0 hns
  generalize rows.length = rl at *
  go_enter Try.func46, Try.ntmps46
  go_wp2_with fail
  refine (markBoolSS_any B _ _ k rows ns _ H.out Hns.out hl hn hk).mono ?_
  rintro e w1 ⟨rfl, h1, ho⟩
  have H1 := Lib.hid h1
  have Ho := Lib.hid ((Only.of_below (fun g => B ≤ g ∧ g < T) B0.out).trans (ho.mono fun g hg => hg.2))
  clear h1 ho
  go_wp2_with fail
  go_ret
  exact ⟨rfl, H1.out, Ho.out⟩
theorem heldViol_any (b : Bool) (v : Value) (k : Nat) (ns : List Nat) (w : World) (h : SSAt id w v (runsB k ns)) (hl : ns.length ≤ 1048576) (hn : ns.sum ≤ 1048576) (hk : k ≤ 10000000) :
    Calls Try.prog 47 #[.agg #[.bool b, v], .int .i64 k] w fun e w' => e = .returned (.int .i64 ((k + ns.sum : Nat) : Int)) ∧ Below w.heap.size w w' := by
  obtain ⟨A, c, hv, -⟩ := h.shape
  subst hv
  have hb0 := bel_new w (.cells #[.bool b, .slice A (runsB k ns).length c] 55)
  have B0 := Lib.hid hb0
  have H := Lib.hid (h.below hb0)
  have hpos : ¬ (((k + ns.sum : Nat) : Int) < 0) := by omega
  clear h hb0
  generalize (runsB k ns).length = rl at *
  go_enter Try.func47, Try.ntmps47
  go_wp2_with fail
  refine (heldBoolSS_any _ k ns _ H.out hl hn hk).mono ?_
  rintro e w' ⟨rfl, rfl⟩
  go_wp2_with fail
  go_ret
  exact ⟨rfl, B0.out⟩
/-! Where things of a law lie. -/
theorem has_block {w : World} {g : Nat} {o : Obj} (h : w.heap[g]? = some o) : Has g (g + 1) (fun w' => w'.heap[g]? = some o) w := by
  refine ⟨h, by have := heap_lt h; omega, fun E w1 w2 h1 ht ho hE => ?_⟩
  exact (ho.block g (by omega) (hE g (Nat.le_refl _) (by omega))).trans h1
theorem has_se {α : Type} {enc : List α → List Value} {to ti : TypeId} {B : Nat} {w : World} {v : Value} {xss : List (List α)} (h : OwnSS enc to ti B w.heap.size w v xss) : Has B w.heap.size (fun w' => OwnSE enc to ti B (fun g => B ≤ g ∧ g < w.heap.size) w' v xss) w :=
  ⟨h.se, Nat.le_refl _, OwnSE.has enc to ti B _ v xss⟩
theorem has_vb {B T : Nat} {w : World} {v : Value} {rows : List (List Value)} (h : OwnVB B (fun g => B ≤ g ∧ g < T) w v rows) (ht : T ≤ w.heap.size) : Has B T (fun w' => OwnVB B (fun g => B ≤ g ∧ g < T) w' v rows) w :=
  ⟨h, ht, OwnSE.has id _ _ B T v rows⟩
namespace Cir
theorem vfind_lt {c : Ci} {o s M x : Nat} (h : vfind c o s M = some x) : x < M := List.mem_range.1 (List.mem_of_find?_eq_some h)
theorem vbfs_le {c : Ci} (hc : Ok c) (o : Nat) : ∀ (f k : Nat) (l : List (Nat × List Nat)), Vs c l → ∀ p, vbfs c o f k l = some p → p.length ≤ 9 ∧ ∀ x ∈ p, x < 2 ^ c.ins
  | 0, _, _, _, p, h => by cases h
  | f + 1, k, l, hl, p, h => by
    rw [vbfs] at h
    cases hk : l[k]? with
    | none => rw [hk] at h; cases h
    | some sp =>
      obtain ⟨s, q⟩ := sp
      rw [hk] at h
      simp only at h
      cases hf : vfind c o s (2 ^ c.ins) with
      | none =>
        rw [hf] at h
        exact vbfs_le hc o f (k + 1) _ (hl.pushes hk _ (Nat.le_refl _)) p h
      | some x =>
        rw [hf] at h
        obtain rfl := Option.some.inj h
        have h1 := hl.len k s q hk
        have h2 := (List.getElem?_eq_some_iff.1 hk).1
        have h3 := hl.size hc
        refine ⟨by rw [List.length_append, List.length_singleton]; omega, fun y hy => ?_⟩
        rcases List.mem_append.1 hy with hy | hy
        · exact hl.inp k s q hk y hy
        · obtain rfl := List.mem_singleton.1 hy
          exact vfind_lt hf
theorem viol_le {c : Ci} (hc : Ok c) {o : Nat} {p : List Nat} (h : viol c o = some p) : p.length ≤ 9 ∧ ∀ x ∈ p, x < 2 ^ c.ins := vbfs_le hc o 9 0 _ (Vs.zero c) p h
end Cir
theorem sum_map_le {α : Type} (f : α → Nat) (b : Nat) : ∀ l : List α, (∀ x ∈ l, f x ≤ b) → (l.map f).sum ≤ b * l.length
  | [], _ => by simp
  | x :: l, h => by
    have h1 := sum_map_le f b l fun y hy => h y (List.mem_cons_of_mem _ hy)
    have h2 := h x (by simp)
    rw [List.map_cons, List.sum_cons, List.length_cons, Nat.mul_succ]
    omega
theorem viol_len (c : Cz) (o : Int) : (vrows (Cir.nat c).ins (Cir.violI c o)).length ≤ 1048576 ∧ ((vrows (Cir.nat c).ins (Cir.violI c o)).map List.length).sum ≤ 1048576 ∧ ∀ x ∈ vrows (Cir.nat c).ins (Cir.violI c o), x.length ≤ 1048576 := by
  have key : (vrows (Cir.nat c).ins (Cir.violI c o)).length ≤ 9 ∧ ∀ x ∈ vrows (Cir.nat c).ins (Cir.violI c o), x.length ≤ 4 := by
    unfold Cir.violI
    split
    · rename_i hc
      have hd := (Cir.nat_ok hc.1).2
      cases hp : Cir.viol (Cir.nat c) o.toNat with
      | none => simp [vrows]
      | some p =>
        have h1 := Cir.viol_le hd hp
        refine ⟨by rw [vrows, rowsOf_length]; exact h1.1, fun x hx => ?_⟩
        unfold vrows rowsOf at hx
        obtain ⟨y, _, rfl⟩ := List.mem_map.1 hx
        rw [Cir.bits_length]
        exact hd.ins
    · simp [vrows]
  have h2 := sum_map_le List.length 4 _ key.2
  refine ⟨by omega, by omega, fun x hx => by have := key.2 x hx; omega⟩
end Go.Proofs.Ytmlcbikljlhhkaa
