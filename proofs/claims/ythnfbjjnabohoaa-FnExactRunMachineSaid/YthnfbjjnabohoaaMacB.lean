import Derived.Test.YthnfbjjnabohoaaMacR
namespace Go.Proofs.Ythnfbjjnabohoaa
open Go.RowKit
set_option maxRecDepth 100000
theorem eqMachine_same (v v2 : Value) (m : Mz) (w : World) (h : MachAt w v m) (h2 : MachAt w v2 m) (hl : m.next.length + total m.next + m.out.length + total m.out ≤ 1048576) :
    Calls Try.prog 15 #[v, v2] w fun e w' => e = .returned (.bool true) ∧ Below w.heap.size w w' := by
  obtain ⟨vn, vo, rfl, r1, r2⟩ := h
  obtain ⟨un, uo, rfl, s1, s2⟩ := h2
  have P1 := Lib.hid ((MCells.boxed w m.ins vn vo 27).below (bel_alloc _ (.cells #[.int .i64 m.ins, un, uo] 27)))
  have P2 : Hid (MCells ((w.alloc (.cells #[.int .i64 m.ins, vn, vo] 27)).alloc (.cells #[.int .i64 m.ins, un, uo] 27)) (w.heap.size + 1) m.ins un uo) := Lib.hid (by have := MCells.boxed (w.alloc (.cells #[.int .i64 m.ins, vn, vo] 27)) m.ins un uo 27; simpa using this)
  have B0 : Hid (Below w.heap.size w ((w.alloc (.cells #[.int .i64 m.ins, vn, vo] 27)).alloc (.cells #[.int .i64 m.ins, un, uo] 27))) := Lib.hid (((Below.refl _ _).alloc (Nat.le_refl _) _).alloc (by simp) _)
  have R1 := Lib.hid r1
  have R2 := Lib.hid r2
  have S1 := Lib.hid s1
  have S2 := Lib.hid s2
  clear r1 r2 s1 s2
  have hn : ((m.ins : Int) != m.ins) = false := by simp
  have HL1 : Hid (∀ x ∈ m.next, x.length ≤ 1048576) := Lib.hid fun x hx => Nat.le_trans (total_mem hx) (by omega)
  have HL2 : Hid (∀ x ∈ m.out, x.length ≤ 1048576) := Lib.hid fun x hx => Nat.le_trans (total_mem hx) (by omega)
  go_enter Try.func15, Try.ntmps15
  go_wp2_with fail
  generalize ((w.alloc (.cells #[.int .i64 m.ins, vn, vo] 27)).alloc (.cells #[.int .i64 m.ins, un, uo] 27)) = W at *
  refine (eqIntSS_any vn un _ _ _ (R1.out.below B0.out) (S1.out.below B0.out) HL1.out).mono ?_
  rintro e w1 ⟨rfl, hb1⟩
  rw [show decide (m.next = m.next) = true from decide_eq_true rfl]
  have B1 := Lib.hid (B0.out.trans (hb1.mono B0.out.size))
  obtain ⟨z1, p10, p11, p12⟩ := P1.out.below hb1
  obtain ⟨z2, p20, p21, p22⟩ := P2.out.below hb1
  clear hb1
  go_wp2_with fail
  refine (eqIntSS_any vo uo _ _ _ (R2.out.below B1.out) (S2.out.below B1.out) HL2.out).mono ?_
  rintro e w2 ⟨rfl, hb2⟩
  rw [show decide (m.out = m.out) = true from decide_eq_true rfl]
  have B2 := Lib.hid (B1.out.trans (hb2.mono B1.out.size))
  clear hb2
  go_wp2_with fail
  go_ret
  exact ⟨rfl, B2.out⟩
/-- A machine of the call's own, in blocks from B up to T. -/
def OwnMachE (B T : Nat) (v : Value) (m : Mz) (w : World) : Prop :=
  ∃ vn vo E1 E2, v = .agg #[.int .i64 m.ins, vn, vo] ∧ (∀ g, E1 g → g < T) ∧ (∀ g, E2 g → g < T) ∧ (∀ g, E1 g → ¬ E2 g) ∧ OwnIntSE B E1 w vn m.next ∧ OwnIntSE B E2 w vo m.out
theorem OwnMachE.at {B T : Nat} {v : Value} {m : Mz} {w : World} (h : OwnMachE B T v m w) : MachAt w v m := by
  obtain ⟨vn, vo, E1, E2, hv, _, _, _, h1, h2⟩ := h
  exact ⟨vn, vo, hv, OwnSE.at h1, OwnSE.at h2⟩
theorem OwnMachE.only {X : Nat → Prop} {B T : Nat} {v : Value} {m : Mz} {w w' : World} (h : OwnMachE B T v m w) (ho : Only X w w') (hE : ∀ g, B ≤ g → g < T → ¬ X g) : OwnMachE B T v m w' := by
  obtain ⟨vn, vo, E1, E2, hv, e1, e2, e3, h1, h2⟩ := h
  exact ⟨vn, vo, E1, E2, hv, e1, e2, e3, OwnSE.only h1 ho (fun g hb he => hE g hb (e1 g he)), OwnSE.only h2 ho (fun g hb he => hE g hb (e2 g he))⟩
/-- A machine of which all cells of the rows hold numbers that go on from k. -/
def RunMach (B T : Nat) (i : Int) (v : Value) (ns os : List Nat) (k : Nat) (w : World) : Prop :=
  ∃ vn vo E1 E2, v = .agg #[.int .i64 i, vn, vo] ∧ (∀ g, E1 g → g < T) ∧ (∀ g, E2 g → g < T) ∧ OwnVS B E1 w vn (runs k ns) ∧ OwnVS B E2 w vo (runs (k + ns.sum) os)
theorem RunMach.only {X : Nat → Prop} {B T : Nat} {i : Int} {v : Value} {ns os : List Nat} {k : Nat} {w w' : World} (h : RunMach B T i v ns os k w) (ho : Only X w w') (hE : ∀ g, B ≤ g → g < T → ¬ X g) : RunMach B T i v ns os k w' := by
  obtain ⟨vn, vo, E1, E2, hv, e1, e2, h1, h2⟩ := h
  exact ⟨vn, vo, E1, E2, hv, e1, e2, OwnSE.only h1 ho (fun g hb he => hE g hb (e1 g he)), OwnSE.only h2 ho (fun g hb he => hE g hb (e2 g he))⟩
theorem total_map {α : Type} (xss : List (List α)) : total xss = (xss.map List.length).sum := rfl
set_option maxHeartbeats 4000000 in
theorem markMachine_any (B T : Nat) (v : Value) (m : Mz) (k : Nat) (w : World) (h : OwnMachE B T v m w) (hl : m.next.length + total m.next + m.out.length + total m.out ≤ 1048576) (hk : k ≤ 1000000) (hT : T ≤ w.heap.size) :
    Calls Try.prog 20 #[v, .int .i64 k] w fun e w' => e = .returned (.int .i64 ((k + total m.next + total m.out : Nat) : Int)) ∧ RunMach B T m.ins v (m.next.map List.length) (m.out.map List.length) k w' ∧ Only (fun g => B ≤ g ∧ g < T) w w' := by
  obtain ⟨vn, vo, E1, E2, rfl, e1, e2, e3, r1, r2⟩ := h
  have hb0 := bel_alloc w (.cells #[.int .i64 m.ins, vn, vo] 27)
  have R1 := Lib.hid (OwnIntSE.raw (OwnSE.below r1 hb0))
  have R2 := Lib.hid (OwnIntSE.raw (OwnSE.below r2 hb0))
  have P := Lib.hid (MCells.boxed w m.ins vn vo 27)
  have B0 := Lib.hid hb0
  have l1 : ((m.next.map ints).map List.length) = m.next.map List.length := by simp [ints_length, Function.comp_def]
  have l2 : ((m.out.map ints).map List.length) = m.out.map List.length := by simp [ints_length, Function.comp_def]
  have L1 := Lib.hid l1
  have L2 := Lib.hid l2
  have tN : (m.next.map List.length).sum = total m.next := rfl
  have tO : (m.out.map List.length).sum = total m.out := rfl
  have TN := Lib.hid tN
  have TO := Lib.hid tO
  have z0 : w.heap.size < (w.alloc (.cells #[.int .i64 m.ins, vn, vo] 27)).heap.size := by simp
  clear r1 r2 hb0 l1 l2 tN tO
  go_enter Try.func20, Try.ntmps20
  go_wp2_with fail
  generalize w.alloc (.cells #[.int .i64 m.ins, vn, vo] 27) = W at *
  refine (markIntSS_any B E1 vn k _ _ _ R1.out L1.out (by rw [List.length_map]; omega) (by rw [TN.out]; omega) (by omega)).mono ?_
  rintro e w1 ⟨rfl, ho1, hon1⟩
  rw [TN.out]
  have Ho1 := Lib.hid ho1
  have Hon1 := Lib.hid hon1
  have R2' := Lib.hid (OwnSE.only R2.out hon1 (fun g h1 h2 h3 => e3 g h3.2 h2))
  obtain ⟨z, p0, p1, p2⟩ := P.out
  have q2 := (World.cell?_of_block (a := ⟨w.heap.size, 2, none⟩) (hon1.block w.heap.size z (fun h => by have := e1 _ h.2; omega))).trans p2
  clear ho1 hon1 p0 p1 p2 R1 R2
  go_wp2_with fail
  refine (markIntSS_any B E2 vo (k + total m.next) _ _ _ R2'.out L2.out (by rw [List.length_map]; omega) (by rw [TO.out]; omega) (by omega)).mono ?_
  rintro e w2 ⟨rfl, ho2, hon2⟩
  rw [TO.out]
  have Ho12 := Lib.hid (OwnSE.only Ho1.out hon2 (fun g h1 h2 h3 => e3 g h2 h3.2))
  have Ho2 := Lib.hid ho2
  have Hon2 := Lib.hid hon2
  clear ho2 hon2 Ho1
  go_wp2_with fail
  go_ret
  refine ⟨rfl, ⟨_, _, E1, E2, rfl, e1, e2, Ho12.out, by rw [TN.out]; exact Ho2.out⟩, ?_⟩
  exact (Only.of_below _ B0.out).trans ((Hon1.out.mono fun g h => ⟨h.1, e1 g h.2⟩).trans (Hon2.out.mono fun g h => ⟨h.1, e2 g h.2⟩))
theorem heldMachine_any (B T : Nat) (i : Int) (v : Value) (ns os : List Nat) (k : Nat) (w : World) (h : RunMach B T i v ns os k w) (hl : ns.length + ns.sum + os.length + os.sum ≤ 1048576) (hk : k ≤ 1000000) :
    Calls Try.prog 25 #[v, .int .i64 k] w fun e w' => e = .returned (.int .i64 ((k + ns.sum + os.sum : Nat) : Int)) ∧ Below w.heap.size w w' := by
  obtain ⟨vn, vo, E1, E2, rfl, e1, e2, r1, r2⟩ := h
  have hb0 := bel_alloc w (.cells #[.int .i64 i, vn, vo] 27)
  have R1 := Lib.hid (OwnSE.at (OwnSE.below r1 hb0))
  have R2 := Lib.hid (OwnSE.at (OwnSE.below r2 hb0))
  have B0 := Lib.hid hb0
  have h1 : ¬ (((k + ns.sum : Nat) : Int) < 0) := by omega
  have h2 : ¬ (((k + ns.sum + os.sum : Nat) : Int) < 0) := by omega
  clear r1 r2 hb0
  go_enter Try.func25, Try.ntmps25
  go_wp2_with fail
  refine (heldIntSS_any vn k ns _ R1.out (by omega) (by omega) (by omega)).mono ?_
  rintro e w' ⟨rfl, rfl⟩
  go_wp2_with fail
  refine (heldIntSS_any vo (k + ns.sum) os _ R2.out (by omega) (by omega) (by omega)).mono ?_
  rintro e w' ⟨rfl, rfl⟩
  go_wp2_with fail
  go_ret
  exact ⟨rfl, B0.out⟩
end Go.Proofs.Ythnfbjjnabohoaa
