import Derived.Test.YtlbfejdbfhgifaaS13
import Derived.Test.YtlbfejdbfhgifaaS11
set_option linter.unusedVariables false
set_option linter.unusedSimpArgs false
namespace Go.Proofs.Ytlbfejdbfhgifaa
open Go.RowKit
set_option maxRecDepth 100000
/-! Laws' comparisons of rows and of machines. -/
theorem sameIntRows_same (v v2 : Value) (xss : List (List Int)) (w : World) (h : SSAt ints w v xss) (h2 : SSAt ints w v2 xss) :
    Calls Try.prog 87 #[v, v2] w fun e w' => e = .returned (.bool true) ∧ Below w.heap.size w w' := by
  obtain ⟨A, c, hv, hc, hcm⟩ := h.shape
  obtain ⟨A2, c2, hv2, hc2, hcm2⟩ := h2.shape
  subst hv hv2
  unfold maxLen at hcm hcm2
  have he1 : ((xss.length : Int) != (xss.length : Int)) = false := by simp
  go_enter Try.func87, Try.ntmps87
  go_wp2
  go_loopw [5] (fun i wr => ∃ (k : Nat), k ≤ xss.length ∧ i = .int .i64 k ∧ Below w.heap.size w wr)
    (fun i _ => xss.length - (intOf i).toNat)
  case atStart => exact ⟨0, Nat.zero_le _, rfl, Below.refl _ _⟩
  case round =>
    obtain ⟨k, hk, rfl, hd⟩ := hrel
    by_cases hlt : k < xss.length
    · obtain ⟨x, hx⟩ := at_some hlt
      obtain ⟨b, o, B, m, rfl, hbl, hs1, -, -, hr1⟩ := ss_open h hd hx
      obtain ⟨b2, o2, B2, m2, rfl, hbl2, ht1, -, -, hr2⟩ := ss_open h2 hd hx
      have HR1 := Lib.hid (show IntsAt wr (.slice B x.length m) x from hr1)
      have HR2 := Lib.hid (show IntsAt wr (.slice B2 x.length m2) x from hr2)
      have HC : Hid (∀ n : GW wr, Calls Try.prog 121 #[.slice B x.length m, .slice B2 x.length m2] (gw n) fun e w' => e = .returned (.bool true) ∧ Below (gw n).heap.size (gw n) w') := Lib.hid fun n => sameInts_same _ _ x (gw n) (Row.below HR1.out (gw_below n)) (Row.below HR2.out (gw_below n))
      have Hd := Lib.hid hd
      have hz := hd.size
      have g1 := gw_cell hs1 (by simp only; omega)
      have g3 := gw_cell ht1 (by simp only; omega)
      clear h h2 hd hs1 ht1 hx hr1 hr2
      go_wp2
      refine wp_region_grow (by kernel_rfl) (by kernel_rfl) ?_
      repeat (go_big_quiet_step ((go_at_call 121; exact grow_call (HC.out _))))
      refine wpQuiet_nil ?_
      intro _ hw'
      obtain ⟨nq, hw''⟩ := hw'
      subst hw''
      have hgq := gw_below nq
      generalize gw nq = wq at *
      clear nq
      clear g1 g3
      go_wp2_with fail
      go_roundw
      case rel => exact ⟨k + 1, by omega, by go_num, Hd.out.trans (hgq.mono hz)⟩
      case measure => simp [intOf] <;> omega
    · go_wp2
      go_ret
      exact ⟨rfl, hd⟩
theorem sameMachine_same (v v2 : Value) (m : Mz) (w : World) (h : MachAt w v m) (h2 : MachAt w v2 m) :
    Calls Try.prog 35 #[v, v2] w fun e w' => e = .returned (.bool true) ∧ Below w.heap.size w w' := by
  obtain ⟨vn, vo, rfl, n1, o1⟩ := h
  obtain ⟨vn2, vo2, rfl, n2, o2⟩ := h2
  have hb1 := bel_alloc w (.cells #[.int .i64 m.ins, vn, vo] 43)
  have hb2 := bel_alloc (w.alloc (.cells #[.int .i64 m.ins, vn, vo] 43)) (.cells #[.int .i64 m.ins, vn2, vo2] 43)
  have B0 := Lib.hid (hb1.trans (hb2.mono hb1.size))
  have PA := Lib.hid ((MCells.boxed w m.ins vn vo 43).below hb2)
  have PB := Lib.hid (MCells.boxed (w.alloc (.cells #[.int .i64 m.ins, vn, vo] 43)) m.ins vn2 vo2 43)
  have hs : (w.alloc (.cells #[.int .i64 m.ins, vn, vo] 43)).heap.size = w.heap.size + 1 := by simp
  rw [hs] at PB
  have N1 := Lib.hid (n1.below B0.out)
  have N2 := Lib.hid (n2.below B0.out)
  have O1 := Lib.hid (o1.below B0.out)
  have O2 := Lib.hid (o2.below B0.out)
  obtain ⟨za, a0, a1, a2⟩ := PA.out
  obtain ⟨zb, b0, b1, b2⟩ := PB.out
  have he : (m.ins == m.ins) = true := by simp
  clear n1 n2 o1 o2 hb1 hb2 hs
  go_enter Try.func35, Try.ntmps35
  go_wp2_with fail
  generalize (w.alloc (.cells #[.int .i64 m.ins, vn, vo] 43)).alloc (.cells #[.int .i64 m.ins, vn2, vo2] 43) = W at *
  refine (sameIntRows_same _ _ _ _ N1.out N2.out).mono ?_
  rintro e w1 ⟨rfl, hb1⟩
  have B1 := Lib.hid (B0.out.trans (hb1.mono B0.out.size))
  have O1 := Lib.hid (O1.out.below hb1)
  have O2 := Lib.hid (O2.out.below hb1)
  have PA := Lib.hid (PA.out.below hb1)
  have PB := Lib.hid (PB.out.below hb1)
  clear hb1 za a0 a1 a2 zb b0 b1 b2
  obtain ⟨za, a0, a1, a2⟩ := PA.out
  obtain ⟨zb, b0, b1, b2⟩ := PB.out
  go_wp2_with fail
  refine (sameIntRows_same _ _ _ _ O1.out O2.out).mono ?_
  rintro e w2 ⟨rfl, hb2⟩
  have B2 := Lib.hid (B1.out.trans (hb2.mono B1.out.size))
  clear hb2 za a0 a1 a2 zb b0 b1 b2
  go_wp2_with fail
  go_ret
  exact ⟨rfl, B2.out⟩
def TMachL (m : Mz) : Ty := fun w v => MachAt w v m
theorem stb_machL (m : Mz) : Stb (fun _ => False) (TMachL m) := fun _ _ _ h ho => h.below (only_below ho)
/-! Circuits without latches. -/
namespace Cir
theorem bfs_zero {d : Ci} (h : d.next = []) : reach d = [0] := by
  have hn : ∀ s x, nextOf d s x = 0 := fun s x => by unfold nextOf; rw [h]; rfl
  have hp : ∀ j, pushes d 0 j [0] = [0] := fun j => by
    induction j with
    | zero => rfl
    | succ j ih => rw [pushes_succ, ih, hn]; exact push_yes (by rw [memB_zero]; rfl)
  have h1 : reach d = bfs d 8 1 (pushes d 0 (2 ^ d.ins) [0]) := bfs_step (f := 8) (k := 0) (l := [0]) (s := 0) rfl
  rw [h1, hp]
  exact bfs_end (f := 8) (l := [0])
theorem machN_zero {d : Ci} (h : d.next = []) : (machN d).next.length = 1 ∧ (machN d).out = [nats ((List.range (2 ^ d.ins)).map fun x => num (lits (vals d [] (bits x d.ins)) d.outs))] := by
  unfold machN
  rw [bfs_zero h]
  refine ⟨rfl, ?_⟩
  show [nats (rowO d 0)] = _
  unfold rowO outsOf
  rw [h]
  rfl
theorem machI_ok {c : Cz} (h : valid c = true) : machI c = machN (nat c) := by unfold machI; rw [h]; rfl
theorem machI_no {c : Cz} (h : valid c = false) : machI c = { ins := 0, next := [], out := [] } := by unfold machI; rw [h]; rfl
end Cir
theorem nat_next0 (c : Cz) (h : c.next = []) : (Cir.nat c).next = [] := by unfold Cir.nat; rw [h]; rfl
theorem rowG_get {N j : Nat} (h : j < N) (f : Nat → Nat) : (nats ((List.range N).map f))[j]? = some ((f j : Nat) : Int) := by
  unfold nats
  rw [List.getElem?_map, List.getElem?_map, List.getElem?_range h]
  rfl
end Go.Proofs.Ytlbfejdbfhgifaa
