import Derived.Test.YtkkkjbinfdohpaaS05
import Derived.Test.YtkkkjbinfdohpaaS04
import Derived.Test.YtkkkjbinfdohpaaProg
import Derived.Test.YtkkkjbinfdohpaaS01
import Derived.Lib.SmallJoins
import Derived.ProofKit
import Derived.Deep.Slices
import Derived.Deep.Fields
import Derived.ChangeSame
import Derived.Test.YtkkkjbinfdohpaaS02
set_option linter.unusedVariables false
set_option linter.unusedSimpArgs false
namespace Go.Proofs.Ytkkkjbinfdohpaa
open Go.RowKit
set_option maxRecDepth 100000
/-! Reachable, by the program. -/
def Cir.reachI (c : Cz) : List Int := if Cir.valid c then nats (Cir.reach (Cir.nat c)) else []
theorem own_no_map {w : World} {B n size b m : Nat} {e : TypeId} {v : Value} {cs : List Value} {S : Nat → Bool} (h : w.ownsRow B e size v n cs) (hs : SetAt w b m S) : ¬ v.ownBlock = some b := by
  rintro hv
  obtain ⟨D, ⟨es, clock, h1, _⟩, _⟩ := hs
  rcases h.2 with ⟨rfl, _⟩ | ⟨g, cap, cur, rfl, _, h2, _⟩
  · simp [Value.ownBlock] at hv
  · simp [Value.ownBlock] at hv
    subst hv
    rw [h1] at h2
    cases h2
set_option maxHeartbeats 4000000 in
theorem implReach_ok (v : Value) (d : Ci) (w : World) (h : CircAt w v (Cir.toCz d)) (hd : Cir.Ok d) (hv : Cir.valid (Cir.toCz d) = true) :
    Calls Try.prog 31 #[v] w (OwnInts (nats (Cir.reach d)) w) := by
  have l1 := hd.ins
  have l2 := hd.nexts
  have HC := Lib.hid h
  obtain ⟨vn, vg, vo, rfl, r1, r2, r3⟩ := h
  have hins : (Cir.toCz d).ins = (d.ins : Int) := rfl
  have HP := Lib.hid (PCirc.boxed (c := Cir.toCz d) 26 r1 r2 r3)
  rw [hins] at HC HP ⊢
  have B0 := Lib.hid (bel_new w (.cells #[.int .i64 d.ins, vn, vg, vo] 26))
  have hsz : (w.alloc (.cells #[.int .i64 d.ins, vn, vg, vo] 26)).heap.size = w.heap.size + 1 := by simp
  obtain ⟨z, p0, p1, p2, p3⟩ := PCells.boxed w d.ins vn vg vo 26
  have HV := Lib.hid (implValid_any _ _ _ (HC.out.below B0.out))
  rw [hv] at HV
  have Hd := Lib.hid hd
  obtain ⟨M, e, hM⟩ : ∃ M : Nat, (2 : Int) ^ d.ins = (M : Int) ∧ M = 2 ^ d.ins := ⟨2 ^ d.ins, two_pow d.ins, rfl⟩
  have hM16 : M ≤ 16 := by rw [hM]; exact Nat.pow_le_pow_right (show 0 < 2 by decide) l1
  have hwM := IntWalk.i64_in (M : Int) (by omega)
  have HM := Lib.hid hM
  have hmm := @run_makeMap Try.prog
  clear r1 r2 r3 hd hins hM hv HC
  go_enter Try.func31, Try.ntmps31
  go_wp2_with fail
  generalize w.alloc (.cells #[.int .i64 d.ins, vn, vg, vo] 26) = W at *
  refine HV.out.mono ?_
  rintro e w1 ⟨rfl, hb1⟩
  have B1 := Lib.hid (B0.out.trans (hb1.mono B0.out.size))
  have HP1 := Lib.hid (HP.out.below hb1)
  have q0 := (hb1.cell (p := ⟨w.heap.size, 0, none⟩) z).trans p0
  have z1 := hb1.size
  clear hb1 p0 p1 p2 p3 HV HP
  have Hset0 : Hid (SetAt ((w1.alloc (.cells #[.int .i64 0] 3)).alloc (.map #[] 0)) (w1.heap.size + 1) 0 (fun _ => false)) := Lib.hid (by have := setAt_made (w1.alloc (.cells #[.int .i64 0] 3)); rwa [World.size_alloc] at this)
  have Hlit : Hid (((w1.alloc (.cells #[.int .i64 0] 3)).alloc (.map #[] 0)).ownsRow w1.heap.size 3 1 (.slice (some ⟨w1.heap.size, 0, none⟩) 1 1) 1 [.int .i64 0]) := Lib.hid ((World.ownsRow_lit (base := w1.heap.size) (e := 3) (size := 1) w1 #[.int .i64 0] 1 (Nat.le_refl _) (by unfold maxLen; omega) rfl).alloc _)
  have hs1 : (w1.alloc (.cells #[.int .i64 0] 3)).heap.size = w1.heap.size + 1 := by simp
  have Bm : Hid (Below w1.heap.size w1 ((w1.alloc (.cells #[.int .i64 0] 3)).alloc (.map #[] 0))) := Lib.hid (((Below.refl _ _).alloc (Nat.le_refl _) _).alloc (by simp) _)
  go_wp2_with (with_reducible refine wpList_add_set _ rfl (.tmp 13) _ _ (.inr rfl) _ _ _ rfl Hset0.out (by omega) 0 (by omega) rfl rfl ?_; intro w2 hset2 hg2)
  have Hset2 := Lib.hid (hset2.congr (S' := fun x => Cir.memB [0] x) (fun x => by rw [Cir.memB_zero, Bool.false_or]))
  have Ho2 := Lib.hid (own_kept Hlit.out hg2 (fun g hg e => own_no_map Hlit.out Hset0.out (hg.trans e.symm)))
  have B2 := Lib.hid (Bm.out.grown hg2 Bm.out.size (fun q hq => by have := Option.some.inj hq; omega))
  clear hset2 hg2 Hset0 Hlit Bm hmm
  have hR0 : Hid (Cir.reach d = Cir.bfs d (9 - 0) 0 [0]) := Lib.hid rfl
  generalize Cir.reach d = res at *
  go_wp2_with fail
  go_loopw [3, 5] (fun v i wr => ∃ (vv : Value) (k m : Nat) (l : List Nat), vv = v ∧ i = .int .i64 k ∧ k ≤ l.length ∧ l.length ≤ 8 ∧ m ≤ 300 ∧ Hid (Cir.Sts d l) ∧ Hid (res = Cir.bfs d (9 - k) k l) ∧ Hid (wr.ownsRow w1.heap.size 3 1 v l.length (nints l)) ∧ Hid (SetAt wr (w1.heap.size + 1) m (fun x => Cir.memB l x)) ∧ m ≤ 1 + k * 16 ∧ Below w1.heap.size w1 wr) (fun v i _ => 8 - (intOf i).toNat)
  case atStart => exact ⟨_, 0, 1, [0], rfl, rfl, by simp, by simp, by omega, Lib.hid (Cir.Sts.zero d), hR0, Ho2, Lib.hid (Hset2.out.mono (by omega)), by omega, B2.out⟩
  case round =>
    obtain ⟨vv, k, m, l, hvv, rfl, hk, hl8, hm3, Hst, hres, Ho, Hs, hm16, hb⟩ := hrel
    subst hvv
    clear Ho2 Hset2 B2 hR0
    obtain ⟨A, c, rfl, hc, hcm⟩ := NatsAt.shape (own_nats Ho.out)
    unfold maxLen at hcm
    have Hb := Lib.hid hb
    have hzb := hb.size
    have c0 := (hb.cell (p := ⟨w.heap.size, 0, none⟩) (show w.heap.size < w1.heap.size by omega)).trans q0
    clear hb
    by_cases hlt : k < l.length
    · obtain ⟨s, hs⟩ := at_some hlt
      have hs8 : s < 8 := by
        have h1 := Hst.out.lt s (List.mem_of_getElem? hs)
        have h2 : 2 ^ d.next.length ≤ 2 ^ 3 := Nat.pow_le_pow_right (show 0 < 2 by decide) l2
        omega
      have Hstep := Lib.hid (Cir.bfs_step (c := d) (f := 9 - (k + 1)) hs)
      have hf : 9 - k = 9 - (k + 1) + 1 := by omega
      rw [hf] at hres
      have Hgs := Lib.hid hs
      have hdl : decide (k < l.length) = true := decide_eq_true hlt
      clear hs hf
      go_wp2_with fail
      obtain ⟨Wk, hWk⟩ : ∃ Wk, Wk = wr := ⟨_, rfl⟩
      subst hWk
      go_loopw [3, 24] (fun v i wr => ∃ (vv : Value) (j q : Nat), vv = v ∧ i = .int .i64 j ∧ j ≤ M ∧ q ≤ m + j ∧ Hid (wr.ownsRow w1.heap.size 3 1 v (Cir.pushes d s j l).length (nints (Cir.pushes d s j l))) ∧ Hid (SetAt wr (w1.heap.size + 1) q (fun x => Cir.memB (Cir.pushes d s j l) x)) ∧ Below w1.heap.size w1 wr) (fun v i _ => M - (intOf i).toNat)
      case atStart => exact ⟨_, 0, m, rfl, rfl, Nat.zero_le _, by omega, Ho, Hs, Hb.out⟩
      case round =>
        obtain ⟨vv, j, q, hvv, rfl, hj, hq, Ho, Hs, hb⟩ := hrel
        subst hvv
        clear c0
        have Hb := Lib.hid hb
        have hzb := hb.size
        have c0 := (hb.cell (p := ⟨w.heap.size, 0, none⟩) (show w.heap.size < w1.heap.size by omega)).trans q0
        have Hst2 := Lib.hid (Hst.out.pushes s j)
        have hL8 := Hst2.out.len Hd.out
        have Hgj := Lib.hid (Cir.pushes_get (c := d) (s := s) (j := j) Hgs.out)
        have Hsu := Lib.hid (Cir.pushes_succ d s j l)
        by_cases hlj : j < M
        · obtain ⟨L2, hL2⟩ : ∃ L2, Cir.pushes d s (j + 1) l = L2 := ⟨_, rfl⟩
          rw [hL2] at Hsu
          have HL2 := Lib.hid hL2
          clear hL2
          generalize Cir.pushes d s j l = L at *
          obtain ⟨A, c, rfl, hc, hcm⟩ := NatsAt.shape (own_nats Ho.out)
          unfold maxLen at hcm
          have hkL : k < L.length := (List.getElem?_eq_some_iff.1 Hgj.out).1
          obtain ⟨b, o, s', rfl, hbl, hx0, hs0⟩ := nats_cell (nats_row (own_nats Ho.out)) rfl hkL
          obtain rfl : s' = s := Option.some.inj (hx0.out.symm.trans Hgj.out)
          clear hb
          go_wp2_with fail
          refine (cycle_any w.heap.size d s' j _ (HP1.out.below Hb.out) Hd.out (by omega) (by omega)).mono ?_
          rintro e w5 ⟨rfl, hb5⟩
          have Hb5 := Lib.hid (Hb.out.trans (hb5.mono hzb))
          have Ho5 := Lib.hid (own_below Ho.out hb5)
          have Hs5 := Lib.hid (Hs.out.below hb5)
          have hz5 := hb5.size
          have hN8 : Cir.nextOf d s' j < 8 := by
            have h1 := Cir.nextOf_lt d s' j
            have h2 : 2 ^ d.next.length ≤ 2 ^ 3 := Nat.pow_le_pow_right (show 0 < 2 by decide) l2
            omega
          clear hb5 Ho Hs c0 hs0
          generalize Cir.nextOf d s' j = N at *
          generalize Cir.num (Cir.outsOf d s' j) = On at *
          cases hc : Cir.memB L N
          · have HP := Lib.hid (Cir.push_no hc)
            go_wp2_with (first
              | (at_lookup; refine wpList_look_set _ rfl (.tmp 36) (.tmp 37) rfl _ _ _ rfl Hs5.out N (by omega) rfl ?_)
              | (at_mapUpdate; refine wpList_add_set _ rfl (.tmp 40) (.tmp 41) _ (.inl rfl) _ _ _ rfl Hs5.out (by omega) N (by omega) rfl rfl ?_; intro w6 hset6 hg6; have Hset6 := Lib.hid (hset6.congr (S' := fun x => Cir.memB (L ++ [N]) x) (fun x => by rw [Cir.memB_snoc])); have Ho6 := Lib.hid (own_kept Ho5.out hg6 (fun g hg e => own_no_map Ho5.out Hs5.out (hg.trans e.symm))); have Hb6 := Lib.hid (Hb5.out.grown hg6 Hb5.out.size (fun q hq => by have := Option.some.inj hq; omega)); have hz6 := hg6.size; have Hlit := Lib.hid (Row.of_own (World.ownsRow_lit (base := w6.heap.size) (e := 3) (size := 1) w6 #[.int .i64 N] 1 (Nat.le_refl _) (by unfold maxLen; omega) rfl)); clear hset6 hg6)
              | (at_builtin; refine append_ints rfl (.tmp 42) (.tmp 44) rfl w1.heap.size _ L.length (nints L) rfl (Ho6.out.alloc _) _ 1 [.int .i64 N] rfl Hlit.out (by simp [Value.oneCell']) (by omega) (by simp; omega) ?_; intro v7 w7 hown7 hg7 hat7; have Ho7 := Lib.hid hown7; have Hset7 := Lib.hid ((Hset6.out.below (bel_new w6 (.cells #[.int .i64 N] 3))).only (Only.grown (E := fun g => some g = (Value.slice (some ⟨b, o, none⟩) L.length c).ownBlock) hg7 (fun k hk => hk.symm)) (fun hq => own_no_map Ho6.out Hset6.out hq.symm)); have Hg7 := Lib.hid hg7; clear hown7 hg7 hat7))
            go_roundw
            case rel => exact ⟨_, j + 1, q + 1, rfl, by go_num, by omega, by omega, Lib.hid (by rw [HL2.out, Hsu.out, HP.out, nints_snoc, List.length_append]; exact Ho7.out), Lib.hid (by rw [HL2.out, Hsu.out, HP.out]; exact Hset7.out), (Hb6.out.alloc Hb6.out.size _).grown Hg7.out (Hb6.out.alloc Hb6.out.size _).size (own_ge0 Ho6.out)⟩
            case measure => simp [intOf] <;> omega
          · have HP := Lib.hid (Cir.push_yes hc)
            go_wp2_with (first
              | (at_lookup; refine wpList_look_set _ rfl (.tmp 36) (.tmp 37) rfl _ _ _ rfl Hs5.out N (by omega) rfl ?_))
            go_roundw
            case rel => exact ⟨_, j + 1, q, rfl, by go_num, by omega, by omega, Lib.hid (by rw [HL2.out, Hsu.out, HP.out]; exact Ho5.out), Lib.hid (by rw [HL2.out, Hsu.out, HP.out]; exact Hs5.out), Hb5.out⟩
            case measure => simp [intOf] <;> omega
        · obtain rfl : j = M := by omega
          have HMr : Hid (res = Cir.bfs d (9 - (k + 1)) (k + 1) (Cir.pushes d s j l)) := Lib.hid (by rw [hres.out, Hstep.out, HM.out])
          have Hlk := Lib.hid (show k + 1 ≤ (Cir.pushes d s j l).length by have := (List.getElem?_eq_some_iff.1 Hgj.out).1; omega)
          clear hb
          generalize Cir.pushes d s j l = L at *
          go_wp2_with fail
          go_roundw
          case rel => exact ⟨_, k + 1, q, L, rfl, by go_num, Hlk.out, hL8, by omega, Hst2, HMr, Ho, Hs, by omega, Hb.out⟩
          case measure => simp [intOf] <;> omega
    · obtain rfl : k = l.length := by omega
      have hr : res = l := by rw [hres.out, Cir.bfs_end]
      go_wp2_with fail
      go_ret
      exact ⟨_, rfl, by rw [hr, nats_length]; exact own_mono Ho.out (by omega), B1.out.trans (Hb.out.mono B1.out.size)⟩
end Go.Proofs.Ytkkkjbinfdohpaa

namespace Go.Proofs.Ytkkkjbinfdohpaa
open Go.RowKit
set_option maxRecDepth 100000
/-! A breadth-first search under way: its queue, its paths, its set of seen states. -/
def rowsOf (ins : Nat) (p : List Nat) : List (List Bool) := p.map fun x => Cir.bits x ins
theorem rowsOf_snoc (ins : Nat) (p : List Nat) (x : Nat) : rowsOf ins (p ++ [x]) = rowsOf ins p ++ [Cir.bits x ins] := by unfold rowsOf; simp
theorem rowsOf_length (ins : Nat) (p : List Nat) : (rowsOf ins p).length = p.length := by unfold rowsOf; simp
structure VB (B mb ins N : Nat) (l : List (Nat × List Nat)) (vq vp : Value) (pv : List Value) (F : Nat → Prop) (w : World) : Prop where
  q : w.ownsRow B 3 1 vq l.length (nints (Cir.vsts l))
  p : w.ownsRow B 88 1 vp l.length pv
  s : SetAt w mb N (fun x => Cir.memB (Cir.vsts l) x)
  r : ∀ (i s : Nat) (x : List Nat) (u : Value), l[i]? = some (s, x) → pv[i]? = some u → SSIn bools F w u (rowsOf ins x)
  f : ∀ g, F g → g < w.heap.size ∧ vq.ownBlock ≠ some g ∧ vp.ownBlock ≠ some g ∧ g ≠ mb
  a : Apart vq vp
  am : vq.ownBlock ≠ some mb ∧ vp.ownBlock ≠ some mb
theorem VB.pl {B mb ins N : Nat} {l : List (Nat × List Nat)} {vq vp : Value} {pv : List Value} {F : Nat → Prop} {w : World} (h : VB B mb ins N l vq vp pv F w) : pv.length = l.length := by
  have := h.p.1; omega
theorem VB.below {B mb ins N : Nat} {l : List (Nat × List Nat)} {vq vp : Value} {pv : List Value} {F : Nat → Prop} {w w' : World} (h : VB B mb ins N l vq vp pv F w) (hb : Below w.heap.size w w') : VB B mb ins N l vq vp pv F w' :=
  ⟨own_below h.q hb, own_below h.p hb, h.s.below hb, fun i s x u hx hu => (h.r i s x u hx hu).below hb, fun g hg => ⟨Nat.lt_of_lt_of_le (h.f g hg).1 hb.size, (h.f g hg).2⟩, h.a, h.am⟩
theorem VB.mono {B mb ins N N' : Nat} {l : List (Nat × List Nat)} {vq vp : Value} {pv : List Value} {F : Nat → Prop} {w : World} (h : VB B mb ins N l vq vp pv F w) (hN : N ≤ N') : VB B mb ins N' l vq vp pv F w :=
  ⟨h.q, h.p, h.s.mono hN, h.r, h.f, h.a, h.am⟩
/-- A state more. -/
theorem VB.push {B mb ins N n j : Nat} {l : List (Nat × List Nat)} {x : List Nat} {vq vp vq' vp' u : Value} {pv : List Value} {F F' : Nat → Prop} {w w1 w3 w5 : World} {o1 o2 : Obj} (h : VB B mb ins N l vq vp pv F w)
    (hu : SSIn bools F' w u (rowsOf ins (x ++ [j]))) (hF : ∀ g, F g → F' g) (hF' : ∀ g, F' g → g < w.heap.size ∧ vq.ownBlock ≠ some g ∧ vp.ownBlock ≠ some g ∧ g ≠ mb)
    (s1 : SetAt w1 mb (N + 1) (fun z => Cir.memB (Cir.vsts l) z || z == n)) (g1 : w.grownBy w1 (some mb))
    (own3 : w3.ownsRow B 3 1 vq' (l.length + 1) (nints (Cir.vsts l) ++ [.int .i64 (n : Int)])) (g3 : (w1.alloc o1).grownBy w3 vq.ownBlock) (at3 : vq'.ownBlock = vq.ownBlock ∨ vq'.ownBlock = some (w1.alloc o1).heap.size)
    (own5 : w5.ownsRow B 88 1 vp' (l.length + 1) (pv ++ [u])) (g5 : (w3.alloc o2).grownBy w5 vp.ownBlock) (at5 : vp'.ownBlock = vp.ownBlock ∨ vp'.ownBlock = some (w3.alloc o2).heap.size) :
    VB B mb ins (N + 1) (l ++ [(n, x ++ [j])]) vq' vp' (pv ++ [u]) F' w5 := by
  have z1 := g1.size
  have z3 := g3.size
  have z5 := g5.size
  rw [World.size_alloc] at z3 z5
  have hvs : Cir.vsts (l ++ [(n, x ++ [j])]) = Cir.vsts l ++ [n] := by unfold Cir.vsts; simp
  have mbl := h.s.lt
  have hq' : ∀ g, vq'.ownBlock = some g → vq.ownBlock = some g ∨ g = w1.heap.size + 1 := fun g hg => by
    rcases at3 with e | e
    · exact .inl (e.symm.trans hg)
    · rw [World.size_alloc] at e; exact .inr (Option.some.inj (hg.symm.trans e))
  have hp' : ∀ g, vp'.ownBlock = some g → vp.ownBlock = some g ∨ g = w3.heap.size + 1 := fun g hg => by
    rcases at5 with e | e
    · exact .inl (e.symm.trans hg)
    · rw [World.size_alloc] at e; exact .inr (Option.some.inj (hg.symm.trans e))
  have hql : ∀ g, vq.ownBlock = some g → g < w.heap.size := fun g hg => (h.q.lt g hg).2
  have hpl : ∀ g, vp.ownBlock = some g → g < w.heap.size := fun g hg => (h.p.lt g hg).2
  have ho : Only (fun g => g = mb ∨ vq.ownBlock = some g ∨ vp.ownBlock = some g) w w5 := by
    have a1 : Only (fun g => g = mb ∨ vq.ownBlock = some g ∨ vp.ownBlock = some g) w w1 := Only.grown g1 fun k hk => .inl (Option.some.inj hk).symm
    have a2 := Only.of_below (fun g => g = mb ∨ vq.ownBlock = some g ∨ vp.ownBlock = some g) (bel_new w1 o1)
    have a3 : Only (fun g => g = mb ∨ vq.ownBlock = some g ∨ vp.ownBlock = some g) (w1.alloc o1) w3 := Only.grown g3 fun k hk => .inr (.inl hk)
    have a4 := Only.of_below (fun g => g = mb ∨ vq.ownBlock = some g ∨ vp.ownBlock = some g) (bel_new w3 o2)
    have a5 : Only (fun g => g = mb ∨ vq.ownBlock = some g ∨ vp.ownBlock = some g) (w3.alloc o2) w5 := Only.grown g5 fun k hk => .inr (.inr hk)
    exact (((a1.trans a2).trans a3).trans a4).trans a5
  have hE : ∀ g, F' g → ¬ (g = mb ∨ vq.ownBlock = some g ∨ vp.ownBlock = some g) := fun g hg he => by
    have := hF' g hg
    rcases he with he | he | he
    · exact this.2.2.2 he
    · exact this.2.1 he
    · exact this.2.2.1 he
  refine ⟨?_, ?_, ?_, fun i s y z hy hz => ?_, fun g hg => ?_, fun g h1 h2 => ?_, ?_, ?_⟩
  · rw [List.length_append, List.length_singleton, hvs, nints_snoc]
    refine own_kept (own_below own3 (bel_new _ _)) g5 fun g h1 h2 => ?_
    rcases hq' g h1 with e | e
    · exact h.a g e h2
    · have := hpl g h2; omega
  · rw [List.length_append, List.length_singleton]
    exact own5
  · have s3 : SetAt w3 mb (N + 1) _ := (s1.below (bel_new w1 o1)).only (Only.grown (E := fun g => vq.ownBlock = some g) g3 fun k hk => hk) (h.am.1)
    have s5 := (s3.below (bel_new w3 o2)).only (Only.grown (E := fun g => vp.ownBlock = some g) g5 fun k hk => hk) (h.am.2)
    exact s5.congr fun z => by rw [hvs, Cir.memB_snoc]
  · rcases Nat.lt_or_ge i l.length with hi | hi
    · rw [List.getElem?_append_left hi] at hy
      rw [List.getElem?_append_left (by rw [h.pl]; exact hi)] at hz
      exact ((h.r i s y z hy hz).mono hF).only ho hE
    · have hil : i = l.length := by
        rcases Nat.lt_or_ge l.length i with hh | hh
        · rw [List.getElem?_eq_none (by simp; omega)] at hy; cases hy
        · omega
      subst hil
      rw [List.getElem?_append_right (Nat.le_refl _), Nat.sub_self] at hy
      rw [List.getElem?_append_right (by rw [h.pl]; exact Nat.le_refl _), h.pl, Nat.sub_self] at hz
      obtain ⟨rfl, rfl⟩ := Prod.mk.inj (Option.some.inj hy)
      obtain rfl := Option.some.inj hz
      exact hu.only ho hE
  · have := hF' g hg
    refine ⟨by omega, fun h1 => ?_, fun h1 => ?_, this.2.2.2⟩
    · rcases hq' g h1 with e | e
      · exact this.2.1 e
      · omega
    · rcases hp' g h1 with e | e
      · exact this.2.2.1 e
      · omega
  · rcases hq' g h1 with e | e
    · rcases hp' g h2 with e2 | e2
      · exact h.a g e e2
      · have := hql g e; omega
    · rcases hp' g h2 with e2 | e2
      · have := hpl g e2; omega
      · omega
  · intro h1
    rcases hq' _ h1 with e | e
    · exact h.am.1 e
    · omega
  · intro h1
    rcases hp' _ h1 with e | e
    · exact h.am.2 e
    · omega
open Go.Maps in
theorem run_look_set {w : World} {b n : Nat} {S : Nat → Bool} (h : SetAt w b n S) (k : Nat) (hk : (k : Int) ≤ 9223372036854775807) : (Instr.lookup 92 (.map (some b)) (.int .i64 (k : Int)) false).run Try.prog w = .ok (.bool (S k)) w := by
  obtain ⟨D, h1, h2, h3, -⟩ := h
  obtain ⟨v, ps, hrun, hv⟩ := h1.lookup set_keyed Try.underlying92 (zero_bool w) (plainElem_bool Try.underlying4 false) (keyOf_int_mk Try.underlying3 (i64_wf hk))
  rw [h3 k] at hv
  have hvb : v = .bool (S k) := by
    unfold plainElem at hv
    rw [Try.underlying4] at hv
    cases v <;> simp at hv
    rw [hv.1]
  subst hvb
  exact hrun
/-! The closure of FindViolation. -/
theorem num_bit : ∀ (l : List Bool) (o : Nat), (Cir.num l).testBit o = l.getD o false
  | [], o => by simp [Cir.num]
  | b :: l, 0 => by
    rw [Cir.num, Nat.testBit_zero]
    cases b <;> simp <;> omega
  | b :: l, o + 1 => by
    rw [Cir.num, Nat.testBit_succ]
    have : ((if b then 1 else 0) + 2 * Cir.num l) / 2 = Cir.num l := by split <;> omega
    rw [this, num_bit l o]
    simp
theorem outsOf_length (d : Ci) (s x : Nat) : (Cir.outsOf d s x).length = d.outs.length := by unfold Cir.outsOf; rw [lits_length]
theorem viClo_any (g go : Nat) (d : Ci) (o s x : Nat) (w : World) (h : PCirc w g (Cir.toCz d)) (hgo : w.cell? ⟨go, 0, none⟩ = some (.int .i64 o)) (hlt : go < w.heap.size) (hd : Cir.Ok d) (hs : s ≤ 1000) (hx : x ≤ 1000) (ho : o < d.outs.length) :
    Calls Try.prog 93 #[.int .i64 s, .int .i64 x, .pointer (some ⟨g, 0, none⟩), .pointer (some ⟨go, 0, none⟩)] w fun e w' => e = .returned (.tuple #[.int .i64 (Cir.nextOf d s x : Nat), .bool (Cir.bad d o s x)]) ∧ Below w.heap.size w w' := by
  have hC := Lib.hid (cycle_any g d s x w h hd hs hx)
  have l4 := hd.outss
  have hnb := num_bit (Cir.outsOf d s x) o
  have hnl := Cir.num_lt (Cir.outsOf d s x)
  rw [outsOf_length] at hnl
  have hn8 : 2 ^ d.outs.length ≤ 2 ^ 3 := Nat.pow_le_pow_right (show 0 < 2 by decide) l4
  have hN : Cir.num (Cir.outsOf d s x) ≤ 1000000 := by omega
  have hB : (Cir.outsOf d s x).getD o false = Cir.bad d o s x := rfl
  rw [hB] at hnb
  clear hn8 hnl hB h
  generalize Cir.num (Cir.outsOf d s x) = y at *
  generalize Cir.bad d o s x = b at *
  generalize Cir.nextOf d s x = n at *
  have hq : (y : Int) / 2 ^ o = ((y / 2 ^ o : Nat) : Int) := by rw [Int.natCast_ediv, two_pow]
  have hy : y / 2 ^ o ≤ 1000000 := Nat.le_trans (Nat.div_le_self _ _) hN
  have hm : bits .and .i64 ((y / 2 ^ o : Nat) : Int) 1 = ((y / 2 ^ o % 2 : Nat) : Int) := by
    have := i64_and_nat (y / 2 ^ o) 1 (by omega) (by omega)
    rw [Nat.and_one_is_mod] at this
    exact this
  have he : (((y / 2 ^ o % 2 : Nat) : Int) == 1) = b := by
    rw [← hnb, Nat.testBit_eq_decide_div_mod_eq, Bool.eq_iff_iff, beq_iff_eq, decide_eq_true_iff]
    omega
  generalize y / 2 ^ o = y' at hq hm he hy
  generalize y' % 2 = r at hm he
  clear hnb
  go_enter Try.func93, Try.ntmps93
  go_wp2_with fail
  refine hC.out.mono ?_
  rintro e w1 ⟨rfl, hb1⟩
  have c1 := (hb1.cell (p := ⟨go, 0, none⟩) hlt).trans hgo
  have Hb := Lib.hid hb1
  clear hb1 hgo hC
  go_wp2_with fail
  go_region
  go_wp2_with fail
  exact bodyPost_ret (v := .tuple #[.int .i64 n, .bool b]) (by simp [results, Try.results93, go_sem]) rfl ⟨rfl, Hb.out.os, Hb.out.tape, Hb.out.output, Hb.out.size, Hb.out.block⟩
end Go.Proofs.Ytkkkjbinfdohpaa

namespace Go.Proofs.Ytkkkjbinfdohpaa
set_option maxRecDepth 100000
open Go.RowKit Go.Joins Go.ChangeShapes Go.WideShapes Go.ChangeAt Go.Deep
/-! Arguments that are slices, whatever their elements. -/
theorem flat_at {α : Type} {size : Nat} : ∀ {els : List (List α)}, (∀ e ∈ els, e.length = size) → ∀ {j : Nat} {u : α}, els.flatten[j]? = some u → ∃ (i r : Nat) (e : List α), j = i * size + r ∧ r < size ∧ els[i]? = some e ∧ e[r]? = some u
  | [], _, j, u, h => by simp at h
  | e :: els, hl, j, u, h => by
    have he := hl e (by simp)
    rw [List.flatten_cons, List.getElem?_append] at h
    split at h
    · rename_i hlt
      exact ⟨0, j, e, by omega, by omega, rfl, h⟩
    · rename_i hge
      obtain ⟨i, r, e', hj, hr, hi, hu⟩ := flat_at (fun e' h' => hl e' (List.mem_cons_of_mem _ h')) h
      refine ⟨i + 1, r, e', ?_, hr, by simpa using hi, hu⟩
      rw [Nat.add_mul]
      omega
theorem flat_length {α : Type} {size : Nat} : ∀ {els : List (List α)}, (∀ e ∈ els, e.length = size) → els.flatten.length = els.length * size
  | [], _ => by simp
  | e :: els, h => by
    rw [List.flatten_cons, List.length_append, flat_length (fun e' h' => h e' (List.mem_cons_of_mem _ h')), h e (by simp), List.length_cons, Nat.add_mul]
    omega
section
variable {H : Type} {enc : TypeId × Value → H} {P : Program} {w : World} {base : Nat} {spare : Nat → Bool} {held : Bool}
theorem slice_rd {t e : TypeId} {size fuel : Nat} {cs : List Value} {x : DataW H × List MemPlace} (ht : P.underlying t = some (.slice e)) (hc : P.cellsOf e = size) (hs : 0 < size) (G : List Value → Prop)
    (hG : ∀ n cs' y, cs'.length = size → DataW.trod enc P w base spare held n e cs' = some y → G cs') (h : DataW.trod enc P w base spare held fuel t cs = some x) :
    ∃ (A : Option Addr) (n c : Nat) (els : List (List Value)), cs = [.slice A n c] ∧ Row w size (.slice A n c) n els.flatten ∧ els.length = n ∧ (∀ e ∈ els, e.length = size) ∧ ∀ e ∈ els, G e := by
  rcases open_slice ht h with ⟨rfl, _⟩ | ⟨a, len, cap, m, n, D, Pl, rfl, hb, hl, hm, hmm, _, hx⟩
  · exact ⟨none, 0, 0, [], rfl, Row.nil w size, rfl, by simp, by simp⟩
  · have hx' : ∀ i, i < len → ∃ cs', cs'.length = size ∧ (∀ j, j < size → w.cell? (a.add (i * size + j)) = cs'[j]?) ∧ G cs' := by
      intro i hi
      have him : i < m := by rw [hmm]; split <;> omega
      obtain ⟨cs', h1, h2⟩ := hx i him
      rw [hc] at h1
      obtain ⟨_, h3, h4⟩ := World.cells?_some h1
      refine ⟨cs', h3, fun j hj => ?_, hG _ _ _ h3 h2⟩
      rw [← Go.Deep.add_add]
      exact h4 j hj
    let f : Nat → List Value := fun i => if h : i < len then (hx' i h).choose else []
    have hf : ∀ i, i < len → (f i).length = size ∧ (∀ j, j < size → w.cell? (a.add (i * size + j)) = (f i)[j]?) ∧ G (f i) := by
      intro i hi
      have := (hx' i hi).choose_spec
      simp only [f, hi, dite_true]
      exact this
    have hel : ∀ e ∈ (List.range len).map f, e.length = size := by
      intro e he
      obtain ⟨i, hi, rfl⟩ := List.mem_map.1 he
      exact (hf i (List.mem_range.1 hi)).1
    refine ⟨some a, len, cap, (List.range len).map f, rfl, ⟨by rw [flat_length hel]; simp, some a, cap, rfl, hl, hm, fun hn => ?_⟩, by simp, hel, fun e he => ?_⟩
    · obtain ⟨b, off, spot⟩ := a
      obtain ⟨h5, h6, _⟩ := hf 0 hn
      have h0 := h6 0 hs
      rw [List.getElem?_eq_getElem (by omega)] at h0
      have hspot : spot = none := by simpa [Addr.add] using World.cell?_spot h0
      subst hspot
      refine ⟨b, off, rfl, ?_, fun j u hu => ?_⟩
      · rcases Nat.lt_or_ge b w.heap.size with hl | hl
        · exact hl
        · simp [World.cell?, Addr.add, Array.getElem?_eq_none hl] at h0
      · obtain ⟨i, r, e', rfl, hr, hi, hu'⟩ := flat_at hel hu
        have hil : i < len := by
          obtain ⟨hi', _⟩ := List.getElem?_eq_some_iff.1 hi
          simpa using hi'
        have : e' = f i := by simpa [hil] using hi.symm
        subst this
        rw [← Go.WideShapes.add_plain, (hf i hil).2.1 r hr]
        exact hu'
    · obtain ⟨i, hi, rfl⟩ := List.mem_map.1 he
      exact (hf i (List.mem_range.1 hi)).2.2
end
def WfI (x : Int) : Prop := -9223372036854775808 ≤ x ∧ x ≤ 9223372036854775807
theorem wf_i {x : Int} (h : (Lit.int .i64 x).wf = true) : WfI x := by
  have := Go.bounds_i64 h
  unfold WfI
  omega
/-- What the cells of the elements come to. -/
theorem els_of {α : Type} (f : α → List Value) (G : α → Prop) : ∀ {els : List (List Value)}, (∀ e ∈ els, ∃ x, e = f x ∧ G x) → ∃ xs : List α, els.flatten = xs.flatMap f ∧ xs.length = els.length ∧ ∀ x ∈ xs, G x
  | [], _ => ⟨[], rfl, rfl, by simp⟩
  | e :: els, h => by
    obtain ⟨xs, h1, h2, h3⟩ := els_of f G (fun e' h' => h e' (List.mem_cons_of_mem _ h'))
    obtain ⟨x, rfl, hx⟩ := h e (by simp)
    refine ⟨x :: xs, by simp [h1], by simp [h2], ?_⟩
    intro y hy
    rcases List.mem_cons.1 hy with e | hy
    · exact e ▸ hx
    · exact h3 y hy
theorem flatMap_one {α : Type} (f : α → Value) : ∀ xs : List α, (xs.flatMap fun x => [f x]) = xs.map f
  | [] => rfl
  | x :: xs => by rw [List.flatMap_cons, flatMap_one f xs]; rfl
/-- What is known of an argument's cells. -/
def GInts (w : World) (cs : List Value) : Prop := ∃ (A : Option Addr) (n c : Nat) (xs : List Int), cs = [.slice A n c] ∧ IntsAt w (.slice A n c) xs ∧ xs.length = n ∧ ∀ x ∈ xs, WfI x
def GBools (w : World) (cs : List Value) : Prop := ∃ (A : Option Addr) (n c : Nat) (xs : List Bool), cs = [.slice A n c] ∧ BoolsAt w (.slice A n c) xs ∧ xs.length = n
def GPairs (w : World) (cs : List Value) : Prop := ∃ (A : Option Addr) (n c : Nat) (xs : List (Int × Int)), cs = [.slice A n c] ∧ CubesAt w (.slice A n c) xs ∧ xs.length = n ∧ ∀ x ∈ xs, WfI x.1 ∧ WfI x.2
section
variable {H : Type} {enc : TypeId × Value → H} {w : World} {base : Nat} {spare : Nat → Bool} {held : Bool}
theorem rd_int {n : Nat} {cs : List Value} {y : DataW H × List MemPlace} (h : DataW.trod enc Try.prog w base spare held n 3 cs = some y) : ∃ x, cs = [.int .i64 x] ∧ WfI x := by
  obtain ⟨x, e, _, hw⟩ := DataW.trod_int Try.underlying3 h
  exact ⟨x, e, wf_i hw⟩
theorem rd_bool {n : Nat} {cs : List Value} {y : DataW H × List MemPlace} (h : DataW.trod enc Try.prog w base spare held n 4 cs = some y) : ∃ x, cs = [.bool x] := by
  obtain ⟨x, e, _⟩ := DataW.trod_bool Try.underlying4 h
  exact ⟨x, e⟩
theorem rd_ints {n : Nat} {cs : List Value} {y : DataW H × List MemPlace} (h : DataW.trod enc Try.prog w base spare held n 23 cs = some y) : GInts w cs := by
  obtain ⟨A, n, c, els, rfl, hr, rfl, _, hg⟩ := slice_rd (size := 1) Try.underlying23 (by kernel_rfl) (by decide) (fun cs => ∃ x, cs = [.int .i64 x] ∧ WfI x) (fun _ _ _ _ h => rd_int h) h
  obtain ⟨xs, h1, h2, h3⟩ := els_of (fun x : Int => [Value.int .i64 x]) WfI hg
  rw [flatMap_one] at h1
  exact ⟨A, _, c, xs, rfl, by rw [h1, ← h2] at hr; rw [← h2]; exact hr, h2, h3⟩
theorem rd_bools {n : Nat} {cs : List Value} {y : DataW H × List MemPlace} (h : DataW.trod enc Try.prog w base spare held n 69 cs = some y) : GBools w cs := by
  obtain ⟨A, n, c, els, rfl, hr, rfl, _, hg⟩ := slice_rd (size := 1) Try.underlying69 (by kernel_rfl) (by decide) (fun cs => ∃ x, cs = [.bool x]) (fun _ _ _ _ h => rd_bool h) h
  obtain ⟨xs, h1, h2, _⟩ := els_of (fun x : Bool => [Value.bool x]) (fun _ => True) (fun e he => by obtain ⟨x, hx⟩ := hg e he; exact ⟨x, hx, trivial⟩)
  rw [flatMap_one] at h1
  exact ⟨A, _, c, xs, rfl, by rw [h1, ← h2] at hr; rw [← h2]; exact hr, h2⟩
theorem rd_pair {t : TypeId} {f0 f1 : Field} (hs : Try.prog.underlying t = some (.struct #[f0, f1])) (h0 : f0.type = 3) (h1 : f1.type = 3) (hone : oneCellFields Try.prog #[f0, f1] = true) (hC : Try.prog.cellsOf t = 2) {n : Nat} {cs : List Value} {y : DataW H × List MemPlace} (hl : cs.length = 2) (h : DataW.trod enc Try.prog w base spare held n t cs = some y) : ∃ x : Int × Int, cs = [.int .i64 x.1, .int .i64 x.2] ∧ WfI x.1 ∧ WfI x.2 := by
  match cs, hl with
  | [c0, c1], _ =>
    obtain ⟨xs, n, _, hx, _, hlen, hg⟩ := DataW.trod_struct hs h
    obtain ⟨o0, k0⟩ := hone_of hone 0 f0 rfl
    obtain ⟨o1, k1⟩ := hone_of hone 1 f1 rfl
    match xs, hlen with
    | [y0, y1], _ =>
      have g0 : DataW.trod enc Try.prog w base spare held n f0.type [c0] = some y0 := by simpa [Value.cells, o0, k0] using hg 0 f0 rfl
      have g1 : DataW.trod enc Try.prog w base spare held n f1.type [c1] = some y1 := by simpa [Value.cells, o1, k1] using hg 1 f1 rfl
      rw [h0] at g0
      rw [h1] at g1
      obtain ⟨a, e0, w0⟩ := rd_int g0
      obtain ⟨b, e1, w1⟩ := rd_int g1
      injection e0 with e0
      injection e1 with e1
      subst e0 e1
      exact ⟨(a, b), rfl, w0, w1⟩
theorem rd_pairs {t e : TypeId} {f0 f1 : Field} (ht : Try.prog.underlying t = some (.slice e)) (hs : Try.prog.underlying e = some (.struct #[f0, f1])) (h0 : f0.type = 3) (h1 : f1.type = 3) (hone : oneCellFields Try.prog #[f0, f1] = true) (hC : Try.prog.cellsOf e = 2) {n : Nat} {cs : List Value} {y : DataW H × List MemPlace} (h : DataW.trod enc Try.prog w base spare held n t cs = some y) : GPairs w cs := by
  obtain ⟨A, n, c, els, rfl, hr, rfl, _, hg⟩ := slice_rd (size := 2) ht hC (by decide) (fun cs => ∃ x : Int × Int, cs = [.int .i64 x.1, .int .i64 x.2] ∧ WfI x.1 ∧ WfI x.2) (fun _ _ _ hl h => rd_pair hs h0 h1 hone hC hl h) h
  obtain ⟨xs, g1, g2, g3⟩ := els_of (fun x : Int × Int => [Value.int .i64 x.1, Value.int .i64 x.2]) (fun x => WfI x.1 ∧ WfI x.2) hg
  exact ⟨A, _, c, xs, rfl, by rw [g1, ← g2] at hr; rw [← g2]; exact hr, g2, g3⟩
end
theorem slice_val {P : Program} {w : World} {r : Reach} {b0 : Nat} {t e : TypeId} {v : Value} (ht : P.underlying t = some (.slice e)) (hv : Value.okWide P w r b0 t v) : ∃ A n c, v = .slice A n c := by
  simp only [Value.okWide, ht, Cell.okWide] at hv
  cases v <;> simp_all [Cell.ok]
section
variable {H : Type} {enc : TypeId × Value → H} {w : World} {r : Reach} {b0 base : Nat} {spare : Nat → Bool} {held : Bool} {v : Value} {d : DataW H} {p : List MemPlace}
/-- Arguments: an int, a slice of ints, of booleans, of pairs of ints. -/
def AInt (_ : World) (v : Value) : Prop := ∃ x : Int, v = .int .i64 x ∧ WfI x
theorem open_aint (hv : Value.okWide Try.prog w r b0 3 v) (h : DataW.Trod enc Try.prog w base spare held 3 v d p) : AInt w v := by
  obtain ⟨x, rfl, rfl, rfl, hw⟩ := open_int Try.underlying3 hv h
  exact ⟨x, rfl, wf_i hw⟩
def AInts (w : World) (v : Value) : Prop := ∃ xs : List Int, IntsAt w v xs ∧ ∀ x ∈ xs, WfI x
theorem open_aints (hv : Value.okWide Try.prog w r b0 23 v) (h : DataW.Trod enc Try.prog w base spare held 23 v d p) : AInts w v := by
  obtain ⟨A, n, c, rfl⟩ := slice_val Try.underlying23 hv
  obtain ⟨m, hm⟩ := h
  obtain ⟨A', n', c', xs, e, h1, h2, h3⟩ := rd_ints hm
  simp [Value.cells] at e
  obtain ⟨rfl, rfl, rfl⟩ := e
  exact ⟨xs, h1, h3⟩
def ABools (w : World) (v : Value) : Prop := ∃ xs : List Bool, BoolsAt w v xs
theorem open_abools (hv : Value.okWide Try.prog w r b0 69 v) (h : DataW.Trod enc Try.prog w base spare held 69 v d p) : ABools w v := by
  obtain ⟨A, n, c, rfl⟩ := slice_val Try.underlying69 hv
  obtain ⟨m, hm⟩ := h
  obtain ⟨A', n', c', xs, e, h1, h2⟩ := rd_bools hm
  simp [Value.cells] at e
  obtain ⟨rfl, rfl, rfl⟩ := e
  exact ⟨xs, h1⟩
def APairs (w : World) (v : Value) : Prop := ∃ xs : List (Int × Int), CubesAt w v xs ∧ ∀ x ∈ xs, WfI x.1 ∧ WfI x.2
end
end Go.Proofs.Ytkkkjbinfdohpaa

namespace Go.Proofs.Ytkkkjbinfdohpaa
set_option maxRecDepth 100000
open Go.RowKit Go.Joins Go.ChangeShapes Go.WideShapes Go.ChangeAt Go.Deep
section
variable {H : Type} {enc : TypeId × Value → H} {w : World} {r : Reach} {b0 base : Nat} {spare : Nat → Bool} {held : Bool} {v : Value} {d : DataW H} {p : List MemPlace}
/-- A circuit, as an argument. -/
def ACirc (w : World) (v : Value) : Prop := ∃ c : Cz, CircAt w v c ∧ WfI c.ins ∧ (∀ x ∈ c.next, WfI x) ∧ (∀ x ∈ c.gates, WfI x.1 ∧ WfI x.2) ∧ (∀ x ∈ c.outs, WfI x)
end
theorem CircAt.shape {w : World} {v : Value} {c : Cz} (h : CircAt w v c) : ∃ An cn Ag cg Ao co, v = .agg #[.int .i64 c.ins, .slice An c.next.length cn, .slice Ag c.gates.length cg, .slice Ao c.outs.length co] := by
  obtain ⟨vn, vg, vo, rfl, r1, r2, r3⟩ := h
  obtain ⟨An, cn, rfl, -⟩ := Row.shape r1
  obtain ⟨Ag, cg, rfl, -⟩ := Row.shape r2
  obtain ⟨Ao, co, rfl, -⟩ := Row.shape r3
  exact ⟨An, cn, Ag, cg, Ao, co, rfl⟩
def TCirc (c : Cz) : Ty := fun w v => CircAt w v c
theorem stb_circ (c : Cz) : Stb (fun _ => False) (TCirc c) := fun _ _ _ h ho => h.below (only_below ho)
/-- A circuit in a box of the law's. -/
structure BoxC (w : World) (g : Nat) (c : Cz) (vn vg vo : Value) : Prop where
  pc : PCells w g c.ins vn vg vo
  at_ : CircAt w (.agg #[.int .i64 c.ins, vn, vg, vo]) c
theorem BoxC.below {w w' : World} {g : Nat} {c : Cz} {vn vg vo : Value} (h : BoxC w g c vn vg vo) (hb : Below w.heap.size w w') : BoxC w' g c vn vg vo := ⟨h.pc.below hb, h.at_.below hb⟩
theorem BoxC.made {w : World} {c : Cz} {vn vg vo : Value} (t : TypeId) (h : CircAt w (.agg #[.int .i64 c.ins, vn, vg, vo]) c) : BoxC (w.alloc (.cells #[.int .i64 c.ins, vn, vg, vo] t)) w.heap.size c vn vg vo :=
  ⟨PCells.boxed _ _ _ _ _ _, h.below ((Below.refl _ _).alloc (Nat.le_refl _) _)⟩
end Go.Proofs.Ytkkkjbinfdohpaa

namespace Go.Proofs.Ytkkkjbinfdohpaa
open Go.RowKit
set_option maxRecDepth 100000
/-! The states behind a clock cycle, by the program. -/
namespace Cir
def reachJ (c : Ci) (o s j y : Nat) : Bool := (List.range j).any fun x => !bad c o s x && nextOf c s x == y
def goodJ (c : Ci) (o s j : Nat) : Bool := (List.range j).all fun x => !bad c o s x
theorem reachJ_succ (c : Ci) (o s j y : Nat) : reachJ c o s (j + 1) y = (reachJ c o s j y || (!bad c o s j && nextOf c s j == y)) := by
  unfold reachJ; rw [List.range_succ, List.any_append]; simp
theorem goodJ_succ (c : Ci) (o s j : Nat) : goodJ c o s (j + 1) = (goodJ c o s j && !bad c o s j) := by
  unfold goodJ; rw [List.range_succ, List.all_append]; simp
/-- What has been done of a set. -/
def done (S L : Nat → Bool) (s : Nat) : Bool := S s && !L s
theorem done_self (S : Nat → Bool) (s : Nat) : done S S s = false := by unfold done; cases S s <;> rfl
theorem done_strike {S L : Nat → Bool} {x : Nat} (hS : S x = true) (s : Nat) : done S (fun z => L z && !(z == x)) s = (done S L s || s == x) := by
  unfold done
  by_cases e : s = x
  · subst e; rw [hS]; simp
  · have : (s == x) = false := by simpa using e
    show (S s && !(L s && !(s == x))) = _
    rw [this]; cases S s <;> cases L s <;> rfl
theorem adv_congr {c : Ci} {o : Nat} {S S' : Nat → Bool} (h : ∀ s, S s = S' s) (y : Nat) : adv c o S y = adv c o S' y := by
  have : S = S' := funext h
  rw [this]
theorem good_congr {c : Ci} {o : Nat} {S S' : Nat → Bool} (h : ∀ s, S s = S' s) : good c o S = good c o S' := by
  have : S = S' := funext h
  rw [this]
theorem adv_none (c : Ci) (o : Nat) (y : Nat) : adv c o (fun _ => false) y = false := by
  unfold adv; simp
theorem good_none (c : Ci) (o : Nat) : good c o (fun _ => false) = true := by
  unfold good; simp
theorem adv_add {c : Ci} {o : Nat} {D : Nat → Bool} {x : Nat} (hx : x < 8) (y : Nat) : adv c o (fun s => D s || s == x) y = (adv c o D y || reachJ c o x (2 ^ c.ins) y) := by
  rw [Bool.eq_iff_iff, Bool.or_eq_true]
  unfold adv reachJ reaches
  simp only [List.any_eq_true, List.mem_range, Bool.and_eq_true, Bool.or_eq_true, beq_iff_eq]
  constructor
  · rintro ⟨s, hs, h1 | rfl, h2⟩
    · exact .inl ⟨s, hs, h1, h2⟩
    · exact .inr h2
  · rintro (⟨s, hs, h1, h2⟩ | h)
    · exact ⟨s, hs, .inl h1, h2⟩
    · exact ⟨x, hx, .inr rfl, h⟩
theorem good_add {c : Ci} {o : Nat} {D : Nat → Bool} {x : Nat} (hx : x < 8) : good c o (fun s => D s || s == x) = (good c o D && goodJ c o x (2 ^ c.ins)) := by
  rw [Bool.eq_iff_iff, Bool.and_eq_true]
  unfold good goodJ goodS
  simp only [List.all_eq_true, List.mem_range, Bool.or_eq_true, Bool.not_eq_true', beq_iff_eq]
  constructor
  · intro h
    refine ⟨fun s hs => ?_, fun y hy => ?_⟩
    · rcases h s hs with h1 | h1
      · left; rw [Bool.or_eq_false_iff] at h1; exact h1.1
      · exact .inr h1
    · rcases h x hx with h1 | h1
      · rw [Bool.or_eq_false_iff] at h1; simp at h1
      · exact h1 y hy
  · rintro ⟨h1, h2⟩ s hs
    by_cases e : s = x
    · subst e; exact .inr h2
    · rcases h1 s hs with h3 | h3
      · left; rw [h3]; simpa using e
      · exact .inr h3
theorem filter_strike : ∀ (l : List Nat) (L : Nat → Bool) (x : Nat), x ∈ l → L x = true → (l.filter (fun z => L z && !(z == x))).length + 1 ≤ (l.filter L).length
  | [], _, _, h, _ => by simp at h
  | a :: l, L, x, h, hL => by
    have mono : ∀ l : List Nat, (l.filter (fun z => L z && !(z == x))).length ≤ (l.filter L).length := fun l => by
      induction l with
      | nil => simp
      | cons b l ih =>
        simp only [List.filter_cons]
        cases hb : L b <;> cases hx : (b == x) <;> simp <;> omega
    by_cases e : a = x
    · subst e
      have h1 := mono l
      simp only [List.filter_cons, hL]
      simp
      omega
    · have h2 : x ∈ l := by
        rcases List.mem_cons.1 h with h3 | h3
        · exact absurd h3.symm e
        · exact h3
      have h1 := filter_strike l L x h2 hL
      have e' : (a == x) = false := by simpa using e
      simp only [List.filter_cons, e']
      cases hb : L a <;> simp <;> omega
def cntL (L : Nat → Bool) : Nat := ((List.range 8).filter L).length
theorem cntL_le (L : Nat → Bool) : cntL L ≤ 8 := by
  unfold cntL
  have := List.length_filter_le L (List.range 8)
  simpa using this
theorem cntL_strike {L : Nat → Bool} {x : Nat} (hx : x < 8) (hL : L x = true) : cntL (fun z => L z && !(z == x)) + 1 ≤ cntL L := filter_strike _ L x (List.mem_range.2 hx) hL
end Cir
def Adv (d : Ci) (o : Nat) (S : Nat → Bool) (w : World) (e : Ending) (w' : World) : Prop := ∃ mb n', e = .returned (.tuple #[.map (some mb), .bool (Cir.good d o S)]) ∧ SetAt w' mb n' (Cir.adv d o S) ∧ n' ≤ 200 ∧ Below w.heap.size w w'
set_option maxHeartbeats 8000000 in
theorem advance_any (g b n : Nat) (d : Ci) (o : Nat) (S : Nat → Bool) (w : World) (h : PCirc w g (Cir.toCz d)) (hd : Cir.Ok d) (ho : o < d.outs.length) (hS : SetAt w b n S) (hS8 : ∀ x, S x = true → x < 8) :
    Calls Try.prog 61 #[.pointer (some ⟨g, 0, none⟩), .int .i64 o, .map (some b)] w (Adv d o S w) := by
  have l1 := hd.ins
  have l2 := hd.nexts
  have l4 := hd.outss
  have HP := Lib.hid h
  obtain ⟨vn, vg, vo, hg, c0, c1, c2, c3, r1, r2, r3⟩ := h
  have C0 : Hid (w.cell? ⟨g, 0, none⟩ = some (.int .i64 d.ins)) := Lib.hid c0
  have Hd := Lib.hid hd
  have Ho := Lib.hid ho
  have HS8 := Lib.hid hS8
  have hbl := hS.lt
  have ho3 : o ≤ 3 := by omega
  obtain ⟨M, e, hM⟩ : ∃ M : Nat, (2 : Int) ^ d.ins = (M : Int) ∧ M = 2 ^ d.ins := ⟨2 ^ d.ins, two_pow d.ins, rfl⟩
  have hM16 : M ≤ 16 := by rw [hM]; exact Nat.pow_le_pow_right (show 0 < 2 by decide) l1
  have hwM := IntWalk.i64_in (M : Int) (by omega)
  have HM := Lib.hid hM
  have hmm := @run_makeMap Try.prog
  have HSm := Lib.hid (hS.below (bel_new w (.map #[] 0)))
  have HA0 := Lib.hid (setAt_made w)
  have hs1 : (w.alloc (.map #[] 0)).heap.size = w.heap.size + 1 := by simp
  have Bm := Lib.hid (bel_new w (.map #[] 0))
  clear r1 r2 r3 hd ho hS8 hM c0 c1 c2 c3 hS
  go_enter Try.func61, Try.ntmps61
  go_wp2_with (first
    | (at_range; refine wpList_range_set rfl (.tmp 15) rfl b n S rfl HSm.out ?_; intro w2 cnt hr2 hb2 hz2; have Hr2 := Lib.hid hr2; have Hb2 := Lib.hid hb2; clear hr2 hb2; refine Stop.out ?_))
  refine ⟨?_⟩
  rw [hs1] at hz2
  have Hr2 : Hid (RSet w2 b (w.heap.size + 1) n S S cnt) := Lib.hid (by have := Hr2.out; rwa [hs1] at this)
  have HA2 := Lib.hid (HA0.out.below Hb2.out)
  have B2 := Lib.hid (Bm.out.trans (Hb2.out.mono Bm.out.size))
  clear HA0 Bm Hb2 hs1 HSm hmm
  have HAd : Hid (SetAt w2 w.heap.size 0 (Cir.adv d o (Cir.done S S))) := Lib.hid (HA2.out.congr fun y => by rw [Cir.adv_congr (Cir.done_self S) y, Cir.adv_none])
  have HGd : Hid (Cir.good d o (Cir.done S S) = true) := Lib.hid (by rw [Cir.good_congr (Cir.done_self S), Cir.good_none])
  clear HA2
  go_wp2_with fail
  go_loopw [9] (fun gv wr => ∃ (L : Nat → Bool) (cnt m : Nat), gv = .bool (Cir.good d o (Cir.done S L)) ∧ Hid (RSet wr b (w.heap.size + 1) n S L cnt) ∧ Hid (SetAt wr w.heap.size m (Cir.adv d o (Cir.done S L))) ∧ m + 16 * Cir.cntL L ≤ 128 ∧ w.heap.size + 2 ≤ wr.heap.size ∧ Below w.heap.size w wr) (fun _ wr => wr.rangeLeft b (w.heap.size + 1))
  case atStart => exact ⟨S, cnt, 0, by rw [HGd.out], Hr2, HAd, by have := Cir.cntL_le S; omega, by omega, B2.out⟩
  case round =>
    obtain ⟨L, cn, m, rfl, HR, HA, hm, hzr, hb⟩ := hrel
    clear Hr2 HAd HGd B2 hz2
    have Hb := Lib.hid hb
    have hzb := hb.size
    clear hb
    go_wp2_with (first
      | (at_next; refine wpList_next_set rfl (.tmp 16) rfl b (w.heap.size + 1) n S L cn rfl HR.out (fun hdone => ?_) (fun x cv w3 cn3 hxS hxL hr3 hlt3 hg3 hz3 hen3 => ?_) <;> refine Stop.out ?_))
    · refine ⟨?_⟩
      have HAf : Hid (SetAt wr w.heap.size m (Cir.adv d o S)) := Lib.hid (HA.out.congr fun y => Cir.adv_congr (fun s => by unfold Cir.done; rw [hdone s]; simp) y)
      have HGf : Hid (Cir.good d o (Cir.done S L) = Cir.good d o S) := Lib.hid (Cir.good_congr fun s => by unfold Cir.done; rw [hdone s]; simp)
      clear hdone HA
      generalize Cir.good d o (Cir.done S L) = gb at *
      go_wp2_with fail
      exact bodyPost_ret (v := .tuple #[.map (some w.heap.size), .bool gb]) (by simp [results, Try.results61, go_sem]) rfl ⟨_, m, by rw [HGf.out], HAf.out, by omega, Hb.out⟩
    · refine ⟨?_⟩
      have hx8 := HS8.out x hxS
      have hcs := Cir.cntL_strike hx8 hxL
      have Hr3 := Lib.hid hr3
      have HlO := Lib.hid HR.out.left
      have Hb3 := Lib.hid (Hb.out.grown hg3 hzb (fun q hq => by have := Option.some.inj hq; omega))
      have HA3 := Lib.hid (HA.out.only (Only.grown (E := fun k => k = w.heap.size + 1) hg3 (fun k hk => (Option.some.inj hk).symm)) (fun e => by omega))
      have q0 := (Hb3.out.cell (p := ⟨g, 0, none⟩) hg).trans C0.out
      have HaddA : Hid (∀ y, Cir.adv d o (Cir.done S (fun z => L z && !(z == x))) y = (Cir.adv d o (Cir.done S L) y || Cir.reachJ d o x (2 ^ d.ins) y)) := Lib.hid (fun y => by rw [Cir.adv_congr (Cir.done_strike hxS) y, Cir.adv_add hx8])
      have HaddG : Hid (Cir.good d o (Cir.done S (fun z => L z && !(z == x))) = (Cir.good d o (Cir.done S L) && Cir.goodJ d o x (2 ^ d.ins))) := Lib.hid (by rw [Cir.good_congr (Cir.done_strike hxS), Cir.good_add hx8])
      have HG0 : Hid ((Cir.good d o (Cir.done S L) && Cir.goodJ d o x 0) = Cir.good d o (Cir.done S L)) := Lib.hid (by unfold Cir.goodJ; simp)
      have HA30 : Hid (SetAt w3 w.heap.size m (fun y => Cir.adv d o (Cir.done S L) y || Cir.reachJ d o x 0 y)) := Lib.hid (HA3.out.congr fun y => by unfold Cir.reachJ; simp)
      obtain ⟨G, hG⟩ : ∃ G, Cir.good d o (Cir.done S L) = G := ⟨_, rfl⟩
      obtain ⟨A, hA⟩ : ∃ A, Cir.adv d o (Cir.done S L) = A := ⟨_, rfl⟩
      rw [hG] at HaddG HG0 ⊢
      rw [hA] at HaddA HA30
      have Hlt3 := Lib.hid hlt3
      clear HR HA HA3 hg3 hr3 hG hA hxS hxL hlt3
      go_wp2_with fail
      clear q0 hen3
      obtain ⟨Wk, hWk⟩ : ∃ Wk, Wk = wr := ⟨_, rfl⟩
      subst hWk
      go_loopw [9, 26] (fun gv i wr => ∃ (j q : Nat), gv = .bool (G && Cir.goodJ d o x j) ∧ i = .int .i64 j ∧ j ≤ M ∧ Hid (RSet wr b (w.heap.size + 1) n S (fun z => L z && !(z == x)) cn3) ∧ Hid (SetAt wr w.heap.size q (fun y => A y || Cir.reachJ d o x j y)) ∧ q ≤ m + j ∧ w.heap.size + 2 ≤ wr.heap.size ∧ Below w.heap.size w wr) (fun _ i _ => M - (intOf i).toNat)
      case atStart => exact ⟨0, m, by rw [HG0.out], rfl, Nat.zero_le _, Hr3, HA30, by omega, by omega, Hb3.out⟩
      case round =>
        obtain ⟨j, q, rfl, rfl, hj, HR, HA, hq, hzr, hb⟩ := hrel
        have Hb := Lib.hid hb
        have hzb := hb.size
        clear hb
        by_cases hlj : j < M
        · have HRs := Lib.hid (Cir.reachJ_succ d o x j)
          have HGs := Lib.hid (Cir.goodJ_succ d o x j)
          have hN8 := Cir.next_lt8 Hd.out x j
          go_wp2_with fail
          refine (cycle_any g d x j _ (HP.out.below Hb.out) Hd.out (by omega) (by omega)).mono ?_
          rintro e w5 ⟨rfl, hb5⟩
          have HR5 := Lib.hid (HR.out.below hb5)
          have HA5 := Lib.hid (HA.out.below hb5)
          have Hb5 := Lib.hid (Hb.out.trans (hb5.mono hzb))
          have hz5 := hb5.size
          have hnb := num_bit (Cir.outsOf d x j) o
          have hnl := Cir.num_lt (Cir.outsOf d x j)
          rw [outsOf_length] at hnl
          have hn8 : 2 ^ d.outs.length ≤ 2 ^ 3 := Nat.pow_le_pow_right (show 0 < 2 by decide) l4
          have hN : Cir.num (Cir.outsOf d x j) ≤ 1000000 := by omega
          have hB : (Cir.outsOf d x j).getD o false = Cir.bad d o x j := rfl
          rw [hB] at hnb
          clear hn8 hnl hB hb5 HR HA
          generalize Cir.num (Cir.outsOf d x j) = y at *
          obtain ⟨bb, hbb⟩ : ∃ bb, Cir.bad d o x j = bb := ⟨_, rfl⟩
          obtain ⟨N, hNN⟩ : ∃ N, Cir.nextOf d x j = N := ⟨_, rfl⟩
          have HRs2 : Hid (∀ z, Cir.reachJ d o x (j + 1) z = (Cir.reachJ d o x j z || (!bb && N == z))) := Lib.hid (fun z => by rw [HRs.out z, hbb, hNN])
          have HGs2 : Hid (Cir.goodJ d o x (j + 1) = (Cir.goodJ d o x j && !bb)) := Lib.hid (by rw [HGs.out, hbb])
          rw [hbb] at hnb
          rw [hNN] at hN8 ⊢
          have hq2 : (y : Int) / 2 ^ o = ((y / 2 ^ o : Nat) : Int) := by rw [Int.natCast_ediv, two_pow]
          have hy : y / 2 ^ o ≤ 1000000 := Nat.le_trans (Nat.div_le_self _ _) hN
          have hm2 : bits .and .i64 ((y / 2 ^ o : Nat) : Int) 1 = ((y / 2 ^ o % 2 : Nat) : Int) := by
            have := i64_and_nat (y / 2 ^ o) 1 (by omega) (by omega)
            rw [Nat.and_one_is_mod] at this
            exact this
          have he : (((y / 2 ^ o % 2 : Nat) : Int) == 1) = bb := by
            rw [← hnb, Nat.testBit_eq_decide_div_mod_eq, Bool.eq_iff_iff, beq_iff_eq, decide_eq_true_iff]
            omega
          generalize y / 2 ^ o = y' at hq2 hm2 he hy
          have hr2 : y' % 2 < 2 := Nat.mod_lt _ (by decide)
          generalize y' % 2 = r at hm2 he hr2
          clear hnb hbb hNN HRs HGs
          generalize Cir.goodJ d o x j = gj at *
          cases bb
          · obtain rfl : r = 0 := by
              have : ¬ r = 1 := fun e1 => by subst e1; simp at he
              omega
            clear he hr2
            go_wp2_with (first
              | (at_mapUpdate; refine wpList_add_set _ rfl (.tmp 41) (.tmp 42) _ (.inl rfl) _ _ _ rfl HA5.out (by omega) N (by omega) rfl rfl ?_; intro w6 hset6 hg6; have Hset6 := Lib.hid hset6; have Hg6 := Lib.hid hg6; clear hset6 hg6))
            go_roundw
            case rel => exact ⟨j + 1, q + 1, by rw [HGs2.out]; simp, by go_num, by omega, Lib.hid (HR5.out.kept Hg6.out (fun e => by have h1 := HR5.out.lt.2.1; have := Option.some.inj e; omega) (fun e => by have := Option.some.inj e; omega)), Lib.hid (Hset6.out.congr fun z => by rw [HRs2.out z]; cases A z <;> cases Cir.reachJ d o x j z <;> simp [Bool.beq_comm]), by omega, Nat.le_trans (by omega) Hg6.out.size, Hb5.out.grown Hg6.out Hb5.out.size (fun k hk => by have := Option.some.inj hk; omega)⟩
            case measure => simp [intOf] <;> omega
          · obtain rfl : r = 1 := by
              have := eq_of_beq he
              omega
            clear he hr2
            go_wp2_with fail
            go_roundw
            case rel => exact ⟨j + 1, q, by rw [HGs2.out]; simp, by go_num, by omega, HR5, Lib.hid (HA5.out.congr fun z => by rw [HRs2.out z]; simp), by omega, by omega, Hb5.out⟩
            case measure => simp [intOf] <;> omega
        · obtain rfl : j = M := by omega
          have HAe : Hid (SetAt wr w.heap.size q (Cir.adv d o (Cir.done S (fun z => L z && !(z == x))))) := Lib.hid (HA.out.congr fun y => by rw [HaddA.out y, HM.out])
          have HGe : Hid ((G && Cir.goodJ d o x j) = Cir.good d o (Cir.done S (fun z => L z && !(z == x)))) := Lib.hid (by rw [HaddG.out, HM.out])
          rw [HGe.out]
          go_wp2_with fail
          go_roundw
          case rel => exact ⟨_, cn3, q, rfl, HR, HAe, by omega, by omega, Hb.out⟩
          case measure => rw [HR.out.left, HlO.out]; exact Hlt3.out
end Go.Proofs.Ytkkkjbinfdohpaa

namespace Go.Proofs.Ytkkkjbinfdohpaa
open Go.RowKit
set_option maxRecDepth 100000
/-! What laws do with slices of slices of booleans. -/
theorem info_boolss : (Try.prog.info? 69).map (fun i => (i.zero, i.size, i.bytes)) = some (some (.slice none 0 0), 1, 24) := by kernel_rfl
def OwnBoolSS (B T : Nat) (w : World) (v : Value) (xss : List (List Bool)) : Prop := OwnSS bools 69 4 B T w v xss
theorem take_eq_getB {α : Type} {xs ys : List α} {k : Nat} {x : α} (h : xs.take k = ys.take k) (hx : xs[k]? = some x) (hy : ys[k]? = some x) : xs.take (k + 1) = ys.take (k + 1) := by
  rw [take_snoc hx, take_snoc hy, h]
end Go.Proofs.Ytkkkjbinfdohpaa

namespace Go.Proofs.Ytkkkjbinfdohpaa
open Go.RowKit
set_option maxRecDepth 100000
/-! The search of FindViolation. -/
def Searched (ins : Nat) (r : Option (List Nat)) (w : World) (e : Ending) (w' : World) : Prop :=
  match r with
  | none => e = .returned (.tuple #[.slice none 0 0, .bool false]) ∧ Below w.heap.size w w'
  | some p => ∃ v, e = .returned (.tuple #[v, .bool true]) ∧ OwnBoolSS w.heap.size w'.heap.size w' v (rowsOf ins p) ∧ Below w.heap.size w w'
theorem SSIn.one {F : Nat → Prop} {w : World} {xss : List (List Bool)} {vs : List Value} (h1 : vs.length = xss.length) (h3 : ∀ (i : Nat) (x : List Bool) (u : Value), xss[i]? = some x → vs[i]? = some u → RowIn F w 1 u x.length (bools x)) : ∀ u ∈ vs, u.oneCell' = true := fun u hu => by
  obtain ⟨i, hi, rfl⟩ := List.mem_iff_getElem.1 hu
  obtain ⟨_, A, c, hv, -⟩ := (h3 i _ _ (List.getElem?_eq_getElem (by omega)) (List.getElem?_eq_getElem hi)).1
  rw [hv]; rfl
set_option maxHeartbeats 16000000 in
theorem searchV_any (g go : Nat) (d : Ci) (o : Nat) (w : World) (h : PCirc w g (Cir.toCz d)) (hgo : w.cell? ⟨go, 0, none⟩ = some (.int .i64 o)) (hlt : go < w.heap.size) (hd : Cir.Ok d) (ho : o < d.outs.length) :
    Calls Try.prog 92 #[.int .i64 d.ins, .int .i64 0, .func (.func 93) #[] #[.pointer (some ⟨g, 0, none⟩), .pointer (some ⟨go, 0, none⟩)]] w (Searched d.ins (Cir.viol d o) w) := by
  have l1 := hd.ins
  have l2 := hd.nexts
  have HP := Lib.hid h
  have Hgo := Lib.hid hgo
  have Hd := Lib.hid hd
  have Ho := Lib.hid ho
  obtain ⟨M, e, hM⟩ : ∃ M : Nat, (2 : Int) ^ d.ins = (M : Int) ∧ M = 2 ^ d.ins := ⟨2 ^ d.ins, two_pow d.ins, rfl⟩
  have hM16 : M ≤ 16 := by rw [hM]; exact Nat.pow_le_pow_right (show 0 < 2 by decide) l1
  have hwM := IntWalk.i64_in (M : Int) (by omega)
  have HM := Lib.hid hM
  have hmm := @run_makeMap Try.prog
  have hwins := IntWalk.i64_in (d.ins : Int) (by omega)
  clear h hgo hd ho hM
  have Hset0 : Hid (SetAt (((w.alloc (.cells #[.int .i64 0] 3)).alloc (.cells #[.slice none 0 0] 88)).alloc (.map #[] 0)) (w.heap.size + 1 + 1) 0 (fun _ => false)) := Lib.hid (by have := setAt_made ((w.alloc (.cells #[.int .i64 0] 3)).alloc (.cells #[.slice none 0 0] 88)); rwa [World.size_alloc, World.size_alloc] at this)
  have Hq0 : Hid ((((w.alloc (.cells #[.int .i64 0] 3)).alloc (.cells #[.slice none 0 0] 88)).alloc (.map #[] 0)).ownsRow w.heap.size 3 1 (.slice (some ⟨w.heap.size, 0, none⟩) 1 1) 1 [.int .i64 0]) := Lib.hid (((World.ownsRow_lit (base := w.heap.size) (e := 3) (size := 1) w #[.int .i64 0] 1 (Nat.le_refl _) (by unfold maxLen; omega) rfl).alloc _).alloc _)
  have Hp0 : Hid ((((w.alloc (.cells #[.int .i64 0] 3)).alloc (.cells #[.slice none 0 0] 88)).alloc (.map #[] 0)).ownsRow w.heap.size 88 1 (.slice (some ⟨w.heap.size + 1, 0, none⟩) 1 1) 1 [.slice none 0 0]) := Lib.hid (by
    have := (World.ownsRow_lit (base := w.heap.size) (e := 88) (size := 1) (w.alloc (.cells #[.int .i64 0] 3)) #[.slice none 0 0] 1 (by simp) (by unfold maxLen; omega) rfl).alloc (.map #[] 0)
    rwa [World.size_alloc] at this)
  have hsz : (((w.alloc (.cells #[.int .i64 0] 3)).alloc (.cells #[.slice none 0 0] 88)).alloc (.map #[] 0)).heap.size = w.heap.size + 3 := by simp
  have Bm : Hid (Below w.heap.size w (((w.alloc (.cells #[.int .i64 0] 3)).alloc (.cells #[.slice none 0 0] 88)).alloc (.map #[] 0))) := Lib.hid ((((Below.refl _ _).alloc (Nat.le_refl _) _).alloc (by simp) _).alloc (by simp; omega) _)
  go_enter Try.func92, Try.ntmps92
  go_wp2_with (with_reducible refine wpList_add_set _ rfl (.tmp 22) _ _ (.inr rfl) _ _ _ rfl Hset0.out (by omega) 0 (by omega) rfl rfl ?_; intro w2 hset2 hg2)
  have HV0 : Hid (VB w.heap.size (w.heap.size + 1 + 1) d.ins 1 [(0, [])] (.slice (some ⟨w.heap.size, 0, none⟩) 1 1) (.slice (some ⟨w.heap.size + 1, 0, none⟩) 1 1) [.slice none 0 0] (fun _ => False) w2) := Lib.hid (by
    have hz2 := hg2.size
    refine ⟨own_kept Hq0.out hg2 (fun g h1 h2 => ?_), own_kept Hp0.out hg2 (fun g h1 h2 => ?_), hset2.congr (fun x => by rw [show Cir.vsts [(0, [])] = [0] from rfl, Cir.memB_zero, Bool.false_or]), fun i s x u h1 h2 => ?_, fun g hg => hg.elim, fun g h1 h2 => ?_, ?_, ?_⟩
    · have := Option.some.inj h1; have := Option.some.inj h2; simp only at *; omega
    · have := Option.some.inj h1; have := Option.some.inj h2; simp only at *; omega
    · cases i with
      | zero =>
        obtain ⟨rfl, rfl⟩ := Prod.mk.inj (Option.some.inj h1)
        obtain rfl := Option.some.inj h2
        exact SSIn.nil _ _ _
      | succ i => simp at h1
    · have := Option.some.inj h1; have := Option.some.inj h2; simp only at *; omega
    · intro h1; have := Option.some.inj h1; simp only at *; omega
    · intro h1; have := Option.some.inj h1; simp only at *; omega)
  have B2 := Lib.hid (Bm.out.grown hg2 Bm.out.size (fun q hq => by have := Option.some.inj hq; omega))
  have z2 := hg2.size
  rw [hsz] at z2
  clear hset2 hg2 Hset0 Hq0 Hp0 Bm hmm hsz
  have hR0 : Hid (Cir.viol d o = Cir.vbfs d o (9 - 0) 0 [(0, [])]) := Lib.hid rfl
  generalize Cir.viol d o = res at *
  go_wp2_with fail
  go_loopw [8, 9, 11] (fun vq vp i wr => ∃ (q p : Value) (k m : Nat) (l : List (Nat × List Nat)) (pv : List Value) (F : Nat → Prop), q = vq ∧ p = vp ∧ i = .int .i64 k ∧ k ≤ l.length ∧ 1 ≤ l.length ∧ l.length ≤ 8 ∧ m ≤ 1 + k * 16 ∧ Hid (Cir.Vs d l) ∧ Hid (res = Cir.vbfs d o (9 - k) k l) ∧ Hid (VB w.heap.size (w.heap.size + 1 + 1) d.ins m l vq vp pv F wr) ∧ Below w.heap.size w wr) (fun _ _ i _ => 8 - (intOf i).toNat)
  case atStart => exact ⟨_, _, 0, 1, [(0, [])], _, _, rfl, rfl, rfl, by simp, by simp, by simp, by omega, Lib.hid (Cir.Vs.zero d), hR0, HV0, B2.out⟩
  case round =>
    obtain ⟨vq, vp, k, m, l, pv, F, hq, hp, rfl, hk, hpos, hl8, hm16, Hvs, hres, HV, hb⟩ := hrel
    subst hq hp
    clear HV0 B2 hR0
    have Hb := Lib.hid hb
    have hzb := hb.size
    clear hb
    by_cases hlt2 : k < l.length
    · obtain ⟨⟨s, p⟩, hs⟩ := at_some hlt2
      have Hgs := Lib.hid hs
      have hf : 9 - k = 9 - (k + 1) + 1 := by omega
      rw [hf] at hres
      have hdl : decide (k < l.length) = true := decide_eq_true hlt2
      obtain ⟨gq, cq, hvq, hgq, hgq2, hcq, hcqm⟩ := own_open HV.out.q (by omega)
      subst hvq
      unfold maxLen at hcqm
      clear hs hf
      go_wp2_with fail
      obtain ⟨Wk, hWk⟩ : ∃ Wk, Wk = wr := ⟨_, rfl⟩
      subst hWk
      go_loopw [8, 9, 33] (fun vq2 vp2 i2 wr2 => ∃ (q2 p2 : Value) (j m2 : Nat) (pv2 : List Value) (F2 : Nat → Prop), q2 = vq2 ∧ p2 = vp2 ∧ i2 = .int .i64 j ∧ j ≤ M ∧ m2 ≤ m + j ∧ Hid (∀ y, y < j → Cir.bad d o s y = false) ∧ Hid (VB w.heap.size (w.heap.size + 1 + 1) d.ins m2 (Cir.vpushes d s p j l) vq2 vp2 pv2 F2 wr2) ∧ Below w.heap.size w wr2) (fun _ _ i _ => M - (intOf i).toNat)
      case atStart => exact ⟨_, _, 0, m, pv, F, rfl, rfl, rfl, Nat.zero_le _, by omega, Lib.hid (fun y hy => by omega), HV, Hb.out⟩
      case round =>
        obtain ⟨q2, p2, j, m2, pv2, F2, hq2, hp2, rfl, hj, hm2, Hnb, HV2, hb2⟩ := hrel
        subst hq2 hp2
        have Hb2 := Lib.hid hb2
        have hzb2 := hb2.size
        clear HV hb2
        have Hvs2 := Lib.hid (Hvs.out.pushes Hgs.out j (by rw [← HM.out]; exact hj))
        have hL8 := Hvs2.out.size Hd.out
        have Hgj := Lib.hid (Cir.vpushes_get (c := d) (s := s) (p := p) (j := j) Hgs.out)
        have Hsu := Lib.hid (Cir.vpushes_succ d s p j l)
        have hkL := (List.getElem?_eq_some_iff.1 Hgj.out).1
        by_cases hlj : j < M
        · obtain ⟨L2, hL2⟩ : ∃ L2, Cir.vpushes d s p (j + 1) l = L2 := ⟨_, rfl⟩
          rw [hL2] at Hsu
          have HL2 := Lib.hid hL2
          clear hL2
          generalize Cir.vpushes d s p j l = L at *
          obtain ⟨gq, cq, hvq, hgq, hgq2, hcq, hcqm⟩ := own_open HV2.out.q (by omega)
          subst hvq
          obtain ⟨gp, cp, hvp, hgp, hgp2, hcp, hcpm⟩ := own_open HV2.out.p (by omega)
          subst hvp
          unfold maxLen at hcqm hcpm
          obtain ⟨u0, hu0, hd0, hf0⟩ := own_slot HV2.out.q (j := k) (by omega)
          have hu0' : u0 = .int .i64 (s : Int) := by
            have h1 := Cir.vsts_get Hgj.out
            have h2 : (nints (Cir.vsts L))[k]? = some (.int .i64 (s : Int)) := by unfold nints ints nats; rw [List.map_map, List.getElem?_map, h1]; rfl
            exact Option.some.inj (hu0.symm.trans h2)
          subst hu0'
          obtain ⟨u1, hu1, hd1, hf1⟩ := own_slot HV2.out.p (j := k) (by omega)
          have HS := Lib.hid (HV2.out.r k s p u1 Hgj.out hu1)
          have hs8 : s < 8 := by
            have h1 := Hvs2.out.sts.lt s (List.mem_of_getElem? (Cir.vsts_get Hgj.out))
            have h2 : 2 ^ d.next.length ≤ 2 ^ 3 := Nat.pow_le_pow_right (show 0 < 2 by decide) l2
            omega
          have hN8 : Cir.nextOf d s j < 8 := by
            have h1 := Cir.nextOf_lt d s j
            have h2 : 2 ^ d.next.length ≤ 2 ^ 3 := Nat.pow_le_pow_right (show 0 < 2 by decide) l2
            omega
          have hp8 := Hvs2.out.len k s p Hgj.out
          clear hu0 hu1 hf0 hf1
          go_wp2_with fail
          refine (viClo_any g go d o s j _ (HP.out.below Hb2.out) ((Hb2.out.cell (p := ⟨go, 0, none⟩) hlt).trans Hgo.out) (Nat.lt_of_lt_of_le hlt hzb2) Hd.out (by omega) (by omega) Ho.out).mono ?_
          rintro e w5 ⟨rfl, hb5⟩
          have HV5 := Lib.hid (HV2.out.below hb5)
          have HS5 := Lib.hid (HS.out.below hb5)
          have Hb5 := Lib.hid (Hb2.out.trans (hb5.mono hzb2))
          have hz5 := hb5.size
          have c5 := (hb5.cell (p := ⟨gp, k, none⟩) hgp2).trans hd1
          obtain ⟨Ap, np, hvu, hcu, hcum⟩ := HS5.out.at.shape
          subst hvu
          rw [rowsOf_length] at hcu
          unfold maxLen at hcum
          obtain ⟨vs5, hvl5, hrow5, hel5⟩ := HS5.out
          rw [rowsOf_length] at hvl5
          have One5 := Lib.hid (SSIn.one (by rw [rowsOf_length]; exact hvl5) hel5)
          have Row5 : Hid (Row w5 1 (.slice Ap (rowsOf d.ins p).length np) p.length vs5) := Lib.hid (by have := hrow5.1; rwa [rowsOf_length] at this ⊢)
          have Hrow5 := Lib.hid hrow5
          have Hel5 := Lib.hid hel5
          clear hrow5 hel5
          obtain ⟨N, hNe⟩ : ∃ N, Cir.nextOf d s j = N := ⟨_, rfl⟩
          rw [hNe] at hN8 Hsu
          have HNe := Lib.hid hNe
          clear hb5 hd0 hd1 HV2 HS
          rw [hNe]
          clear hNe
          cases hbad : Cir.bad d o s j
          · have Hnb2 : Hid (∀ y, y < j + 1 → Cir.bad d o s y = false) := Lib.hid (fun y hy => by
              rcases Nat.lt_or_ge y j with h | h
              · exact Hnb.out y h
              · obtain rfl : y = j := by omega
                exact hbad)
            clear hbad Hnb
            cases hc : Cir.memB (Cir.vsts L) N
            · have HPu := Lib.hid (Cir.vpush_no (p := p ++ [j]) hc)
              have hlk := run_look_set HV5.out.s N (by omega)
              rw [hc] at hlk
              go_wp2_with fail
              refine (cloneSS_any _ p.length _ _ (by have := Row5.out; exact this) One5.out (by omega)).mono ?_
              rintro e w6 ⟨v6, rfl, ho6, hb6⟩
              have hz6 := hb6.size
              have Ho6 := Lib.hid ho6
              have Hb6 := Lib.hid hb6
              clear ho6 hb6
              go_wp2_with fail
              refine (bitsOf_any j d.ins _ (by omega) (by omega)).mono ?_
              rintro e w7 ⟨v7, rfl, ho7, hb7⟩
              have hz7 := hb7.size
              have Ho6b := Lib.hid (own_below Ho6.out hb7)
              have Hb7 := Lib.hid (Hb6.out.trans (hb7.mono hz6))
              have Ho7 := Lib.hid (own_mono ho7 hz6)
              have Hge7 := Lib.hid (own_ge0 ho7)
              obtain ⟨A7, c7, hv7⟩ := slice_of_own Ho7.out
              subst hv7
              have Hlit := Lib.hid (Row.of_own (World.ownsRow_lit (base := w7.heap.size) (e := 69) (size := 1) w7 #[.slice A7 (Cir.bits j d.ins).length c7] 1 (Nat.le_refl _) (by unfold maxLen; omega) rfl))
              clear ho7 hb7
              go_wp2_with (first | (at_builtin; refine append_rows rfl (.tmp 57) (.tmp 61) rfl w5.heap.size _ p.length _ rfl (Ho6b.out.alloc _) _ 1 [.slice A7 (Cir.bits j d.ins).length c7] rfl Hlit.out (by simp [Value.oneCell']) (by omega) (by simp; omega) ?_; intro v8 w8 hown8 hg8 hat8; obtain ⟨A8, c8, hv8⟩ := slice_of_own hown8; subst hv8; have Hp8 := Lib.hid hown8; have Hg8 := Lib.hid hg8; have hz8 := hg8.size; rw [World.size_alloc] at hz8; have Ho8 := Lib.hid (own_kept (Ho7.out.alloc (.cells #[.slice A7 (Cir.bits j d.ins).length c7] 69)) hg8 (fun g h1 h2 => by have h3 := Hge7.out g h1; have h4 := (Ho6.out.lt g h2).2; omega)); have Hb8 := Lib.hid ((Hb7.out.alloc (Nat.le_trans hz6 hz7) _).grown hg8 (by simp; omega) (own_ge0 Ho6b.out)); clear hown8 hg8 hat8) | (at_mapUpdate; refine Stop.out ?_))
              have HS8 : Hid (SSIn bools (fun g => F2 g ∨ (w5.heap.size ≤ g ∧ g < w8.heap.size)) w8 (.slice A8 (p.length + 1) c8) (rowsOf d.ins (p ++ [j]))) := Lib.hid (by
                rw [rowsOf_snoc]
                exact SSIn.snoc (by rw [rowsOf_length]; exact hvl5) (fun i x u hx hu => (Hel5.out i x u hx hu).below Hb8.out) Ho8.out (by rw [rowsOf_length]; exact Hp8.out))
              have HV8 := Lib.hid (HV5.out.below Hb8.out)
              have HF8 : Hid (∀ g, (F2 g ∨ (w5.heap.size ≤ g ∧ g < w8.heap.size)) → g < w8.heap.size ∧ (Value.slice (some ⟨gq, 0, none⟩) L.length cq).ownBlock ≠ some g ∧ (Value.slice (some ⟨gp, 0, none⟩) L.length cp).ownBlock ≠ some g ∧ g ≠ w.heap.size + 1 + 1) := Lib.hid (fun g hg => by
                rcases hg with hg | hg
                · exact HV8.out.f g hg
                · have h3 := HV5.out.s.lt
                  refine ⟨hg.2, fun h => ?_, fun h => ?_, by omega⟩
                  · have h2 := (HV5.out.q.lt g h).2; omega
                  · have h2 := (HV5.out.p.lt g h).2; omega)
              have Hb58 := Lib.hid (Hb5.out.trans (Hb8.out.mono (by omega)))
              refine ⟨?_⟩
              have hz58 := Hb8.out.size
              clear Ho6 Ho6b Ho7 Hge7 Hlit Hp8 Ho8 Hg8 HV5 HS5 Row5 Hrow5 Hel5 One5 Hb6 Hb7 hz6 hz7
              go_wp2_with (first
                | (at_mapUpdate; refine wpList_add_set _ rfl (.tmp 77) (.tmp 78) _ (.inl rfl) _ _ _ rfl HV8.out.s (by omega) N (by omega) rfl rfl ?_; intro w9 hset9 hg9; have Hset9 := Lib.hid hset9; have Hg9 := Lib.hid hg9; have hz9 := hg9.size; have Hq9 := Lib.hid (own_kept HV8.out.q hg9 (fun g h1 h2 => HV8.out.am.1 (h1.trans h2.symm))); have Hp9 := Lib.hid (own_kept HV8.out.p hg9 (fun g h1 h2 => HV8.out.am.2 (h1.trans h2.symm))); have Hl9 := Lib.hid (Row.of_own (World.ownsRow_lit (base := w9.heap.size) (e := 3) (size := 1) w9 #[.int .i64 N] 1 (Nat.le_refl _) (by unfold maxLen; omega) rfl)); clear hset9 hg9)
                | (at_builtin; refine append_ints rfl (.tmp 79) (.tmp 81) rfl w.heap.size _ L.length (nints (Cir.vsts L)) rfl (Hq9.out.alloc _) _ 1 [.int .i64 N] rfl Hl9.out (by simp [Value.oneCell']) (by omega) (by simp; omega) ?_; intro va wa howna hga hata; obtain ⟨Aa, ca, hva⟩ := slice_of_own howna; subst hva; have Hqa := Lib.hid howna; have Hga := Lib.hid hga; have Hata := Lib.hid hata; have hza := hga.size; rw [World.size_alloc] at hza; have Hpa := Lib.hid (own_kept (Hp9.out.alloc (.cells #[.int .i64 N] 3)) hga (fun g h1 h2 => HV8.out.a g h2 h1)); have Hla := Lib.hid (Row.of_own (World.ownsRow_lit (base := wa.heap.size) (e := 88) (size := 1) wa #[.slice A8 (p.length + 1) c8] 1 (Nat.le_refl _) (by unfold maxLen; omega) rfl)); clear howna hga hata)
                | (at_builtin; refine append_paths rfl (.tmp 83) (.tmp 85) rfl w.heap.size _ L.length pv2 rfl (Hpa.out.alloc _) _ 1 [.slice A8 (p.length + 1) c8] rfl Hla.out (by simp [Value.oneCell']) (by omega) (by simp; omega) ?_; intro vb wb hownb hgb hatb; obtain ⟨Ab, cb, hvb⟩ := slice_of_own hownb; subst hvb; have Hpb := Lib.hid hownb; have Hgb := Lib.hid hgb; have Hatb := Lib.hid hatb; clear hownb hgb hatb))
              go_roundw
              case rel => exact ⟨_, _, j + 1, m2 + 1, pv2 ++ [.slice A8 (p.length + 1) c8], _, rfl, rfl, by go_num, by omega, by omega, Hnb2, Lib.hid (by rw [HL2.out, Hsu.out, HPu.out]; exact HV8.out.push HS8.out (fun g h => .inl h) HF8.out Hset9.out Hg9.out Hqa.out Hga.out Hata.out Hpb.out Hgb.out Hatb.out), by
                have b1 := Hb58.out.grown Hg9.out Hb58.out.size (fun q hq => by have := Option.some.inj hq; omega)
                have b2 := (b1.alloc b1.size (.cells #[.int .i64 N] 3)).grown Hga.out (b1.alloc b1.size _).size (own_ge0 Hq9.out)
                exact (b2.alloc b2.size (.cells #[.slice A8 (p.length + 1) c8] 88)).grown Hgb.out (b2.alloc b2.size _).size (own_ge0 Hpa.out)⟩
              case measure => simp [intOf] <;> omega
            · have HPu := Lib.hid (Cir.vpush_yes (p := p ++ [j]) hc)
              have hlk := run_look_set HV5.out.s N (by omega)
              rw [hc] at hlk
              go_wp2_with fail
              go_roundw
              case rel => exact ⟨_, _, j + 1, m2, pv2, F2, rfl, rfl, by go_num, by omega, by omega, Hnb2, Lib.hid (by rw [HL2.out, Hsu.out, HPu.out]; exact HV5.out), Hb5.out⟩
              case measure => simp [intOf] <;> omega
          · have Hf := Lib.hid (Cir.vfind_some (M := 2 ^ d.ins) (by rw [← HM.out]; exact hlj) hbad Hnb.out)
            clear hbad Hnb
            have Hr : res = some (p ++ [j]) := by rw [hres.out]; exact Cir.vbfs_hit Hgs.out Hf.out
            clear hres
            subst Hr
            go_wp2_with fail
            refine (cloneSS_any _ p.length _ _ (by have := Row5.out; exact this) One5.out (by omega)).mono ?_
            rintro e w6 ⟨v6, rfl, ho6, hb6⟩
            have hz6 := hb6.size
            have Ho6 := Lib.hid ho6
            have Hb6 := Lib.hid hb6
            clear ho6 hb6
            go_wp2_with fail
            refine (bitsOf_any j d.ins _ (by omega) (by omega)).mono ?_
            rintro e w7 ⟨v7, rfl, ho7, hb7⟩
            have hz7 := hb7.size
            have Ho6b := Lib.hid (own_below Ho6.out hb7)
            have Hb7 := Lib.hid (Hb6.out.trans (hb7.mono hz6))
            have Ho7 := Lib.hid (own_mono ho7 hz6)
            have Hge7 := Lib.hid (own_ge0 ho7)
            obtain ⟨A7, c7, hv7⟩ := slice_of_own Ho7.out
            subst hv7
            have Hlit := Lib.hid (Row.of_own (World.ownsRow_lit (base := w7.heap.size) (e := 69) (size := 1) w7 #[.slice A7 (Cir.bits j d.ins).length c7] 1 (Nat.le_refl _) (by unfold maxLen; omega) rfl))
            clear ho7 hb7
            go_wp2_with (at_builtin; refine append_rows rfl (.tmp 57) (.tmp 61) rfl w5.heap.size _ p.length _ rfl (Ho6b.out.alloc _) _ 1 [.slice A7 (Cir.bits j d.ins).length c7] rfl Hlit.out (by simp [Value.oneCell']) (by omega) (by simp; omega) ?_; intro v8 w8 hown8 hg8 hat8; obtain ⟨A8, c8, hv8⟩ := slice_of_own hown8; subst hv8; have Hp8 := Lib.hid hown8; have Hg8 := Lib.hid hg8; have hz8 := hg8.size; rw [World.size_alloc] at hz8; have Ho8 := Lib.hid (own_kept (Ho7.out.alloc (.cells #[.slice A7 (Cir.bits j d.ins).length c7] 69)) hg8 (fun g h1 h2 => by have h3 := Hge7.out g h1; have h4 := (Ho6.out.lt g h2).2; omega)); have Hb8 := Lib.hid ((Hb7.out.alloc (Nat.le_trans hz6 hz7) _).grown hg8 (by simp; omega) (own_ge0 Ho6b.out)); clear hown8 hg8 hat8)
            have HS8 : Hid (SSIn bools (fun g => F2 g ∨ (w5.heap.size ≤ g ∧ g < w8.heap.size)) w8 (.slice A8 (p.length + 1) c8) (rowsOf d.ins (p ++ [j]))) := Lib.hid (by
              rw [rowsOf_snoc]
              exact SSIn.snoc (by rw [rowsOf_length]; exact hvl5) (fun i x u hx hu => (Hel5.out i x u hx hu).below Hb8.out) Ho8.out (by rw [rowsOf_length]; exact Hp8.out))
            have HV8 := Lib.hid (HV5.out.below Hb8.out)
            have HF8 : Hid (∀ g, (F2 g ∨ (w5.heap.size ≤ g ∧ g < w8.heap.size)) → g < w8.heap.size ∧ (Value.slice (some ⟨gq, 0, none⟩) L.length cq).ownBlock ≠ some g ∧ (Value.slice (some ⟨gp, 0, none⟩) L.length cp).ownBlock ≠ some g ∧ g ≠ w.heap.size + 1 + 1) := Lib.hid (fun g hg => by
              rcases hg with hg | hg
              · exact HV8.out.f g hg
              · have h3 := HV5.out.s.lt
                refine ⟨hg.2, fun h => ?_, fun h => ?_, by omega⟩
                · have h2 := (HV5.out.q.lt g h).2; omega
                · have h2 := (HV5.out.p.lt g h).2; omega)
            have Hb58 := Lib.hid (Hb5.out.trans (Hb8.out.mono (by omega)))
            have hz58 := Hb8.out.size
            have hlp : (rowsOf d.ins (p ++ [j])).length = p.length + 1 := by rw [rowsOf_length, List.length_append, List.length_singleton]
            have HSS : Hid (SSAt bools w8 (.slice A8 (p.length + 1) c8) (rowsOf d.ins (p ++ [j]))) := Lib.hid HS8.out.at
            have Hbits : Hid (∀ x ∈ rowsOf d.ins (p ++ [j]), x.length = d.ins) := Lib.hid (fun x hx => by
              unfold rowsOf at hx
              obtain ⟨y, _, rfl⟩ := List.mem_map.1 hx
              exact Cir.bits_length _ _)
            generalize hRe : rowsOf d.ins (p ++ [j]) = R at *
            have HRe := Lib.hid hRe
            clear hRe
            clear Ho6 Ho6b Ho7 Hge7 Hlit Hp8 Ho8 Hg8 HV5 HS5 Row5 Hrow5 Hel5 One5 Hb6 Hb7 hz6 hz7 HS8 HV8 HF8 Hf
            obtain ⟨Wz, hWz⟩ : ∃ Wz, Wz = w8 := ⟨_, rfl⟩
            subst hWz
            go_loopw [16, 66] (fun v i wr3 => ∃ (vv : Value) (q : Nat), vv = v ∧ i = .int .i64 q ∧ q ≤ p.length + 1 ∧ Hid (OwnSE bools 69 4 Wz.heap.size (fun g => g < wr3.heap.size) wr3 v (R.take q)) ∧ Below Wz.heap.size Wz wr3) (fun _ i _ => p.length + 1 - (intOf i).toNat)
            case atStart => exact ⟨_, 0, rfl, rfl, Nat.zero_le _, Lib.hid (OwnSE.nil _ _ _ _ _ _), Below.refl _ _⟩
            case round =>
              obtain ⟨vv, q, hvv, rfl, hq, HO, hb3⟩ := hrel
              subst hvv
              have Hb3 := Lib.hid hb3
              have hz3 := hb3.size
              by_cases hlq : q < p.length + 1
              · obtain ⟨x, hx⟩ := at_some (show q < R.length by omega)
                obtain ⟨b, o', Bx, mx, hAx, hbl, hc1, hm1, hm2, hrx⟩ := ss_open HSS.out hb3 hx
                cases hAx
                have hxl : x.length ≤ 1000 := by have := Hbits.out x (List.mem_of_getElem? hx); omega
                have HSn : Hid (R.take (q + 1) = R.take q ++ [x]) := Lib.hid (take_snoc hx)
                have Hrx := Lib.hid hrx
                have HtL : Hid ((R.take q).length = q) := Lib.hid (by rw [List.length_take]; omega)
                clear hb3 hrx hx
                generalize R.take q = Rq at *
                go_wp2_with fail
                refine (cloneB_any _ x.length _ _ Hrx.out (bools_one x) (by omega)).mono ?_
                rintro e wc ⟨vc, rfl, hoc, hbc⟩
                have hzc := hbc.size
                have HOc := Lib.hid (OwnSE.below HO.out hbc)
                have Hoc := Lib.hid (own_mono hoc hz3)
                have Hgec := Lib.hid (own_ge0 hoc)
                have Hbc := Lib.hid (Hb3.out.trans (hbc.mono hz3))
                obtain ⟨Ac, cc, hvc⟩ := slice_of_own hoc
                subst hvc
                have Hlc := Lib.hid (Row.of_own (World.ownsRow_lit (base := wc.heap.size) (e := 69) (size := 1) wc #[.slice Ac x.length cc] 1 (Nat.le_refl _) (by unfold maxLen; omega) rfl))
                have hHOl := HOc.out.below (bel_new wc (.cells #[.slice Ac x.length cc] 69))
                obtain ⟨us, q1, q2, q3, q4, q5, q6, q7⟩ := hHOl
                rw [HtL.out] at q2
                have Q2 := Lib.hid q2
                have Q := Lib.hid (And.intro q1 (And.intro q3 (And.intro q4 (And.intro q5 (And.intro q6 q7)))))
                have Hol := Lib.hid (Hoc.out.alloc (.cells #[.slice Ac x.length cc] 69))
                clear hoc hbc HO HOc q1 q2 q3 q4 q5 q6 q7
                go_wp2_with (at_builtin; refine append_rows rfl (.tmp 70) (.tmp 73) rfl Wz.heap.size _ q us rfl Q2.out _ 1 [.slice Ac x.length cc] rfl Hlc.out (by simp [Value.oneCell']) (by omega) (by simp; omega) ?_; intro v9 w9 hown9 hg9 hat9; have HSE := Lib.hid (se_append Q.out.1 Q.out.2.1 Q.out.2.2.1 Q.out.2.2.2.1 Q.out.2.2.2.2.1 Q.out.2.2.2.2.2 Hol.out (fun g h1 h2 => by have := Hgec.out g h1; omega) (by rw [HtL.out]; exact hown9) hg9 hat9); have Hg9 := Lib.hid hg9; have hz9 := hg9.size; rw [World.size_alloc] at hz9; have Hol9 := Lib.hid (fun g h => (Hol.out.lt g h).2); have Hown9 := Lib.hid hown9; clear hown9 hg9 hat9)
                go_roundw
                case rel => exact ⟨_, q + 1, rfl, by go_num, by omega, Lib.hid (by
                  rw [HSn.out]
                  refine HSE.out.mono (Nat.le_refl _) (fun g hg => ?_)
                  rcases hg with hg | hg | hg
                  · omega
                  · have h := Hol9.out g hg; rw [World.size_alloc] at h; omega
                  · exact (Hown9.out.lt g hg).2), (Hbc.out.alloc Hbc.out.size _).grown Hg9.out (Hbc.out.alloc Hbc.out.size _).size (own_ge0 Q2.out)⟩
                case measure => simp [intOf] <;> omega
              · obtain rfl : q = p.length + 1 := by omega
                have HOf : Hid (OwnSE bools 69 4 w.heap.size (fun g => g < wr.heap.size) wr vv R) := Lib.hid (by
                  have := HO.out
                  rw [List.take_of_length_le (by omega)] at this
                  exact this.mono (by omega) (fun g h => h))
                clear hb3
                go_wp2_with fail
                exact bodyPost_ret (v := .tuple #[vv, .bool true]) (by simp [results, Try.results92, go_sem]) rfl ⟨_, rfl, by rw [HRe.out]; exact HOf.out, Hb58.out.trans (Hb3.out.mono (by omega))⟩
        · obtain rfl : j = M := by omega
          have Hf := Lib.hid (Cir.vfind_none (M := 2 ^ d.ins) (by rw [← HM.out]; exact Hnb.out))
          have HMr : Hid (res = Cir.vbfs d o (9 - (k + 1)) (k + 1) (Cir.vpushes d s p j l)) := Lib.hid (by rw [hres.out, Cir.vbfs_step Hgs.out Hf.out, HM.out])
          clear Hnb
          generalize Cir.vpushes d s p j l = L at *
          go_wp2_with fail
          go_roundw
          case rel => exact ⟨_, _, k + 1, m2, L, pv2, F2, rfl, rfl, by go_num, by omega, by omega, hL8, by omega, Hvs2, HMr, HV2, Hb2.out⟩
          case measure => simp [intOf] <;> omega
    · obtain rfl : k = l.length := by omega
      have hr : res = none := by rw [hres.out, Cir.vbfs_end]
      obtain ⟨gq, cq, hvq, hgq, hgq2, hcq, hcqm⟩ := own_open HV.out.q (by have := hpos; omega)
      subst hvq
      unfold maxLen at hcqm
      subst hr
      go_wp2_with fail
      exact bodyPost_ret (v := .tuple #[.slice none 0 0, .bool false]) (by simp [results, Try.results92, go_sem]) rfl ⟨rfl, Hb.out⟩
end Go.Proofs.Ytkkkjbinfdohpaa

namespace Go.Proofs.Ytkkkjbinfdohpaa
open Go.RowKit
set_option maxRecDepth 100000
/-! FindViolation, by the program. -/
namespace Cir
def violI (c : Cz) (o : Int) : Option (List Nat) := if valid c = true ∧ 0 ≤ o ∧ o < c.outs.length then viol (nat c) o.toNat else none
end Cir
def vrows (ins : Nat) : Option (List Nat) → List (List Bool)
  | none => []
  | some p => rowsOf ins p
def OwnViol (ins : Nat) (r : Option (List Nat)) (w : World) (e : Ending) (w' : World) : Prop := ∃ v, e = .returned (.agg #[.bool r.isSome, v]) ∧ OwnBoolSS w.heap.size w'.heap.size w' v (vrows ins r) ∧ Below w.heap.size w w'
theorem OwnSS.set {α : Type} {enc : List α → List Value} {tO ti : TypeId} {B T : Nat} {w : World} {v : Value} {xss : List (List α)} {g i : Nat} {u : Value} (h : OwnSS enc tO ti B T w v xss) (hg : g < B) : OwnSS enc tO ti B T (w.setCell ⟨g, i, none⟩ u) v xss := by
  refine h.only (E := fun k => k = g) (Only.grown (set_grown w g i u) fun k hk => (Option.some.inj hk).symm) (fun k hk _ e => by omega)
theorem viol_cases {c : Cz} {o : Int} (h : ¬ (Cir.valid c = true ∧ 0 ≤ o ∧ o < c.outs.length)) : Cir.valid c = false ∨ (Cir.valid c = true ∧ o < 0) ∨ (Cir.valid c = true ∧ 0 ≤ o ∧ (c.outs.length : Int) ≤ o) := by
  cases hv : Cir.valid c
  · exact .inl rfl
  · rw [hv] at h
    rcases Int.lt_or_le o 0 with h1 | h1
    · exact .inr (.inl ⟨rfl, h1⟩)
    · rcases Int.lt_or_le o c.outs.length with h2 | h2
      · exact absurd ⟨rfl, h1, h2⟩ h
      · exact .inr (.inr ⟨rfl, h1, h2⟩)
set_option maxHeartbeats 4000000
theorem implViol_ok (v : Value) (d : Ci) (o : Nat) (w : World) (h : CircAt w v (Cir.toCz d)) (hd : Cir.Ok d) (hv : Cir.valid (Cir.toCz d) = true) (ho : o < d.outs.length) :
    Calls Try.prog 58 #[v, .int .i64 o] w (OwnViol d.ins (Cir.viol d o) w) := by
  have l1 := hd.ins
  have HC := Lib.hid h
  obtain ⟨vn, vg, vo, rfl, r1, r2, r3⟩ := h
  obtain ⟨Ao, co, rfl, hco, hcom⟩ := NatsAt.shape (xs := d.outs) r3
  have hins : (Cir.toCz d).ins = (d.ins : Int) := rfl
  have HP := Lib.hid (PCirc.boxed (c := Cir.toCz d) 26 r1 r2 r3)
  rw [hins] at HC HP ⊢
  have hb0 := bel_new w (.cells #[.int .i64 d.ins, vn, vg, .slice Ao d.outs.length co] 26)
  have hb1 := bel_new (w.alloc (.cells #[.int .i64 d.ins, vn, vg, .slice Ao d.outs.length co] 26)) (.cells #[.int .i64 o] 3)
  have hb2 := bel_new ((w.alloc (.cells #[.int .i64 d.ins, vn, vg, .slice Ao d.outs.length co] 26)).alloc (.cells #[.int .i64 o] 3)) (.cells #[.bool false, .slice none 0 0] 90)
  have hb12 := hb1.trans (hb2.mono hb1.size)
  have B0 := Lib.hid (hb0.trans (hb12.mono hb0.size))
  have HP := Lib.hid (HP.out.below hb12)
  have PC := Lib.hid ((PCells.boxed w d.ins vn vg (.slice Ao d.outs.length co) 26).below hb12)
  have hsz : (((w.alloc (.cells #[.int .i64 d.ins, vn, vg, .slice Ao d.outs.length co] 26)).alloc (.cells #[.int .i64 o] 3)).alloc (.cells #[.bool false, .slice none 0 0] 90)).heap.size = w.heap.size + 1 + 1 + 1 := by simp
  have hR : (((w.alloc (.cells #[.int .i64 d.ins, vn, vg, .slice Ao d.outs.length co] 26)).alloc (.cells #[.int .i64 o] 3)).alloc (.cells #[.bool false, .slice none 0 0] 90)).heap[w.heap.size + 1 + 1]? = some (.cells #[.bool false, .slice none 0 0] 90 (0, 0)) := by
    have := heap_alloc_new ((w.alloc (.cells #[.int .i64 d.ins, vn, vg, .slice Ao d.outs.length co] 26)).alloc (.cells #[.int .i64 o] 3)) (.cells #[.bool false, .slice none 0 0] 90)
    rwa [World.size_alloc, World.size_alloc] at this
  have HRes := Lib.hid hR
  have hGo : (((w.alloc (.cells #[.int .i64 d.ins, vn, vg, .slice Ao d.outs.length co] 26)).alloc (.cells #[.int .i64 o] 3)).alloc (.cells #[.bool false, .slice none 0 0] 90)).cell? ⟨w.heap.size + 1, 0, none⟩ = some (.int .i64 o) := by
    have h1 := heap_alloc_new (w.alloc (.cells #[.int .i64 d.ins, vn, vg, .slice Ao d.outs.length co] 26)) (.cells #[.int .i64 o] 3)
    rw [World.size_alloc] at h1
    have h2 := (hb2.block (w.heap.size + 1) (by simp)).trans h1
    exact blk_cell h2 0
  have HGo := Lib.hid hGo
  obtain ⟨z, p0, p1, p2, p3⟩ := PC.out
  have HC0 := Lib.hid (HC.out.below B0.out)
  have HV := Lib.hid (implValid_any _ _ _ HC0.out)
  rw [hv] at HV
  have Hd := Lib.hid hd
  have Ho := Lib.hid ho
  have t1 : decide ((o : Int) < 0) = false := decide_eq_false (by omega)
  have t2 : decide (d.outs.length ≤ o) = false := decide_eq_false (by omega)
  clear r1 r2 r3 hd hins hv HC hb0 hb1 hb2 hb12 hR ho hco hcom hGo
  go_enter Try.func58, Try.ntmps58
  go_wp2_with fail
  generalize ((w.alloc (.cells #[.int .i64 d.ins, vn, vg, .slice Ao d.outs.length co] 26)).alloc (.cells #[.int .i64 o] 3)).alloc (.cells #[.bool false, .slice none 0 0] 90) = W at *
  refine HV.out.mono ?_
  rintro e w1 ⟨rfl, hb1⟩
  have B1 := Lib.hid (B0.out.trans (hb1.mono B0.out.size))
  have HP1 := Lib.hid (HP.out.below hb1)
  have HRes1 := Lib.hid ((hb1.block _ (by omega)).trans HRes.out)
  have PC1 := Lib.hid (PC.out.below hb1)
  have c1 := (hb1.cell (p := ⟨w.heap.size + 1, 0, none⟩) (by simp only; omega)).trans HGo.out
  have HGo1 := Lib.hid c1
  have z1 := hb1.size
  clear hb1 p0 p1 p2 p3 z HV HP HC0 HRes PC HGo
  obtain ⟨z, p0, p1, p2, p3⟩ := PC1.out
  go_wp2_with fail
  refine (searchV_any w.heap.size (w.heap.size + 1) d o _ HP1.out HGo1.out (by omega) Hd.out Ho.out).mono ?_
  intro e w2 hS
  generalize Cir.viol d o = R at *
  cases R with
  | none =>
    obtain ⟨rfl, hb2⟩ := hS
    have hR2 := (hb2.block (w.heap.size + 1 + 1) (by omega)).trans HRes1.out
    have o0 := blk_cell hR2 0
    have o1 := blk_cell hR2 1
    have b0 := blk_free hR2 0
    have b1 := blk_free hR2 1
    simp at o0 o1
    have B2 := Lib.hid (B1.out.trans (hb2.mono B1.out.size))
    clear hb2 hR2 p0 p1 p2 p3
    go_wp2_with fail
    refine bodyPost_ret (v := .agg #[.bool false, .slice none 0 0]) (by simp [results, Try.results58, go_sem, o0, o1]) rfl ⟨_, rfl, OwnSS.nil _ _ _ _ _ _, ?_⟩
    exact ((B2.out.setCell (by simp only; omega) _).setCell (by simp only; omega) _)
  | some p =>
    obtain ⟨v2, rfl, hO, hb2⟩ := hS
    have hR2 := (hb2.block (w.heap.size + 1 + 1) (by omega)).trans HRes1.out
    have o0 := blk_cell hR2 0
    have o1 := blk_cell hR2 1
    have b0 := blk_free hR2 0
    have b1 := blk_free hR2 1
    simp at o0 o1
    have B2 := Lib.hid (B1.out.trans (hb2.mono B1.out.size))
    have HO := Lib.hid hO
    obtain ⟨A2, c2, hv2, -⟩ := hO.at.shape
    subst hv2
    clear hb2 hR2 p0 p1 p2 p3 hO
    go_wp2_with fail
    refine bodyPost_ret (v := .agg #[.bool true, .slice A2 (rowsOf d.ins p).length c2]) (by simp [results, Try.results58, go_sem, o0, o1]) rfl ⟨_, rfl, ?_, ?_⟩
    · exact (OwnSS.set (OwnSS.set (HO.out) (by omega)) (by omega)).mono (by omega) (by simp [World.setCell])
    · exact ((B2.out.setCell (by simp only; omega) _).setCell (by simp only; omega) _)
end Go.Proofs.Ytkkkjbinfdohpaa

namespace Go.Proofs.Ytkkkjbinfdohpaa
open Go.RowKit
set_option maxRecDepth 100000
set_option maxHeartbeats 4000000
/-! FindViolation, by the program: no violation for arguments that are none; any arguments. -/
theorem implViol_no (v : Value) (c : Cz) (o : Int) (w : World) (h : CircAt w v c) (hno : Cir.valid c = false ∨ (Cir.valid c = true ∧ o < 0) ∨ (Cir.valid c = true ∧ 0 ≤ o ∧ (c.outs.length : Int) ≤ o)) :
    Calls Try.prog 58 #[v, .int .i64 o] w (OwnViol (Cir.nat c).ins none w) := by
  have HC := Lib.hid h
  obtain ⟨An, cn, Ag, cg, Ao, co, rfl⟩ := h.shape
  have hb0 := bel_new w (.cells #[.int .i64 c.ins, .slice An c.next.length cn, .slice Ag c.gates.length cg, .slice Ao c.outs.length co] 26)
  have hb1 := bel_new (w.alloc (.cells #[.int .i64 c.ins, .slice An c.next.length cn, .slice Ag c.gates.length cg, .slice Ao c.outs.length co] 26)) (.cells #[.int .i64 o] 3)
  have hb2 := bel_new ((w.alloc (.cells #[.int .i64 c.ins, .slice An c.next.length cn, .slice Ag c.gates.length cg, .slice Ao c.outs.length co] 26)).alloc (.cells #[.int .i64 o] 3)) (.cells #[.bool false, .slice none 0 0] 90)
  have hb12 := hb1.trans (hb2.mono hb1.size)
  have B0 := Lib.hid (hb0.trans (hb12.mono hb0.size))
  have PC := Lib.hid ((PCells.boxed w c.ins (.slice An c.next.length cn) (.slice Ag c.gates.length cg) (.slice Ao c.outs.length co) 26).below hb12)
  have hsz : (((w.alloc (.cells #[.int .i64 c.ins, .slice An c.next.length cn, .slice Ag c.gates.length cg, .slice Ao c.outs.length co] 26)).alloc (.cells #[.int .i64 o] 3)).alloc (.cells #[.bool false, .slice none 0 0] 90)).heap.size = w.heap.size + 1 + 1 + 1 := by simp
  have hR : (((w.alloc (.cells #[.int .i64 c.ins, .slice An c.next.length cn, .slice Ag c.gates.length cg, .slice Ao c.outs.length co] 26)).alloc (.cells #[.int .i64 o] 3)).alloc (.cells #[.bool false, .slice none 0 0] 90)).heap[w.heap.size + 1 + 1]? = some (.cells #[.bool false, .slice none 0 0] 90 (0, 0)) := by
    have := heap_alloc_new ((w.alloc (.cells #[.int .i64 c.ins, .slice An c.next.length cn, .slice Ag c.gates.length cg, .slice Ao c.outs.length co] 26)).alloc (.cells #[.int .i64 o] 3)) (.cells #[.bool false, .slice none 0 0] 90)
    rwa [World.size_alloc, World.size_alloc] at this
  have HRes := Lib.hid hR
  have hGo : (((w.alloc (.cells #[.int .i64 c.ins, .slice An c.next.length cn, .slice Ag c.gates.length cg, .slice Ao c.outs.length co] 26)).alloc (.cells #[.int .i64 o] 3)).alloc (.cells #[.bool false, .slice none 0 0] 90)).cell? ⟨w.heap.size + 1, 0, none⟩ = some (.int .i64 o) := by
    have h1 := heap_alloc_new (w.alloc (.cells #[.int .i64 c.ins, .slice An c.next.length cn, .slice Ag c.gates.length cg, .slice Ao c.outs.length co] 26)) (.cells #[.int .i64 o] 3)
    rw [World.size_alloc] at h1
    have h2 := (hb2.block (w.heap.size + 1) (by simp)).trans h1
    exact blk_cell h2 0
  have HGo := Lib.hid hGo
  obtain ⟨z, p0, p1, p2, p3⟩ := PC.out
  have HV := Lib.hid (implValid_any _ _ _ (HC.out.below B0.out))
  have Hno := Lib.hid hno
  clear HC hb0 hb1 hb2 hb12 hR hGo hno
  rcases Hno.out with hv | ⟨hv, h1⟩ | ⟨hv, h1, h2⟩
  ·
    skip
    rw [hv] at HV
    skip
    clear hv Hno
    go_enter Try.func58, Try.ntmps58
    go_wp2_with fail
    generalize ((w.alloc (.cells #[.int .i64 c.ins, .slice An c.next.length cn, .slice Ag c.gates.length cg, .slice Ao c.outs.length co] 26)).alloc (.cells #[.int .i64 o] 3)).alloc (.cells #[.bool false, .slice none 0 0] 90) = W at *
    refine HV.out.mono ?_
    rintro e w1 ⟨rfl, hb1⟩
    have B1 := Lib.hid (B0.out.trans (hb1.mono B0.out.size))
    have PC1 := Lib.hid (PC.out.below hb1)
    have c1 := (hb1.cell (p := ⟨w.heap.size + 1, 0, none⟩) (by simp only; omega)).trans HGo.out
    have hR1 := (hb1.block _ (by omega)).trans HRes.out
    have z1 := hb1.size
    have o0 := blk_cell hR1 0
    have o1 := blk_cell hR1 1
    have b0 := blk_free hR1 0
    have b1 := blk_free hR1 1
    simp at o0 o1
    clear hb1 hR1 p0 p1 p2 p3 z HV HRes PC HGo
    obtain ⟨z, p0, p1, p2, p3⟩ := PC1.out
    go_wp2_with fail
    refine bodyPost_ret (v := .agg #[.bool false, .slice none 0 0]) (by simp [results, Try.results58, go_sem, o0, o1]) rfl ⟨_, rfl, OwnSS.nil _ _ _ _ _ _, ?_⟩
    exact ((B1.out.setCell (by simp only; omega) _).setCell (by simp only; omega) _)
  ·
    have t1 : decide (o < 0) = true := decide_eq_true h1
    rw [hv] at HV
    clear h1
    clear hv Hno
    go_enter Try.func58, Try.ntmps58
    go_wp2_with fail
    generalize ((w.alloc (.cells #[.int .i64 c.ins, .slice An c.next.length cn, .slice Ag c.gates.length cg, .slice Ao c.outs.length co] 26)).alloc (.cells #[.int .i64 o] 3)).alloc (.cells #[.bool false, .slice none 0 0] 90) = W at *
    refine HV.out.mono ?_
    rintro e w1 ⟨rfl, hb1⟩
    have B1 := Lib.hid (B0.out.trans (hb1.mono B0.out.size))
    have PC1 := Lib.hid (PC.out.below hb1)
    have c1 := (hb1.cell (p := ⟨w.heap.size + 1, 0, none⟩) (by simp only; omega)).trans HGo.out
    have hR1 := (hb1.block _ (by omega)).trans HRes.out
    have z1 := hb1.size
    have o0 := blk_cell hR1 0
    have o1 := blk_cell hR1 1
    have b0 := blk_free hR1 0
    have b1 := blk_free hR1 1
    simp at o0 o1
    clear hb1 hR1 p0 p1 p2 p3 z HV HRes PC HGo
    obtain ⟨z, p0, p1, p2, p3⟩ := PC1.out
    go_wp2_with fail
    refine bodyPost_ret (v := .agg #[.bool false, .slice none 0 0]) (by simp [results, Try.results58, go_sem, o0, o1]) rfl ⟨_, rfl, OwnSS.nil _ _ _ _ _ _, ?_⟩
    exact ((B1.out.setCell (by simp only; omega) _).setCell (by simp only; omega) _)
  ·
    have t1 : decide (o < 0) = false := decide_eq_false (by omega)
    rw [hv] at HV
    have t2 : decide ((c.outs.length : Int) ≤ o) = true := decide_eq_true h2
    clear h1 h2
    clear hv Hno
    go_enter Try.func58, Try.ntmps58
    go_wp2_with fail
    generalize ((w.alloc (.cells #[.int .i64 c.ins, .slice An c.next.length cn, .slice Ag c.gates.length cg, .slice Ao c.outs.length co] 26)).alloc (.cells #[.int .i64 o] 3)).alloc (.cells #[.bool false, .slice none 0 0] 90) = W at *
    refine HV.out.mono ?_
    rintro e w1 ⟨rfl, hb1⟩
    have B1 := Lib.hid (B0.out.trans (hb1.mono B0.out.size))
    have PC1 := Lib.hid (PC.out.below hb1)
    have c1 := (hb1.cell (p := ⟨w.heap.size + 1, 0, none⟩) (by simp only; omega)).trans HGo.out
    have hR1 := (hb1.block _ (by omega)).trans HRes.out
    have z1 := hb1.size
    have o0 := blk_cell hR1 0
    have o1 := blk_cell hR1 1
    have b0 := blk_free hR1 0
    have b1 := blk_free hR1 1
    simp at o0 o1
    clear hb1 hR1 p0 p1 p2 p3 z HV HRes PC HGo
    obtain ⟨z, p0, p1, p2, p3⟩ := PC1.out
    go_wp2_with fail
    refine bodyPost_ret (v := .agg #[.bool false, .slice none 0 0]) (by simp [results, Try.results58, go_sem, o0, o1]) rfl ⟨_, rfl, OwnSS.nil _ _ _ _ _ _, ?_⟩
    exact ((B1.out.setCell (by simp only; omega) _).setCell (by simp only; omega) _)
theorem implViol_any (v : Value) (c : Cz) (o : Int) (w : World) (h : CircAt w v c) :
    Calls Try.prog 58 #[v, .int .i64 o] w (OwnViol (Cir.nat c).ins (Cir.violI c o) w) := by
  by_cases hc : Cir.valid c = true ∧ 0 ≤ o ∧ o < c.outs.length
  · obtain ⟨d1, d2⟩ := Cir.nat_ok hc.1
    obtain ⟨m, rfl⟩ := Int.eq_ofNat_of_zero_le hc.2.1
    have hr : Cir.violI c (m : Int) = Cir.viol (Cir.nat c) m := by unfold Cir.violI; rw [if_pos hc]; rfl
    rw [hr]
    exact implViol_ok v (Cir.nat c) m w (by rw [← d1]; exact h) d2 (by rw [← d1]; exact hc.1) (by have := hc.2.2; unfold Cir.nat; simp only [List.length_map]; omega)
  · have hr : Cir.violI c o = none := by unfold Cir.violI; rw [if_neg hc]
    rw [hr]
    exact implViol_no v c o w h (viol_cases hc)
/-! The rows of inputs that lead to a violation, by the reference. -/
def TBits (B : Nat) (xs : List Bool) : Ty := fun w v => RowIn (From B) w 1 v xs.length (bools xs)
theorem stb_bits (B : Nat) (xs : List Bool) : Stb (fun _ => False) (TBits B xs) := fun _ _ _ h ho => RowIn.below h (only_below ho)
def TFront (B : Nat) (xs : List Bool) : Ty := fun w v => ∃ g u, v = .slice (some ⟨g, 0, none⟩) 1 1 ∧ B ≤ g ∧ g < w.heap.size ∧ w.cell? ⟨g, 0, none⟩ = some u ∧ RowIn (From B) w 1 u xs.length (bools xs)
theorem stb_front (B : Nat) (xs : List Bool) : Stb (fun _ => False) (TFront B xs) := by
  rintro v w w' ⟨g, u, rfl, hB, hg, hc, hb⟩ ho
  have hbl := only_below ho
  exact ⟨g, u, rfl, hB, Nat.lt_of_lt_of_le hg ho.size, (hbl.cell (p := ⟨g, 0, none⟩) hg).trans hc, hb.below hbl⟩
def TSS (B : Nat) (xss : List (List Bool)) : Ty := fun w v => SSIn bools (From B) w v xss
theorem stb_ss (B : Nat) (xss : List (List Bool)) : Stb (fun _ => False) (TSS B xss) := fun _ _ _ h ho => h.below (only_below ho)
/-- append of a row of rows to a single one. -/
theorem run_front {w : World} {xs : List Bool} {xss : List (List Bool)} {v y : Value} {B : Nat} (ty : TypeId) (hx : TFront B xs w v) (hy : SSIn bools (From B) w y xss) (hBw : B ≤ w.heap.size) (hn : 0 < xss.length) (hm : xss.length ≤ 1000) :
    ∃ v' w', (Builtin.append_ #[88, 88] ty #[v, y]).run Try.prog w = .ok v' w' ∧ SSIn bools (From B) w' v' (xs :: xss) ∧ Below w.heap.size w w' := by
  obtain ⟨i, hi, hz0, hz1, hz2⟩ := info_parts info_bools2
  obtain ⟨g, u, rfl, hB, hg, hc, hb⟩ := hx
  obtain ⟨vs, hvl, hr, hel⟩ := hy
  obtain ⟨b, o, c, rfl, h1, h2, h3, h4⟩ := Row.open hr.1 hn
  have hcells : vs.length = xss.length * i.size := by rw [hz1]; have := hr.1.len; omega
  have hrun := run_append_grow (P := Try.prog) w 88 ty 69 i _ Try.underlying88 hi hz0 ⟨g, 0, none⟩ 1 1 [u] (by rw [hz1]; rfl) (fun j q hq => by
      cases j with
      | zero => obtain rfl := Option.some.inj hq; exact hc
      | succ j => simp at hq) ⟨b, o, none⟩ xss.length c vs hcells (fun j q hq => by have h5 := h4 j q hq; cases j <;> simpa [Addr.add] using h5) (by omega) (by omega) (by
      rw [hz2]
      exact growslice_fits (by omega) (by omega))
  refine ⟨_, _, hrun, ?_, ?_⟩
  · have hge := grownCap_ge w (1 + xss.length) 1 69
    have hle := grownCap_le_maxLen w (1 + xss.length) 1 69 (by unfold maxLen; omega)
    have hb2 : Below w.heap.size w (w.drew.alloc (.cells ([u].toArray ++ vs.toArray ++ Builtin.zeroCells (Value.cells (.slice none 0 0)) (grownCap w (1 + xss.length) 1 69 - (1 + xss.length))) 69)) := ⟨rfl, rfl, rfl, by simp, fun k hk => heap_alloc_old w.drew _ hk⟩
    refine ⟨u :: vs, by simp [hvl], ⟨⟨by simp [hvl], _, _, by rw [List.length_cons, Nat.add_comm xss.length 1], by rw [List.length_cons]; omega, hle, fun _ => ⟨w.heap.size, 0, rfl, by simp, fun j q hq => ?_⟩⟩, fun _ g hg => ?_⟩, fun i x z hx hz => ?_⟩
    · have h5 := heap_alloc_new w.drew (.cells ([u].toArray ++ vs.toArray ++ Builtin.zeroCells (Value.cells (.slice none 0 0)) (grownCap w (1 + xss.length) 1 69 - (1 + xss.length))) 69)
      have h6 := blk_cell h5 (0 + j)
      refine h6.trans ?_
      rw [Nat.zero_add, ← Array.getElem?_toList]
      simp only [Array.toList_append]
      rw [List.getElem?_append_left (by have := (List.getElem?_eq_some_iff.1 hq).1; simpa using this)]
      simpa using hq
    · obtain rfl := Option.some.inj hg
      exact hBw
    · cases i with
      | zero =>
        obtain rfl := Option.some.inj hx
        obtain rfl := Option.some.inj hz
        exact hb.below hb2
      | succ i => exact (hel i x z hx hz).below hb2
  · exact ⟨rfl, rfl, rfl, by simp, fun k hk => heap_alloc_old w.drew _ hk⟩
end Go.Proofs.Ytkkkjbinfdohpaa

namespace Go.Proofs.Ytkkkjbinfdohpaa
open Go.RowKit
set_option maxRecDepth 100000
section
variable {S : RS} {Fin : List Ty → Prop} {o : Oper} {l : List Oper} {i : Nat} {τs : List Ty}
/-- A slice of one row, in a region. -/
theorem rs_front0 (hO : S.Ok) (hid : i ≠ S.d ∨ ∀ ov w, S.J ov w) (hE : S.E = fun _ => False) (B : Nat) (hB : B ≤ S.w0.heap.size) (xs : List Bool)
    (h : ∀ ρ w, Only S.E S.w0 w → Known S.ops (tys τs) S.a0 ρ w i o.op.operands.toList → ∃ u, RowIn (From B) w 1 u xs.length (bools xs) ∧ (execOp ρ o).run S.P w = .ok (.value (.slice (some ⟨w.heap.size, 0, none⟩) 1 1)) (w.alloc (.cells #[u] 69)))
    (rest : RSeq S Fin l (i + 1) (TFront B xs :: τs)) : RSeq S Fin (o :: l) i τs := by
  refine rs_alloc hO hid (TFront B xs) (by rw [hE]; exact stb_front B xs) (fun ρ w ho hK => ?_) rest
  obtain ⟨u, h1, h2⟩ := h ρ w ho hK
  exact ⟨_, _, h2, w.heap.size, u, rfl, Nat.le_trans hB ho.size, by simp, blk_cell (heap_alloc_new w _) 0, h1.below (bel_new _ _)⟩
/-- A row in front of rows, in a region. -/
theorem rs_front (hO : S.Ok) (hid : i ≠ S.d ∨ ∀ ov w, S.J ov w) (hE : S.E = fun _ => False) (hF : S.F = fun _ => False) (hrd : S.rd = none) (hP : S.P = Try.prog) (x y : Nat) (B : Nat) (hB : B ≤ S.w0.heap.size) (xs : List Bool) (xss : List (List Bool)) (c : Value)
    (ho : o.op = .call { callee := .builtin .append, args := #[.tmp x, .tmp y], argTypes := #[88, 88] }) (jx jy : Nat) (hx : writer S.ops i x = some jx) (hy : writer S.ops i y = some jy) (hTx : tys τs jx = TFront B xs) (hTy : tys τs jy = TEq c)
    (hs : SSIn bools (From B) S.w0 c xss) (hn : 0 < xss.length) (hm : xss.length ≤ 1000)
    (rest : RSeq S Fin l (i + 1) (TSS B (xs :: xss) :: τs)) : RSeq S Fin (o :: l) i τs := by
  refine rs_plain hO hid (TSS B (xs :: xss)) (by rw [hE]; exact stb_ss B _) (fun k ρ w hk hr hon hK => ?_) rest
  rw [ho] at hK
  have h1 := hK.1
  have h2 := hK.2.1
  rw [hx] at h1
  rw [hy] at h2
  simp only [hTx] at h1
  simp only [hTy] at h2
  have h2' : ρ (.tmp y) = c := h2
  rw [hE] at hon
  obtain ⟨v', w', hrun, hss, hbl⟩ := run_front o.type h1 (hs.below (only_below hon)) (Nat.le_trans hB hon.size) hn hm
  have hre : (execOp ρ o).run S.P w = .ok (.value v') w' := by
    unfold execOp
    rw [hP]
    simp only [ho, resolve, invoke, builtin, Sem.run_bind, Sem.run_pure, Result.andThen_ok, List.map_toArray, List.map_cons, List.map_nil, h2', hrun]
  unfold Good
  rw [hre]
  refine ⟨hss, ?_, ?_⟩
  · rw [hrd]; trivial
  · rw [hF]; exact Only.of_below _ hbl
end
end Go.Proofs.Ytkkkjbinfdohpaa

namespace Go.Proofs.Ytkkkjbinfdohpaa
open Go.RowKit
set_option maxRecDepth 100000
/-! Reachable, by the reference; both, for all circuits. -/
set_option maxHeartbeats 4000000 in
theorem specReach_ok (v : Value) (d : Ci) (w : World) (h : CircAt w v (Cir.toCz d)) (hd : Cir.Ok d) (hv : Cir.valid (Cir.toCz d) = true) :
    Calls Try.prog 74 #[v] w (OwnInts (nats (Cir.reach d)) w) := by
  have l1 := hd.ins
  have l2 := hd.nexts
  have HC := Lib.hid h
  obtain ⟨vn, vg, vo, rfl, r1, r2, r3⟩ := h
  have hins : (Cir.toCz d).ins = (d.ins : Int) := rfl
  rw [hins] at HC ⊢
  have B0 := Lib.hid (bel_new w (.cells #[.int .i64 d.ins, vn, vg, vo] 26))
  have hsz : (w.alloc (.cells #[.int .i64 d.ins, vn, vg, vo] 26)).heap.size = w.heap.size + 1 := by simp
  have PC := Lib.hid (PCells.boxed w d.ins vn vg vo 26)
  obtain ⟨z, p0, p1, p2, p3⟩ := PC.out
  have HC := Lib.hid (HC.out.below B0.out)
  have HV := Lib.hid (specValid_any _ _ _ HC.out)
  rw [hv] at HV
  have Hd := Lib.hid hd
  obtain ⟨M, e, hM⟩ : ∃ M : Nat, (2 : Int) ^ d.ins = (M : Int) ∧ M = 2 ^ d.ins := ⟨2 ^ d.ins, two_pow d.ins, rfl⟩
  have hM16 : M ≤ 16 := by rw [hM]; exact Nat.pow_le_pow_right (show 0 < 2 by decide) l1
  have hwM := IntWalk.i64_in (M : Int) (by omega)
  have HM := Lib.hid hM
  clear r1 r2 r3 hd hins hM hv
  go_enter Try.func74, Try.ntmps74
  go_wp2_with fail
  generalize w.alloc (.cells #[.int .i64 d.ins, vn, vg, vo] 26) = W at *
  refine HV.out.mono ?_
  rintro e w1 ⟨rfl, hb1⟩
  have B1 := Lib.hid (B0.out.trans (hb1.mono B0.out.size))
  have HC1 := Lib.hid (HC.out.below hb1)
  have PC1 := Lib.hid (PC.out.below hb1)
  have z1 := hb1.size
  clear hb1 p0 p1 p2 p3 z HV HC PC
  have Hlit : Hid ((w1.alloc (.cells #[.int .i64 0] 3)).ownsRow w1.heap.size 3 1 (.slice (some ⟨w1.heap.size, 0, none⟩) 1 1) 1 [.int .i64 0]) := Lib.hid (World.ownsRow_lit (base := w1.heap.size) (e := 3) (size := 1) w1 #[.int .i64 0] 1 (Nat.le_refl _) (by unfold maxLen; omega) rfl)
  have Bm : Hid (Below w1.heap.size w1 (w1.alloc (.cells #[.int .i64 0] 3))) := Lib.hid ((Below.refl _ _).alloc (Nat.le_refl _) _)
  have hR0 : Hid (Cir.reach d = Cir.bfs d (9 - 0) 0 [0]) := Lib.hid rfl
  generalize Cir.reach d = res at *
  go_wp2_with fail
  go_loopw [3, 4] (fun v i wr => ∃ (vv : Value) (k : Nat) (l : List Nat), vv = v ∧ i = .int .i64 k ∧ k ≤ l.length ∧ l.length ≤ 8 ∧ Hid (Cir.Sts d l) ∧ Hid (res = Cir.bfs d (9 - k) k l) ∧ Hid (wr.ownsRow w1.heap.size 3 1 v l.length (nints l)) ∧ Below w1.heap.size w1 wr) (fun v i _ => 8 - (intOf i).toNat)
  case atStart => exact ⟨_, 0, [0], rfl, rfl, by simp, by simp, Lib.hid (Cir.Sts.zero d), hR0, Hlit, Bm.out⟩
  case round =>
    obtain ⟨vv, k, l, hvv, rfl, hk, hl8, Hst, hres, Ho, hb⟩ := hrel
    subst hvv
    clear Hlit Bm hR0
    obtain ⟨A, c, rfl, hc, hcm⟩ := NatsAt.shape (own_nats Ho.out)
    unfold maxLen at hcm
    have Hb := Lib.hid hb
    have hzb := hb.size
    clear hb
    by_cases hlt : k < l.length
    · obtain ⟨s, hs⟩ := at_some hlt
      have hs8 : s < 8 := by
        have h1 := Hst.out.lt s (List.mem_of_getElem? hs)
        have h2 : 2 ^ d.next.length ≤ 2 ^ 3 := Nat.pow_le_pow_right (show 0 < 2 by decide) l2
        omega
      have Hstep := Lib.hid (Cir.bfs_step (c := d) (f := 9 - (k + 1)) hs)
      have hf : 9 - k = 9 - (k + 1) + 1 := by omega
      rw [hf] at hres
      have Hgs := Lib.hid hs
      have hdl : decide (k < l.length) = true := decide_eq_true hlt
      clear hs hf
      go_wp2_with fail
      obtain ⟨Wk, hWk⟩ : ∃ Wk, Wk = wr := ⟨_, rfl⟩
      subst hWk
      go_loopw [3, 5] (fun v i wr => ∃ (vv : Value) (j : Nat), vv = v ∧ i = .int .i64 j ∧ j ≤ M ∧ Hid (wr.ownsRow w1.heap.size 3 1 v (Cir.pushes d s j l).length (nints (Cir.pushes d s j l))) ∧ Below w1.heap.size w1 wr) (fun v i _ => M - (intOf i).toNat)
      case atStart => exact ⟨_, 0, rfl, rfl, Nat.zero_le _, Ho, Hb.out⟩
      case round =>
        obtain ⟨vv, j, hvv, rfl, hj, Ho, hb⟩ := hrel
        subst hvv
        have Hb := Lib.hid hb
        have hzb := hb.size
        have PCr := Lib.hid (PC1.out.below hb)
        have Hst2 := Lib.hid (Hst.out.pushes s j)
        have hL8 := Hst2.out.len Hd.out
        have Hgj := Lib.hid (Cir.pushes_get (c := d) (s := s) (j := j) Hgs.out)
        have Hsu := Lib.hid (Cir.pushes_succ d s j l)
        by_cases hlj : j < M
        · obtain ⟨L2, hL2⟩ : ∃ L2, Cir.pushes d s (j + 1) l = L2 := ⟨_, rfl⟩
          rw [hL2] at Hsu
          have HL2 := Lib.hid hL2
          clear hL2
          generalize Cir.pushes d s j l = L at *
          obtain ⟨A, c, rfl, hc, hcm⟩ := NatsAt.shape (own_nats Ho.out)
          unfold maxLen at hcm
          have hkL : k < L.length := (List.getElem?_eq_some_iff.1 Hgj.out).1
          obtain ⟨b, o, s', rfl, hbl, hx0, hs0⟩ := nats_cell (nats_row (own_nats Ho.out)) rfl hkL
          obtain rfl : s' = s := Option.some.inj (hx0.out.symm.trans Hgj.out)
          clear hb
          obtain ⟨z, p0, p1, p2, p3⟩ := PCr.out
          go_wp2_with fail
          obtain ⟨w4, hw4⟩ : ∃ w4, w4 = wr := ⟨_, rfl⟩
          subst hw4
          refine wp_region_rs (quietRS Try.prog _ w4 _) quietRS_ok (by kernel_rfl) (by kernel_rfl) (by kernel_rfl) (Nat.le_of_ble_eq_true rfl) trivial trivial ?_
          apply rs_eq quietRS_ok quiet_any
          · intro ρ w' ho hK
            have ho : Only _ w4 w' := ho
            obtain ⟨h0, -⟩ := hK
            have h0' : ρ (.tmp 1) = _ := h0
            have hb := only_below ho
            have q0 := (hb.cell (p := ⟨w.heap.size, 0, none⟩) z).trans p0
            have q1 := (hb.cell (p := ⟨w.heap.size, 1, none⟩) z).trans p1
            have q2 := (hb.cell (p := ⟨w.heap.size, 2, none⟩) z).trans p2
            have q3 := (hb.cell (p := ⟨w.heap.size, 3, none⟩) z).trans p3
            have q4 := (hb.cell (p := ⟨b, o + k, none⟩) hbl).trans hs0
            go_simp
            try exact rfl
          refine rs_old quietRS_ok quiet_any _ (.inl rfl) _ rfl rfl ?_
          refine rs_old quietRS_ok quiet_any _ (.inl rfl) _ rfl rfl ?_
          apply rs_eq quietRS_ok quiet_any
          · intro ρ w' ho hK
            have ho : Only _ w4 w' := ho
            obtain ⟨h0, h1, -⟩ := hK
            have h0' : ρ (.tmp 26) = _ := h0
            have h1' : ρ (.tmp 27) = _ := h1
            go_simp
            try exact rfl
          apply rs_eq quietRS_ok quiet_any
          · intro ρ w' ho hK
            have ho : Only _ w4 w' := ho
            obtain ⟨h0, -⟩ := hK
            have h0' : ρ (.tmp 28) = _ := h0
            have hb := only_below ho
            have q0 := (hb.cell (p := ⟨w.heap.size, 0, none⟩) z).trans p0
            have q1 := (hb.cell (p := ⟨w.heap.size, 1, none⟩) z).trans p1
            have q2 := (hb.cell (p := ⟨w.heap.size, 2, none⟩) z).trans p2
            have q3 := (hb.cell (p := ⟨w.heap.size, 3, none⟩) z).trans p3
            have q4 := (hb.cell (p := ⟨b, o + k, none⟩) hbl).trans hs0
            go_simp
            try exact rfl
          refine rs_old quietRS_ok quiet_any _ (.inl rfl) _ rfl rfl ?_
          refine rs_call quietRS_ok quiet_any (TEq (.int .i64 (Cir.nextOf d s' j : Nat))) (stb_eq _ _) 75 _ _ rfl (fun ρ w' ho hK => by
            have ho : Only _ w4 w' := ho
            obtain ⟨h0, h1, h2, h3, -⟩ := hK
            have h0' : ρ (.func 75) = .func (.func 75) #[] #[] := h0
            have h1' : ρ (.tmp 25) = _ := h1
            have h2' : ρ (.tmp 29) = _ := h2
            have h3' : ρ (.tmp 30) = _ := h3
            refine ⟨#[ρ (.tmp 25), ρ (.tmp 29), ρ (.tmp 30)], ?_, ?_⟩
            · go_simp
            · rw [h1', h2', h3']
              refine (l16Next_any _ d s' j w' (HC1.out.below (Hb.out.trans ((only_below ho).mono hzb))) Hd.out (by omega) (by omega)).mono ?_
              rintro e w2 ⟨rfl, hb⟩
              exact ⟨_, rfl, rfl, hb⟩) ?_
          refine rs_same quietRS_ok quiet_any 31 6 (.inr rfl) rfl _ rfl ?_
          intro f w9 k9 hk9 hI9 ht9 hcp9
          have E0 : f 0 = _ := ht9 0 (Nat.le_of_ble_eq_true rfl)
          have E1 : f 1 = _ := ht9 1 (Nat.le_of_ble_eq_true rfl)
          conv at E1 => rhs; whnf
          have E2 : f 2 = _ := ht9 2 (Nat.le_of_ble_eq_true rfl)
          conv at E2 => rhs; whnf
          have E3 : f 3 = _ := ht9 3 (Nat.le_of_ble_eq_true rfl)
          have E4 : f 4 = _ := ht9 4 (Nat.le_of_ble_eq_true rfl)
          have E5 : f 5 = _ := ht9 5 (Nat.le_of_ble_eq_true rfl)
          conv at E5 => rhs; whnf
          have E6 : f 6 = _ := ht9 6 (Nat.le_of_ble_eq_true rfl)
          have E7 : f 7 = _ := ht9 7 (Nat.le_of_ble_eq_true rfl)
          have Ho9 : Only _ w4 w9 := hI9.2.1
          simp only [putAll, E0, E1, E2, E3, E4, E5, E6, E7, Nat.zero_add, Nat.reduceAdd, Act.put, List.setIfInBounds_toArray, List.set_cons_succ, List.set_cons_zero]
          clear E0 E1 E2 E3 E4 E5 E6 E7
          clear hI9 ht9 hcp9 hk9
          have hb5 := only_below Ho9
          have Hb5 := Lib.hid (Hb.out.trans (hb5.mono hzb))
          have Ho5 := Lib.hid (own_below Ho.out hb5)
          have hz5 := hb5.size
          have hN8 : Cir.nextOf d s' j < 8 := by
            have h1 := Cir.nextOf_lt d s' j
            have h2 : 2 ^ d.next.length ≤ 2 ^ 3 := Nat.pow_le_pow_right (show 0 < 2 by decide) l2
            omega
          clear hb5 Ho Ho9 p0 p1 p2 p3 hs0
          obtain ⟨w5, hw5⟩ : ∃ w5, w5 = w9 := ⟨_, rfl⟩
          subst hw5
          generalize Cir.nextOf d s' j = N at *
          go_wp2_with fail
          refine (l16Has_any _ L N _ (own_nats Ho5.out) (by omega)).mono ?_
          rintro e w' ⟨rfl, rfl⟩
          cases hc : Cir.memB L N
          · have HP := Lib.hid (Cir.push_no hc)
            have Hlit := Lib.hid (Row.of_own (World.ownsRow_lit (base := w5.heap.size) (e := 3) (size := 1) w5 #[.int .i64 N] 1 (Nat.le_refl _) (by unfold maxLen; omega) rfl))
            clear hc
            go_wp2_with (at_builtin; refine append_ints rfl (.tmp 36) (.tmp 38) rfl w1.heap.size _ L.length (nints L) rfl (Ho5.out.alloc _) _ 1 [.int .i64 N] rfl Hlit.out (by simp [Value.oneCell']) (by omega) (by simp; omega) ?_; intro v7 w7 hown7 hg7 hat7; have Ho7 := Lib.hid hown7; have Hg7 := Lib.hid hg7; clear hown7 hg7 hat7)
            go_roundw
            case rel => exact ⟨_, j + 1, rfl, by go_num, by omega, Lib.hid (by rw [HL2.out, Hsu.out, HP.out, nints_snoc, List.length_append]; exact Ho7.out), (Hb5.out.alloc Hb5.out.size _).grown Hg7.out (Hb5.out.alloc Hb5.out.size _).size (own_ge0 Ho5.out)⟩
            case measure => simp [intOf] <;> omega
          · have HP := Lib.hid (Cir.push_yes hc)
            clear hc
            go_wp2_with fail
            go_roundw
            case rel => exact ⟨_, j + 1, rfl, by go_num, by omega, Lib.hid (by rw [HL2.out, Hsu.out, HP.out]; exact Ho5.out), Hb5.out⟩
            case measure => simp [intOf] <;> omega
        · obtain rfl : j = M := by omega
          have HMr : Hid (res = Cir.bfs d (9 - (k + 1)) (k + 1) (Cir.pushes d s j l)) := Lib.hid (by rw [hres.out, Hstep.out, HM.out])
          have Hlk := Lib.hid (show k + 1 ≤ (Cir.pushes d s j l).length by have := (List.getElem?_eq_some_iff.1 Hgj.out).1; omega)
          obtain ⟨z, p0, p1, p2, p3⟩ := PCr.out
          clear hb p1 p2 p3
          generalize Cir.pushes d s j l = L at *
          go_wp2_with fail
          go_roundw
          case rel => exact ⟨_, k + 1, L, rfl, by go_num, Hlk.out, hL8, Hst2, HMr, Ho, Hb.out⟩
          case measure => simp [intOf] <;> omega
    · obtain rfl : k = l.length := by omega
      have hr : res = l := by rw [hres.out, Cir.bfs_end]
      go_wp2_with fail
      go_ret
      exact ⟨_, rfl, by rw [hr, nats_length]; exact own_mono Ho.out (by omega), B1.out.trans (Hb.out.mono B1.out.size)⟩
theorem implReach_any (v : Value) (c : Cz) (w : World) (h : CircAt w v c) :
    Calls Try.prog 31 #[v] w (OwnInts (Cir.reachI c) w) := by
  cases hv : Cir.valid c
  · have HC := Lib.hid h
    obtain ⟨vn, vg, vo, rfl, -⟩ := h
    have B0 := Lib.hid (bel_new w (.cells #[.int .i64 c.ins, vn, vg, vo] 26))
    obtain ⟨z, p0, p1, p2, p3⟩ := PCells.boxed w c.ins vn vg vo 26
    have HV := Lib.hid (implValid_any _ _ _ (HC.out.below B0.out))
    rw [hv] at HV
    have HR : Hid (Cir.reachI c = []) := Lib.hid (by unfold Cir.reachI; rw [hv]; rfl)
    clear hv HC
    go_enter Try.func31, Try.ntmps31
    go_wp2_with fail
    refine HV.out.mono ?_
    rintro e w1 ⟨rfl, hb1⟩
    have B := Lib.hid (B0.out.trans (hb1.mono B0.out.size))
    clear hb1
    go_wp2_with fail
    go_ret
    rw [HR.out]
    exact own_nil _ _ B.out
  · obtain ⟨d1, d2⟩ := Cir.nat_ok hv
    have hr : Cir.reachI c = nats (Cir.reach (Cir.nat c)) := by unfold Cir.reachI; rw [hv]; rfl
    rw [hr]
    exact implReach_ok v (Cir.nat c) w (by rw [← d1]; exact h) d2 (by rw [← d1]; exact hv)
theorem specReach_any (v : Value) (c : Cz) (w : World) (h : CircAt w v c) :
    Calls Try.prog 74 #[v] w (OwnInts (Cir.reachI c) w) := by
  cases hv : Cir.valid c
  · have HC := Lib.hid h
    obtain ⟨vn, vg, vo, rfl, -⟩ := h
    have B0 := Lib.hid (bel_new w (.cells #[.int .i64 c.ins, vn, vg, vo] 26))
    obtain ⟨z, p0, p1, p2, p3⟩ := PCells.boxed w c.ins vn vg vo 26
    have HV := Lib.hid (specValid_any _ _ _ (HC.out.below B0.out))
    rw [hv] at HV
    have HR : Hid (Cir.reachI c = []) := Lib.hid (by unfold Cir.reachI; rw [hv]; rfl)
    clear hv HC
    go_enter Try.func74, Try.ntmps74
    go_wp2_with fail
    refine HV.out.mono ?_
    rintro e w1 ⟨rfl, hb1⟩
    have B := Lib.hid (B0.out.trans (hb1.mono B0.out.size))
    clear hb1
    go_wp2_with fail
    go_ret
    rw [HR.out]
    exact ⟨_, rfl, World.ownsRow_lit (base := w.heap.size) (e := 3) (size := 1) w1 #[] 0 B.out.size (by unfold maxLen; omega) rfl, B.out.alloc B.out.size _⟩
  · obtain ⟨d1, d2⟩ := Cir.nat_ok hv
    have hr : Cir.reachI c = nats (Cir.reach (Cir.nat c)) := by unfold Cir.reachI; rw [hv]; rfl
    rw [hr]
    exact specReach_ok v (Cir.nat c) w (by rw [← d1]; exact h) d2 (by rw [← d1]; exact hv)
end Go.Proofs.Ytkkkjbinfdohpaa

namespace Go.Proofs.Ytkkkjbinfdohpaa
open Go.RowKit
set_option maxRecDepth 100000
set_option maxHeartbeats 8000000 in
theorem l16Rows_any (v vf vh : Value) (d : Ci) (l : List (Nat × List Nat)) (fr how : List Nat) (k s x : Nat) (p : List Nat) (w : World) (h : CircAt w v (Cir.toCz d)) (hi : d.ins ≤ 4) (hf : NatsAt w vf fr) (hh : NatsAt w vh how) (hB : Cir.Back l fr how) (hk : l[k]? = some (s, p)) (hl : l.length ≤ 8) (hx : x ≤ 1000) (hy : ∀ y ∈ how, y ≤ 1000) :
    Calls Try.prog 94 #[v, vf, vh, .int .i64 k, .int .i64 x] w fun e w' => (∃ u, e = .returned u ∧ SSIn bools (From w.heap.size) w' u (rowsOf d.ins (p ++ [x]))) ∧ Below w.heap.size w w' := by
  obtain ⟨vn, vg, vo, rfl, r1, r2, r3⟩ := h
  obtain ⟨Af, cf, rfl, hcf, hcfm⟩ := NatsAt.shape hf
  obtain ⟨Ah, ch, rfl, hch, hchm⟩ := NatsAt.shape hh
  unfold maxLen at hcfm hchm
  have hins : (Cir.toCz d).ins = (d.ins : Int) := rfl
  rw [hins]
  have B0 := Lib.hid (bel_new w (.cells #[.int .i64 d.ins, vn, vg, vo] 26))
  have PC := Lib.hid (PCells.boxed w d.ins vn vg vo 26)
  have hsz : (w.alloc (.cells #[.int .i64 d.ins, vn, vg, vo] 26)).heap.size = w.heap.size + 1 := by simp
  have HF := Lib.hid (hf.below B0.out)
  have HH := Lib.hid (hh.below B0.out)
  have HB := Lib.hid hB
  have Hk := Lib.hid hk
  have Hy := Lib.hid hy
  have e1 := hB.l1
  have e2 := hB.l2
  have hkl := (List.getElem?_eq_some_iff.1 hk).1
  obtain ⟨z, p0, p1, p2, p3⟩ := PC.out
  clear r1 r2 r3 hins hf hh hB hk hy
  go_enter Try.func94, Try.ntmps94
  go_wp2_with fail
  generalize w.alloc (.cells #[.int .i64 d.ins, vn, vg, vo] 26) = W at *
  refine (l4Bits_any x d.ins _ (by omega) (by omega)).mono ?_
  rintro e w1 ⟨v1, rfl, ho1, hb1⟩
  obtain ⟨A1, c1, hv1⟩ := slice_of_own ho1
  subst hv1
  have hbl := bel_new w1 (.cells #[.slice A1 (Cir.bits x d.ins).length c1] 69)
  have hbW := hb1.trans (hbl.mono hb1.size)
  have HS0 : Hid (SSIn bools (From w.heap.size) (w1.alloc (.cells #[.slice A1 (Cir.bits x d.ins).length c1] 69)) (.slice (some ⟨w1.heap.size, 0, none⟩) 1 1) (rowsOf d.ins [x])) := Lib.hid ⟨[.slice A1 (Cir.bits x d.ins).length c1], rfl, (RowIn.of_own (World.ownsRow_lit (base := w1.heap.size) (e := 69) (size := 1) w1 #[.slice A1 (Cir.bits x d.ins).length c1] 1 (Nat.le_refl _) (by unfold maxLen; omega) rfl)).mono (fun g hg => by have := hg.1; have := hb1.size; unfold From; omega), fun i y u hy hu => by
    cases i with
    | zero =>
      obtain rfl := Option.some.inj hy
      obtain rfl := Option.some.inj hu
      exact ((RowIn.of_own ho1).mono (fun g hg => by have := hg.1; unfold From; omega)).below hbl
    | succ i => simp [rowsOf] at hy⟩
  have HbW := Lib.hid hbW
  have zW := hb1.size
  clear hbW hbl hb1 ho1 p0 p1 p2 p3 z
  go_wp2_with fail
  generalize w1.alloc (.cells #[.slice A1 (Cir.bits x d.ins).length c1] 69) = w2 at *
  go_loopw [3, 11] (fun i u wr => ∃ (q s' : Nat) (p' tail : List Nat) (uu : Value), uu = u ∧ i = .int .i64 q ∧ Hid (l[q]? = some (s', p')) ∧ Hid (p ++ [x] = p' ++ tail) ∧ 0 < tail.length ∧ tail.length + q ≤ 1 + k ∧ Hid (SSIn bools (From w.heap.size) wr u (rowsOf d.ins tail)) ∧ Below W.heap.size W wr) (fun i _ _ => (intOf i).toNat)
  case atStart => exact ⟨k, s, p, [x], _, rfl, rfl, Hk, Lib.hid rfl, by simp, by rw [List.length_singleton]; omega, HS0, HbW.out⟩
  case round =>
    obtain ⟨q, s', p', tail, uu, huu, rfl, Hq, Ht, ht0, ht1, HS, hb⟩ := hrel
    subst huu
    have Hb := Lib.hid hb
    have hzb := hb.size
    clear HS0 HbW
    have PCr := Lib.hid (PC.out.below hb)
    obtain ⟨z, p0, p1, p2, p3⟩ := PCr.out
    have hql := (List.getElem?_eq_some_iff.1 Hq.out).1
    clear hb
    by_cases hq0 : 0 < q
    · obtain ⟨i, y, s2, p2', f1, f2, f3, f4, f5⟩ := HB.out.step q s' p' Hq.out hq0
      have Hf4 := Lib.hid f4
      have Ht2 : Hid (p ++ [x] = p2' ++ (y :: tail)) := Lib.hid (by rw [Ht.out, f5]; simp)
      have hyl := Hy.out y (List.mem_of_getElem? f3)
      have F1 := Lib.hid f1
      obtain ⟨bh, oh, y', rfl, hbhl, hyx, hys⟩ := nats_cell (nats_row HH.out) rfl (show q < how.length by omega)
      obtain rfl : y' = y := Option.some.inj (hyx.out.symm.trans f3)
      obtain ⟨bf, of, i', rfl, hbfl, hix, his⟩ := nats_cell (nats_row HF.out) rfl (show q < fr.length by omega)
      obtain rfl : i' = i := Option.some.inj (hix.out.symm.trans F1.out)
      have hlen : (rowsOf d.ins tail).length = tail.length := rowsOf_length _ _
      obtain ⟨Au, cu, hvu, -⟩ := HS.out.at.shape
      subst hvu
      have hcons : rowsOf d.ins (y' :: tail) = Cir.bits y' d.ins :: rowsOf d.ins tail := rfl
      have Hcons := Lib.hid hcons
      have hc1 := (Hb.out.cell (p := ⟨bh, oh + q, none⟩) hbhl).trans hys
      have hdq : decide (0 < q) = true := decide_eq_true hq0
      clear f1 f3 f4 f5 hcons Ht hys
      generalize rowsOf d.ins tail = R at *
      go_wp2_with fail
      obtain ⟨w4, hw4⟩ : ∃ w4, w4 = wr := ⟨_, rfl⟩
      subst hw4
      refine wp_region_rs (quietRS Try.prog _ w4 _) quietRS_ok (by kernel_rfl) (by kernel_rfl) (by kernel_rfl) (Nat.le_of_ble_eq_true rfl) trivial trivial ?_
      refine rs_old quietRS_ok quiet_any _ (.inl rfl) _ rfl rfl ?_
      refine rs_old quietRS_ok quiet_any _ (.inl rfl) _ rfl rfl ?_
      apply rs_eq quietRS_ok quiet_any
      · intro ρ w' ho hK
        have ho : Only _ w4 w' := ho
        obtain ⟨h0, h1, -⟩ := hK
        have h0' : ρ (.tmp 19) = _ := h0
        have h1' : ρ (.tmp 20) = _ := h1
        go_simp
        try exact rfl
      apply rs_eq quietRS_ok quiet_any
      · intro ρ w' ho hK
        have ho : Only _ w4 w' := ho
        obtain ⟨h0, -⟩ := hK
        have h0' : ρ (.tmp 21) = _ := h0
        have hb := only_below ho
        have q0 := (hb.cell (p := ⟨w.heap.size, 0, none⟩) z).trans p0
        have q4 := (hb.cell (p := ⟨bh, oh + q, none⟩) (Nat.lt_of_lt_of_le hbhl hzb)).trans hc1
        go_simp
        try exact rfl
      apply rs_eq quietRS_ok quiet_any
      · intro ρ w' ho hK
        have ho : Only _ w4 w' := ho
        obtain ⟨h0, -⟩ := hK
        have h0' : ρ (.tmp 5) = _ := h0
        go_simp
        try exact rfl
      apply rs_eq quietRS_ok quiet_any
      · intro ρ w' ho hK
        have ho : Only _ w4 w' := ho
        obtain ⟨h0, -⟩ := hK
        have h0' : ρ (.tmp 23) = _ := h0
        have hb := only_below ho
        have q0 := (hb.cell (p := ⟨w.heap.size, 0, none⟩) z).trans p0
        have q4 := (hb.cell (p := ⟨bh, oh + q, none⟩) (Nat.lt_of_lt_of_le hbhl hzb)).trans hc1
        go_simp
        try exact rfl
      refine rs_call quietRS_ok quiet_any (TBits w.heap.size (Cir.bits y' d.ins)) (stb_bits _ _) 46 _ _ rfl (fun ρ w' ho hK => by
        have ho : Only _ w4 w' := ho
        obtain ⟨h0, h1, h2, -⟩ := hK
        have h0' : ρ (.func 46) = .func (.func 46) #[] #[] := h0
        have h1' : ρ (.tmp 22) = _ := h1
        have h2' : ρ (.tmp 24) = _ := h2
        refine ⟨#[ρ (.tmp 22), ρ (.tmp 24)], ?_, ?_⟩
        · go_simp
        · rw [h1', h2']
          refine (l4Bits_any y' d.ins w' (by omega) (by omega)).mono ?_
          rintro e w2 ⟨v2, rfl, hO, hb⟩
          exact ⟨v2, rfl, (RowIn.of_own hO).mono (fun g hg => by have := hg.1; have := ho.size; unfold From; omega), hb⟩) ?_
      refine rs_front0 quietRS_ok quiet_any rfl w.heap.size (show w.heap.size ≤ w4.heap.size by omega) (Cir.bits y' d.ins) (fun ρ w' ho hK => by
        obtain ⟨h0, -⟩ := hK
        have h0' : RowIn (From w.heap.size) w' 1 (ρ (.tmp 25)) (Cir.bits y' d.ins).length (bools (Cir.bits y' d.ins)) := h0
        obtain ⟨A9, c9, e9, -, -⟩ := Row.shape h0'.1
        refine ⟨.slice A9 _ c9, e9 ▸ h0', ?_⟩
        clear h0' h0
        go_simp) ?_
      refine rs_old quietRS_ok quiet_any _ (.inl rfl) _ rfl rfl ?_
      refine rs_front quietRS_ok quiet_any rfl rfl rfl rfl 26 27 w.heap.size (show w.heap.size ≤ w4.heap.size by omega) _ R _ rfl _ _ rfl rfl rfl rfl HS.out (by omega) (by omega) ?_
      refine rs_same quietRS_ok quiet_any 28 9 (.inr rfl) rfl _ rfl ?_
      intro f w9 k9 hk9 hI9 ht9 hcp9
      have E0 : f 0 = _ := ht9 0 (Nat.le_of_ble_eq_true rfl)
      conv at E0 => rhs; whnf
      have E1 : f 1 = _ := ht9 1 (Nat.le_of_ble_eq_true rfl)
      conv at E1 => rhs; whnf
      have E2 : f 2 = _ := ht9 2 (Nat.le_of_ble_eq_true rfl)
      have E3 : f 3 = _ := ht9 3 (Nat.le_of_ble_eq_true rfl)
      have E4 : f 4 = _ := ht9 4 (Nat.le_of_ble_eq_true rfl)
      have E5 : f 5 = _ := ht9 5 (Nat.le_of_ble_eq_true rfl)
      have E6 : (TBits w.heap.size (Cir.bits y' d.ins)) w9 (f 6) := ht9 6 (Nat.le_of_ble_eq_true rfl)
      have E7 : (TFront w.heap.size (Cir.bits y' d.ins)) w9 (f 7) := ht9 7 (Nat.le_of_ble_eq_true rfl)
      have E8 : f 8 = _ := ht9 8 (Nat.le_of_ble_eq_true rfl)
      conv at E8 => rhs; whnf
      have E9 : (TSS w.heap.size (Cir.bits y' d.ins :: R)) w9 (f 9) := ht9 9 (Nat.le_of_ble_eq_true rfl)
      have E10 : (TSS w.heap.size (Cir.bits y' d.ins :: R)) w9 (f 10) := ht9 10 (Nat.le_of_ble_eq_true rfl)
      have Ho9 : Only _ w4 w9 := hI9.2.1
      have C10 : f 10 = f 9 := (hcp9 10 _ 28 9 rfl rfl rfl rfl).2
      simp only [putAll, E0, E1, E2, E3, E4, E5, E8, C10, Nat.zero_add, Nat.reduceAdd, Act.put, List.setIfInBounds_toArray, List.set_cons_succ, List.set_cons_zero]
      clear E0 E1 E2 E3 E4 E5 E8
      clear hI9 ht9 hcp9 hk9
      generalize f 6 = r6 at *
      generalize f 7 = r7 at *
      generalize f 9 = r9 at *
      have hb9 := only_below Ho9
      have HS9 := Lib.hid (show SSIn bools (From w.heap.size) w9 r9 (Cir.bits y' d.ins :: R) from E9)
      have Hb9 := Lib.hid (Hb.out.trans (hb9.mono hzb))
      have hc2 := (Hb9.out.cell (p := ⟨bf, of + q, none⟩) hbfl).trans his
      clear hb9 Ho9 E9 E7 E6 p0 p1 p2 p3 z
      obtain ⟨w5, hw5⟩ : ∃ w5, w5 = w9 := ⟨_, rfl⟩
      subst hw5
      go_wp2_with fail
      go_roundw
      case rel => exact ⟨i', s2, p2', y' :: tail, _, rfl, rfl, Hf4, Ht2, by simp, by rw [List.length_cons]; omega, Lib.hid (by rw [Hcons.out]; exact HS9.out), Hb9.out⟩
      case measure => simp [intOf] <;> omega
    · obtain rfl : q = 0 := by omega
      obtain ⟨s0, h0⟩ := HB.out.zero
      have hp : p' = [] := by rw [h0] at Hq; exact (Prod.mk.inj (Option.some.inj Hq.out)).2.symm
      have HT : Hid (p ++ [x] = tail) := Lib.hid (by rw [Ht.out, hp]; rfl)
      clear hp h0
      obtain ⟨Au, cu, hvu, -⟩ := HS.out.at.shape
      subst hvu
      go_wp2_with fail
      go_ret
      exact ⟨⟨_, rfl, by rw [HT.out]; exact HS.out⟩, B0.out.trans (Hb.out.mono B0.out.size)⟩
end Go.Proofs.Ytkkkjbinfdohpaa
