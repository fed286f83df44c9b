import Derived.Test.YtdgminjbgjbamaaS06
import Derived.Test.YtdgminjbgjbamaaS07
import Derived.Test.YtdgminjbgjbamaaS02
import Derived.Test.YtdgminjbgjbamaaS01
import Derived.Great.BuildSlice
set_option linter.unusedVariables false
set_option linter.unusedSimpArgs false
namespace Go.Proofs.Ytdgminjbgjbamaa
open Go.RowKit
set_option maxRecDepth 100000
set_option maxHeartbeats 8000000
/-! A circuit with other literals, by the program. -/
theorem ownLits_any (g : Nat) (d : Ci) (w : World) (h : PCirc w g (Cir.toCz d)) (hd : Cir.Ok d) :
    Calls Try.prog 91 #[.pointer (some ⟨g, 0, none⟩)] w (OwnInts ((Cir.ownL (Cir.nfirst d)).map Int.ofNat) w) := by
  have s1 := hd.ins
  have s2 := hd.nexts
  have hF : Hid (Calls Try.prog 61 #[.pointer (some ⟨g, 0, none⟩)] w fun e w'' => e = .returned (.int .i64 (Cir.nfirst d : Nat)) ∧ Below w.heap.size w w'') := Lib.hid (by
    have := firstGate_any g _ w h (by show (0 : Int) ≤ (d.ins : Int); omega) (by show (d.ins : Int) ≤ 100; omega) (by show (List.map _ _).length ≤ 100; rw [List.length_map]; omega)
    rwa [Cir.first_toCz] at this)
  have hnf : Cir.nfirst d ≤ 8 := by unfold Cir.nfirst; omega
  generalize Cir.nfirst d = n at *
  clear h hd s1 s2
  go_enter Try.func91, Try.ntmps91
  go_wp2_with fail
  refine hF.out.mono ?_
  rintro e w1 ⟨rfl, hb1⟩
  have Hb1 := Lib.hid hb1
  clear hb1 hF
  go_wp2_with fail
  go_loopw [3, 7] (fun r i wr => ∃ (k : Nat) (r' : Value), r' = r ∧ k ≤ n ∧ i = .int .i64 k ∧ Hid (wr.ownsRow w.heap.size 3 1 r k (ints ((Cir.ownL k).map Int.ofNat))) ∧ Hid (Below w.heap.size w wr)) (fun _ i _ => n - (intOf i).toNat)
  case atStart => exact ⟨0, _, rfl, Nat.zero_le _, rfl, Lib.hid (World.ownsRow_nil _ _ _ _), Hb1⟩
  case round =>
    obtain ⟨k, r', hr', hk, rfl, HO, Hb⟩ := hrel
    clear Hb1
    by_cases hlt : k < n
    · have hw2 := IntWalk.i64_in (2 * (k : Int)) (by omega)
      have Hlit := Lib.hid (Row.of_own (World.ownsRow_lit (base := wr.heap.size) (e := 3) (size := 1) wr #[.int .i64 (2 * (k : Int))] 1 (Nat.le_refl _) (by unfold maxLen; omega) rfl))
      have HOa := Lib.hid (HO.out.alloc (.cells #[.int .i64 (2 * (k : Int))] 3))
      have hz := Hb.out.size
      have hza : (wr.alloc (.cells #[.int .i64 (2 * (k : Int))] 3)).heap.size = wr.heap.size + 1 := by simp
      go_wp2_with (at_builtin; refine append_ints rfl (.tmp 10) (.tmp 13) rfl w.heap.size _ k _ rfl HOa.out _ 1 [.int .i64 (2 * (k : Int))] rfl Hlit.out (by simp [Value.oneCell']) (by omega) (by omega) ?_; intro v4 w4 hown4 hg4 hat4; have Hown4 := Lib.hid hown4; have Hg4 := Lib.hid hg4; clear hown4 hg4 hat4)
      go_roundw
      case rel => exact ⟨k + 1, _, rfl, by omega, by go_num, Lib.hid (by
          have e : ints ((Cir.ownL (k + 1)).map Int.ofNat) = ints ((Cir.ownL k).map Int.ofNat) ++ [.int .i64 (2 * (k : Int))] := by
            unfold Cir.ownL ints
            rw [List.range_succ]
            simp
          rw [e]
          exact Hown4.out), Lib.hid ((Hb.out.alloc Hb.out.size _).grown Hg4.out (by omega) (fun q hq => (HOa.out.lt q hq).1))⟩
      case measure => simp [intOf]; omega
    · obtain rfl : k = n := by omega
      go_wp2_with fail
      go_ret
      have e : ((Cir.ownL k).map Int.ofNat).length = k := by simp [Cir.ownL]
      exact ⟨_, rfl, by rw [e, ← hr']; exact hr'.symm ▸ HO.out, Hb.out⟩
theorem blk_ltB {w : World} {g : Nat} {o : Obj} (h : w.heap[g]? = some o) : g < w.heap.size := (Array.getElem?_eq_some_iff.1 h).1
theorem own_setB {w : World} {B n size k i : Nat} {e : TypeId} {v u : Value} {cs : List Value} (h : w.ownsRow B e size v n cs) (hk : k < B) : (w.setCell ⟨k, i, none⟩ u).ownsRow B e size v n cs :=
  own_only h (Only.grown (E := fun g => g = k) (set_grown w k i u) (fun x hx => (Option.some.inj hx).symm)) (fun g hg e => by have := (h.lt g hg).1; omega)
theorem heap_setCell_other' (w : World) (b i : Nat) (u : Value) (g : Nat) (h : g ≠ b) : (w.setCell ⟨b, i, none⟩ u).heap[g]? = w.heap[g]? := by
  by_cases hg : g < w.heap.size
  · exact (set_grown w b i u).block g hg (fun e => h (Option.some.inj e))
  · have hz : (w.setCell ⟨b, i, none⟩ u).heap.size = w.heap.size := by simp
    rw [Array.getElem?_eq_none (by omega), Array.getElem?_eq_none (by omega)]
/-- A circuit with other literals. -/
def mapC (u : Nat → Nat) (c : Ci) : Ci := { ins := c.ins, next := c.next.map u, gates := c.gates.map fun g => (u g.1, u g.2), outs := c.outs.map u }
def nints' (l : List Nat) : List Value := ints (l.map Int.ofNat)
def ngates (l : List (Nat × Nat)) : List Value := cubes (l.map fun g => ((g.1 : Int), (g.2 : Int)))
theorem nints'_snoc {l : List Nat} {k x : Nat} (h : l[k]? = some x) (u : Nat → Nat) : nints' ((l.take (k + 1)).map u) = nints' ((l.take k).map u) ++ [.int .i64 (u x : Nat)] := by
  unfold nints' ints
  rw [take_snoc h]
  simp
theorem ngates_snoc {l : List (Nat × Nat)} {k : Nat} {x : Nat × Nat} (h : l[k]? = some x) (u : Nat → Nat) : ngates ((l.take (k + 1)).map fun g => (u g.1, u g.2)) = ngates ((l.take k).map fun g => (u g.1, u g.2)) ++ [.int .i64 (u x.1 : Nat), .int .i64 (u x.2 : Nat)] := by
  unfold ngates cubes
  rw [take_snoc h]
  simp
/-- A circuit whose rows are the call's own. -/
def CircOwn (B : Nat) (w : World) (v : Value) (c : Cz) : Prop := ∃ vn vg vo, v = .agg #[.int .i64 c.ins, vn, vg, vo] ∧ w.ownsRow B 3 1 vn c.next.length (ints c.next) ∧ w.ownsRow B 72 2 vg c.gates.length (cubes c.gates) ∧ w.ownsRow B 3 1 vo c.outs.length (ints c.outs)
theorem CircOwn.at {B : Nat} {w : World} {v : Value} {c : Cz} (h : CircOwn B w v c) : CircAt w v c := by
  obtain ⟨vn, vg, vo, e, h1, h2, h3⟩ := h
  exact ⟨vn, vg, vo, e, Row.of_own h1, Row.of_own h2, Row.of_own h3⟩
theorem CircOwn.below {B : Nat} {w w' : World} {v : Value} {c : Cz} (h : CircOwn B w v c) (hb : Below w.heap.size w w') : CircOwn B w' v c := by
  obtain ⟨vn, vg, vo, e, h1, h2, h3⟩ := h
  exact ⟨vn, vg, vo, e, own_below h1 hb, own_below h2 hb, own_below h3 hb⟩
theorem CircOwn.mono {B B' : Nat} {w : World} {v : Value} {c : Cz} (h : CircOwn B w v c) (hB : B' ≤ B) : CircOwn B' w v c := by
  obtain ⟨vn, vg, vo, e, h1, h2, h3⟩ := h
  exact ⟨vn, vg, vo, e, own_mono h1 hB, own_mono h2 hB, own_mono h3 hB⟩
/-- A row of one type lies in no block of another. -/
theorem own_ne_tag {w : World} {base size n g : Nat} {e t : TypeId} {v : Value} {cs : List Value} {old : Array Value} {fr : Nat × Nat} (h : w.ownsRow base e size v n cs) (hk : w.heap[g]? = some (.cells old t fr)) (hne : e ≠ t) : v.ownBlock ≠ some g := by
  rcases h.2 with h2 | ⟨g', cap, cur, rfl, hb, hh, h3⟩
  · rw [h2.1]; intro e'; cases e'
  · intro e'
    have e'' := Option.some.inj e'
    simp only at e''
    subst e''
    rw [hh] at hk
    have h4 := Option.some.inj hk
    injection h4 with h5 h6
    exact hne h6
theorem replaced_any (g N : Nat) (c : Ci) (F : FuncId) (caps : Array Value) (u : Nat → Nat) (w : World) (h : PCirc w g (Cir.toCz c)) (l1 : c.next.length ≤ 1000) (l2 : c.gates.length ≤ 1000) (l3 : c.outs.length ≤ 1000)
    (n1 : ∀ l ∈ c.next, l < N) (n2 : ∀ x ∈ c.gates, x.1 < N ∧ x.2 < N) (n3 : ∀ l ∈ c.outs, l < N)
    (hF : ∀ vs w', (callFunc F vs).run Try.prog w' = .ok (.enter F vs) w')
    (hu : ∀ w', Below w.heap.size w w' → ∀ l, l < N → Calls Try.prog F (#[.int .i64 (l : Nat)] ++ caps) w' fun e w'' => e = .returned (.int .i64 (u l : Nat)) ∧ Below w'.heap.size w' w'') :
    Calls Try.prog 56 #[.pointer (some ⟨g, 0, none⟩), .func (.func F) #[] caps] w fun e w' => (∃ v, e = .returned v ∧ CircOwn w.heap.size w' v (Cir.toCz (mapC u c))) ∧ Below w.heap.size w w' := by
  have hnl : (Cir.toCz c).next.length = c.next.length := List.length_map _
  have hgl : (Cir.toCz c).gates.length = c.gates.length := List.length_map _
  have hol : (Cir.toCz c).outs.length = c.outs.length := List.length_map _
  have HU := Lib.hid hu
  obtain ⟨vn, vg, vo, hg, c0, c1, c2, c3, r1, r2, r3⟩ := h
  obtain ⟨An, cn, rfl, hcn, hcmn⟩ := Row.shape r1
  obtain ⟨Ag, cg, rfl, hcg, hcmg⟩ := Row.shape r2
  obtain ⟨Ao, co, rfl, hco, hcmo⟩ := Row.shape r3
  rw [hnl] at hcn c1
  rw [hgl] at hcg c2
  rw [hol] at hco c3
  have R1 : Hid (Row w 1 (.slice An c.next.length cn) c.next.length (ints (Cir.toCz c).next)) := Lib.hid (by have := r1; unfold IntsAt at this; rwa [hnl] at this)
  have R2 : Hid (Row w 2 (.slice Ag c.gates.length cg) c.gates.length (cubes (Cir.toCz c).gates)) := Lib.hid (by have := r2; unfold CubesAt at this; rwa [hgl] at this)
  have R3 : Hid (Row w 1 (.slice Ao c.outs.length co) c.outs.length (ints (Cir.toCz c).outs)) := Lib.hid (by have := r3; unfold IntsAt at this; rwa [hol] at this)
  have C1 := Lib.hid c1
  have C2 := Lib.hid c2
  have C3 := Lib.hid c3
  have HL := Lib.hid (And.intro hnl (And.intro hgl hol))
  have HN1 := Lib.hid n1
  have HN2 := Lib.hid n2
  have HN3 := Lib.hid n3
  have hz0 : Value.agg #[.int .i64 0, .slice none 0 0, .slice none 0 0, .slice none 0 0] = Value.agg #[.int .i64 0, .slice none 0 0, .slice none 0 0, .slice none 0 0] := rfl
  have hbR := bel_new w (.cells #[.int .i64 0, .slice none 0 0, .slice none 0 0, .slice none 0 0] 26)
  have hR0 := heap_alloc_new w (.cells #[.int .i64 0, .slice none 0 0, .slice none 0 0, .slice none 0 0] 26)
  have hzR : (w.alloc (.cells #[.int .i64 0, .slice none 0 0, .slice none 0 0, .slice none 0 0] 26)).heap.size = w.heap.size + 1 := by simp
  clear r1 r2 r3 hu hnl hgl hol n1 n2 n3 hz0 c2 c3
  go_enter Try.func56, Try.ntmps56
  go_wp2_with fail
  -- LOOPS
  have hX0 := heap_alloc_new (w.alloc (.cells #[.int .i64 0, .slice none 0 0, .slice none 0 0, .slice none 0 0] 26)) (.cells #[.int .i64 (Cir.toCz c).ins, .slice none 0 0, .slice none 0 0, .slice none 0 0] 26)
  have hb0 := bel_new (w.alloc (.cells #[.int .i64 0, .slice none 0 0, .slice none 0 0, .slice none 0 0] 26)) (.cells #[.int .i64 (Cir.toCz c).ins, .slice none 0 0, .slice none 0 0, .slice none 0 0] 26)
  have hR1 := (hb0.block w.heap.size (by omega)).trans hR0
  have hB0 := hbR.trans (hb0.mono (by omega))
  rw [hzR] at hX0
  generalize (w.alloc (.cells #[.int .i64 0, .slice none 0 0, .slice none 0 0, .slice none 0 0] 26)).alloc (.cells #[.int .i64 (Cir.toCz c).ins, .slice none 0 0, .slice none 0 0, .slice none 0 0] 26) = W0 at *
  obtain ⟨gR, hgRe⟩ : ∃ gR, gR = w.heap.size := ⟨_, rfl⟩
  obtain ⟨gB, hgBe⟩ : ∃ gB, gB = w.heap.size + 1 := ⟨_, rfl⟩
  rw [← hgRe] at hR1 ⊢
  rw [← hgBe] at hX0
  rw [hgRe, ← hgBe, ← hgRe]
  have hgRB : gR < gB := by omega
  have hwR : w.heap.size ≤ gR := by omega
  have HX0 := Lib.hid hX0
  have HR1 := Lib.hid hR1
  have HB0 := Lib.hid hB0
  clear hX0 hR1 hB0 hb0 hbR hR0 hzR hgRe hgBe

  go_loopw [22] (fun i wr => ∃ (k : Nat) (vx : Value), k ≤ c.next.length ∧ i = .int .i64 k ∧ Hid (wr.heap[gB]? = some (.cells #[.int .i64 (Cir.toCz c).ins, vx, .slice none 0 0, .slice none 0 0] 26 (0, 0))) ∧ Hid (wr.heap[gR]? = some (.cells #[.int .i64 0, .slice none 0 0, .slice none 0 0, .slice none 0 0] 26 (0, 0))) ∧ Hid (wr.ownsRow (gB + 1) 3 1 vx k (nints' ((c.next.take k).map u))) ∧ Hid (Below w.heap.size w wr)) (fun i _ => c.next.length - (intOf i).toNat)
  case atStart => exact ⟨0, .slice none 0 0, Nat.zero_le _, rfl, HX0, HR1, Lib.hid (World.ownsRow_nil _ _ _ _), HB0⟩
  case round =>
    obtain ⟨k, vx, hk, rfl, HX, HR, HO, Hb⟩ := hrel
    clear HX0 HR1 HB0
    have hgB := blk_ltB HX.out
    have hgR := blk_ltB HR.out
    by_cases hlt : k < c.next.length
    · obtain ⟨l, hl⟩ := at_some hlt
      have hlN := HN1.out l (List.mem_of_getElem? hl)
      obtain ⟨b, o, x, rfl, hbl, hx, hs⟩ := ints_open R1.out Hb.out HL.out.1.symm (i := k) (by rw [HL.out.1]; exact hlt)
      have hxe : x = (l : Int) := by
        have h1 := hx.out
        unfold Cir.toCz at h1
        rw [List.getElem?_map, hl] at h1
        exact (Option.some.inj h1).symm
      subst hxe
      have HS := Lib.hid (nints'_snoc hl u)
      have hne : ¬ (vx.ownBlock = some gB) := fun e => by have := (HO.out.lt gB e).1; omega
      have hneR : ¬ (vx.ownBlock = some gR) := fun e => by have := (HO.out.lt gR e).1; omega
      have HBel : Hid (∀ w', Only (fun g => vx.ownBlock = some g) wr w' → Below w.heap.size w w') := Lib.hid fun w' ho => Only.below Hb.out ho Hb.out.size (fun q hq => by have := (HO.out.lt q hq).1; omega)
      generalize hcs : nints' ((c.next.take k).map u) = cs at *
      clear hx hl hcs
      go_wp2_with fail
      obtain ⟨i0, hi0, hz0, hz1, hz2⟩ := info_parts info_int
      have hO := fun ops a => appRS2_ok (Pg := Try.prog) (ops := ops) (a := a) (news := [.int .i64 (u l : Nat)]) (d := 6) (HO.out)
      refine wp_region_rsl (appRS2 Try.prog _ wr _ (gB + 1) 3 1 (vx) (k) (cs) [.int .i64 (u l : Nat)] 6) (hO _ _) (by kernel_rfl) (by kernel_rfl) (by kernel_rfl) 8 _ rfl rfl (by kernel_rfl) (show (6 : Nat) < 8 by decide) trivial HO.out ?_
      apply rs_eq (hO _ _) (.inl (Nat.ne_of_beq_eq_false rfl))
      · intro ρ w' ho hK
        have ho : Only _ wr w' := ho
        obtain ⟨h0, -⟩ := hK
        have h0' : ρ (.tmp 5) = _ := h0
        go_simp
        try exact rfl
      apply rs_eq (hO _ _) (.inl (Nat.ne_of_beq_eq_false rfl))
      · intro ρ w' ho hK
        have ho : Only _ wr w' := ho
        obtain ⟨h0, -⟩ := hK
        have h0' : ρ (.tmp 26) = _ := h0
        have q1 := cell_on ho (fun e => hne e) hgB (blk_cell HX.out 1)
        go_simp
        try exact rfl
      refine rs_old (hO _ _) (.inl (Nat.ne_of_beq_eq_false rfl)) _ (.inl rfl) _ rfl rfl ?_
      refine rs_old (hO _ _) (.inl (Nat.ne_of_beq_eq_false rfl)) _ (.inl rfl) _ rfl rfl ?_
      refine rs_callV (hO _ _) (.inl (Nat.ne_of_beq_eq_false rfl)) (TEq (.int .i64 ((u l : Nat) : Int))) (stb_eq _ _) (.tmp 28) _ _ rfl (fun ρ w' ho hK => by
        have ho : Only _ wr w' := ho
        obtain ⟨h0, h1, -⟩ := hK
        have h0' : ρ (.tmp 28) = _ := h0
        have h1' : ρ (.tmp 29) = _ := h1
        refine ⟨F, #[ρ (.tmp 29)] ++ caps, ?_, ?_⟩
        · go_simp
        · rw [h1']
          refine (HU.out w' (HBel.out w' ho) l hlN).mono ?_
          rintro e w2 ⟨rfl, hb⟩
          exact ⟨_, rfl, rfl, hb⟩) ?_
      refine rs_build1 (hO _ _) (.inl (Nat.ne_of_beq_eq_false rfl)) 1 [.int .i64 (u l : Nat)] 3 rfl (fun ρ w' ho hK => by
        have ho : Only _ wr w' := ho
        obtain ⟨h0, -⟩ := hK
        have h0' : ρ (.tmp 30) = _ := h0
        go_simp) ?_
      refine rs_append2 rfl (gB + 1) 3 23 1 (vx) (k) (cs) _ rfl rfl (fun g hg => hg) (show gB + 1 ≤ wr.heap.size by omega) _ _ rfl _ _ rfl rfl rfl rfl i0 _ 8 Try.underlying23 hi0 hz0 hz1 hz2 rfl (by decide) (by omega) (by decide) (by simp [Value.oneCell']) ?_
      apply rs_eq (hO _ _) (.inl (Nat.ne_of_beq_eq_false rfl))
      · intro ρ w' ho hK
        have ho : Only _ wr w' := ho
        obtain ⟨h0, -⟩ := hK
        have h0' : ρ (.tmp 5) = _ := h0
        go_simp
        try exact rfl
      intro f w9 k9 hk9 hI9 ht9 hcp9
      have E0 : f 0 = _ := ht9 0 (Nat.le_of_ble_eq_true rfl)
      have E1 : f 1 = _ := ht9 1 (Nat.le_of_ble_eq_true rfl)
      have E2 : f 2 = _ := ht9 2 (Nat.le_of_ble_eq_true rfl)
      conv at E2 => rhs; whnf
      have E3 : f 3 = _ := ht9 3 (Nat.le_of_ble_eq_true rfl)
      conv at E3 => rhs; whnf
      have E4 : f 4 = _ := ht9 4 (Nat.le_of_ble_eq_true rfl)
      have E5 : (TNew _ 1 1 [.int .i64 (u l : Nat)]) w9 (f 5) := ht9 5 (Nat.le_of_ble_eq_true rfl)
      have E6 : (TAny) w9 (f 6) := ht9 6 (Nat.le_of_ble_eq_true rfl)
      have E7 : f 7 = _ := ht9 7 (Nat.le_of_ble_eq_true rfl)
      have Ho9 : Only _ wr w9 := hI9.2.1
      have hown9 : w9.ownsRow (gB + 1) 3 1 (f 6) (k + 1) (cs ++ [.int .i64 (u l : Nat)]) := hI9.2.2.1
      have hat9 : ∀ g, (f 6).ownBlock = some g → (vx).ownBlock = some g ∨ wr.heap.size ≤ g := hI9.2.2.2
      simp only [putAll, E0, E1, E2, E3, E4, E7, Nat.zero_add, Nat.reduceAdd, Act.put, List.setIfInBounds_toArray, List.set_cons_succ, List.set_cons_zero, List.take, List.getElem_toArray, List.getElem_cons_succ, List.getElem_cons_zero]
      clear E0 E1 E2 E3 E4 E7
      clear hI9 ht9 hcp9 hk9
      generalize f 5 = r5 at *
      generalize f 6 = r6 at *
      have O9 : Only (fun g => vx.ownBlock = some g) wr w9 := Ho9
      have hx9 := (O9.block gB hgB hne).trans HX.out
      have hR9 := (O9.block gR hgR hneR).trans HR.out
      obtain ⟨A9, c9, hv9⟩ := slice_of_own hown9
      subst hv9
      have q1 := blk_cell hx9 1
      have f1 := blk_free hx9 1
      have Hown9 := Lib.hid hown9
      have Hx10 := Lib.hid (heap_setCell_same w9 gB 1 _ _ (.slice A9 (k + 1) c9) hx9)
      have HR9' := Lib.hid hR9
      have HB9 := Lib.hid (HBel.out w9 O9)
      clear Ho9 hown9 hat9 hx9 hR9 O9 hO HX HR HO HBel
      go_wp2_with fail
      go_roundw
      case rel => exact ⟨k + 1, _, by omega, by go_num, Lib.hid (by have h := Hx10.out; simp at h; exact h), Lib.hid ((heap_setCell_other' _ _ _ _ _ (by omega)).trans HR9'.out), Lib.hid (by rw [HS.out]; exact own_setB Hown9.out (by omega)), Lib.hid (HB9.out.setCell (by simp only; omega) _)⟩
      case measure => simp [intOf]; omega
    · obtain rfl : k = c.next.length := by omega
      rw [List.take_length] at HO

      have HO1 : Hid (wr.ownsRow (gB + 1) 3 1 vx c.next.length (nints' (c.next.map u))) := HO
      have q0 := (Hb.out.cell (p := ⟨g, 2, none⟩) hg).trans C2.out
      clear HO
      go_wp2_with fail
      obtain ⟨W1, hW1⟩ : ∃ W, W = wr := ⟨_, rfl⟩
      subst hW1
      obtain ⟨B2, hB2⟩ : ∃ B2, B2 = W1.heap.size := ⟨_, rfl⟩
      have hB2B : gB < B2 := by omega
      have hvx2 : ∀ g, vx.ownBlock = some g → g < B2 := fun g hg => by rw [hB2]; exact (HO1.out.lt g hg).2
      have Hvx2 := Lib.hid hvx2
      have hz1 : B2 ≤ W1.heap.size := by omega
      clear hvx2 hB2 q0
      go_loopw [40] (fun i wr => ∃ (k : Nat) (v2 : Value), k ≤ c.gates.length ∧ i = .int .i64 k ∧ Hid (wr.heap[gB]? = some (.cells #[.int .i64 (Cir.toCz c).ins, vx, v2, .slice none 0 0] 26 (0, 0))) ∧ Hid (wr.heap[gR]? = some (.cells #[.int .i64 0, .slice none 0 0, .slice none 0 0, .slice none 0 0] 26 (0, 0))) ∧ Hid (wr.ownsRow (gB + 1) 3 1 vx c.next.length (nints' (c.next.map u))) ∧ Hid (wr.ownsRow B2 72 2 v2 k (ngates ((c.gates.take k).map fun g => (u g.1, u g.2)))) ∧ B2 ≤ wr.heap.size ∧ Hid (Below w.heap.size w wr)) (fun i _ => c.gates.length - (intOf i).toNat)
      case atStart => exact ⟨0, .slice none 0 0, Nat.zero_le _, rfl, HX, HR, HO1, Lib.hid (World.ownsRow_nil _ _ _ _), hz1, Hb⟩
      case round =>
        obtain ⟨k, v2, hk, rfl, HX', HR', HO1', HO2, hz2, Hb'⟩ := hrel
        clear HX HR HO1 Hb hlt hz1
        have hgB := blk_ltB HX'.out
        have hgR := blk_ltB HR'.out
        by_cases hlt : k < c.gates.length
        · obtain ⟨gt, hgt⟩ := at_some hlt
          obtain ⟨hlN1, hlN2⟩ := HN2.out gt (List.mem_of_getElem? hgt)
          obtain ⟨b, o, x, rfl, hbl, hx, hs1, hs2⟩ := cubes_open R2.out Hb'.out HL.out.2.1.symm (i := k) (by rw [HL.out.2.1]; exact hlt)
          have hxe : x = ((gt.1 : Int), (gt.2 : Int)) := by
            have h1 := hx.out
            unfold Cir.toCz at h1
            simp only [List.getElem?_map, hgt] at h1
            exact (Option.some.inj h1).symm
          subst hxe
          have HS := Lib.hid (ngates_snoc hgt u)
          generalize hcs : ngates ((c.gates.take k).map fun g => (u g.1, u g.2)) = cs at *
          obtain ⟨x1, hx1⟩ : ∃ x1, x1 = gt.1 := ⟨_, rfl⟩
          obtain ⟨x2, hx2⟩ : ∃ x2, x2 = gt.2 := ⟨_, rfl⟩
          rw [← hx1] at hlN1 HS hs1
          rw [← hx2] at hlN2 HS hs2
          have hlt2 : ∀ g, v2.ownBlock = some g → B2 ≤ g ∧ g < wr.heap.size := fun g hg => HO2.out.lt g hg
          have hba := bel_new wr (.cells #[.int .i64 (x1 : Int), .int .i64 (x2 : Int)] 72)
          have hg9 := heap_alloc_new wr (.cells #[.int .i64 (x1 : Int), .int .i64 (x2 : Int)] 72)
          have hza : (wr.alloc (.cells #[.int .i64 (x1 : Int), .int .i64 (x2 : Int)] 72)).heap.size = wr.heap.size + 1 := by simp
          have hXa := (hba.block gB hgB).trans HX'.out
          have hRa := (hba.block gR hgR).trans HR'.out
          have HO1a := Lib.hid (own_below HO1'.out hba)
          have HO2a := Lib.hid (own_below HO2.out hba)
          have Hba := Lib.hid (Hb'.out.trans (hba.mono Hb'.out.size))
          have hzb := Hb'.out.size
          clear hx hgt hcs hx1 hx2 hbl hba HO1' HO2
          go_wp2_with fail
          generalize wr.alloc (.cells #[.int .i64 (x1 : Int), .int .i64 (x2 : Int)] 72) = Wg at *
          obtain ⟨gk, hgk⟩ : ∃ gk, gk = wr.heap.size := ⟨_, rfl⟩
          rw [← hgk] at hg9 hza hlt2 ⊢
          have hgkz : gk < Wg.heap.size := by omega
          have hgBz : gB < Wg.heap.size := by omega
          have hgRz : gR < Wg.heap.size := by omega
          have hne : ¬ (v2.ownBlock = some gB) := fun e => by have := (hlt2 gB e).1; omega
          have hneR : ¬ (v2.ownBlock = some gR) := fun e => by have := (hlt2 gR e).1; omega
          have hnek : ¬ (v2.ownBlock = some gk) := fun e => by have := (hlt2 gk e).2; omega
          have hB2z : B2 ≤ Wg.heap.size := by omega
          have HBel : Hid (∀ w', Only (fun g => v2.ownBlock = some g) Wg w' → Below w.heap.size w w') := Lib.hid fun w' ho => Only.below Hba.out ho Hba.out.size (fun q hq => by have := (hlt2 q hq).1; omega)
          have HG9 := Lib.hid hg9
          have HXa := Lib.hid hXa
          have HRa := Lib.hid hRa
          have Hlt2 := Lib.hid hlt2
          clear hg9 hXa hRa hgk hza hlt2 hs1 hs2
          obtain ⟨i0, hi0, hz0, hz1, hz2⟩ := info_parts info_gate
          have hO := fun ops a => appRS2_ok (Pg := Try.prog) (ops := ops) (a := a) (news := [.int .i64 (u x1 : Nat), .int .i64 (u x2 : Nat)]) (d := 12) (HO2a.out)
          refine wp_region_rsl (appRS2 Try.prog _ Wg _ (B2) 72 2 (v2) (k) (cs) [.int .i64 (u x1 : Nat), .int .i64 (u x2 : Nat)] 12) (hO _ _) (by kernel_rfl) (by kernel_rfl) (by kernel_rfl) 14 _ rfl rfl (by kernel_rfl) (show (12 : Nat) < 14 by decide) trivial HO2a.out ?_
          apply rs_eq (hO _ _) (.inl (Nat.ne_of_beq_eq_false rfl))
          · intro ρ w' ho hK
            have ho : Only _ Wg w' := ho
            obtain ⟨h0, -⟩ := hK
            have h0' : ρ (.tmp 5) = _ := h0
            go_simp
            try exact rfl
          apply rs_eq (hO _ _) (.inl (Nat.ne_of_beq_eq_false rfl))
          · intro ρ w' ho hK
            have ho : Only _ Wg w' := ho
            obtain ⟨h0, -⟩ := hK
            have h0' : ρ (.tmp 44) = _ := h0
            have q1 := cell_on ho (fun e => hne e) hgBz (blk_cell HXa.out 2)
            have k0 := cell_on ho (fun e => hnek e) hgkz (blk_cell HG9.out 0)
            have k1 := cell_on ho (fun e => hnek e) hgkz (blk_cell HG9.out 1)
            go_simp
            try exact rfl
          refine rs_old (hO _ _) (.inl (Nat.ne_of_beq_eq_false rfl)) _ (.inl rfl) _ rfl rfl ?_
          apply rs_eq (hO _ _) (.inl (Nat.ne_of_beq_eq_false rfl))
          · intro ρ w' ho hK
            have ho : Only _ Wg w' := ho
            obtain ⟨h0, -⟩ := hK
            have h0' : ρ (.tmp 9) = _ := h0
            go_simp
            try exact rfl
          apply rs_eq (hO _ _) (.inl (Nat.ne_of_beq_eq_false rfl))
          · intro ρ w' ho hK
            have ho : Only _ Wg w' := ho
            obtain ⟨h0, -⟩ := hK
            have h0' : ρ (.tmp 47) = _ := h0
            have q1 := cell_on ho (fun e => hne e) hgBz (blk_cell HXa.out 2)
            have k0 := cell_on ho (fun e => hnek e) hgkz (blk_cell HG9.out 0)
            have k1 := cell_on ho (fun e => hnek e) hgkz (blk_cell HG9.out 1)
            go_simp
            try exact rfl
          refine rs_callV (hO _ _) (.inl (Nat.ne_of_beq_eq_false rfl)) (TEq (.int .i64 ((u x1 : Nat) : Int))) (stb_eq _ _) (.tmp 46) _ _ rfl (fun ρ w' ho hK => by
            have ho : Only _ Wg w' := ho
            obtain ⟨h0, h1, -⟩ := hK
            have h0' : ρ (.tmp 46) = _ := h0
            have h1' : ρ (.tmp 48) = _ := h1
            refine ⟨F, #[ρ (.tmp 48)] ++ caps, ?_, ?_⟩
            · go_simp
            · rw [h1']
              refine (HU.out w' (HBel.out w' ho) x1 hlN1).mono ?_
              rintro e w2 ⟨rfl, hb⟩
              exact ⟨_, rfl, rfl, hb⟩) ?_
          refine rs_old (hO _ _) (.inl (Nat.ne_of_beq_eq_false rfl)) _ (.inl rfl) _ rfl rfl ?_
          apply rs_eq (hO _ _) (.inl (Nat.ne_of_beq_eq_false rfl))
          · intro ρ w' ho hK
            have ho : Only _ Wg w' := ho
            obtain ⟨h0, -⟩ := hK
            have h0' : ρ (.tmp 9) = _ := h0
            go_simp
            try exact rfl
          apply rs_eq (hO _ _) (.inl (Nat.ne_of_beq_eq_false rfl))
          · intro ρ w' ho hK
            have ho : Only _ Wg w' := ho
            obtain ⟨h0, -⟩ := hK
            have h0' : ρ (.tmp 51) = _ := h0
            have q1 := cell_on ho (fun e => hne e) hgBz (blk_cell HXa.out 2)
            have k0 := cell_on ho (fun e => hnek e) hgkz (blk_cell HG9.out 0)
            have k1 := cell_on ho (fun e => hnek e) hgkz (blk_cell HG9.out 1)
            go_simp
            try exact rfl
          refine rs_callV (hO _ _) (.inl (Nat.ne_of_beq_eq_false rfl)) (TEq (.int .i64 ((u x2 : Nat) : Int))) (stb_eq _ _) (.tmp 50) _ _ rfl (fun ρ w' ho hK => by
            have ho : Only _ Wg w' := ho
            obtain ⟨h0, h1, -⟩ := hK
            have h0' : ρ (.tmp 50) = _ := h0
            have h1' : ρ (.tmp 52) = _ := h1
            refine ⟨F, #[ρ (.tmp 52)] ++ caps, ?_, ?_⟩
            · go_simp
            · rw [h1']
              refine (HU.out w' (HBel.out w' ho) x2 hlN2).mono ?_
              rintro e w2 ⟨rfl, hb⟩
              exact ⟨_, rfl, rfl, hb⟩) ?_
          apply rs_eq (hO _ _) (.inl (Nat.ne_of_beq_eq_false rfl))
          · intro ρ w' ho hK
            have ho : Only _ Wg w' := ho
            obtain ⟨h0, h1, -⟩ := hK
            have h0' : ρ (.tmp 49) = _ := h0
            have h1' : ρ (.tmp 53) = _ := h1
            go_simp
            try exact rfl
          refine rs_build1 (hO _ _) (.inl (Nat.ne_of_beq_eq_false rfl)) 2 [.int .i64 (u x1 : Nat), .int .i64 (u x2 : Nat)] 72 rfl (fun ρ w' ho hK => by
            have ho : Only _ Wg w' := ho
            obtain ⟨h0, -⟩ := hK
            have h0' : ρ (.tmp 54) = _ := h0
            go_simp) ?_
          refine rs_append2 rfl (B2) 72 24 2 (v2) (k) (cs) _ rfl rfl (fun g hg => hg) (show B2 ≤ Wg.heap.size by omega) _ _ rfl _ _ rfl rfl rfl rfl i0 _ 16 Try.underlying24 hi0 hz0 hz1 hz2 rfl (by decide) (by omega) (by decide) (by simp [Value.oneCell']) ?_
          apply rs_eq (hO _ _) (.inl (Nat.ne_of_beq_eq_false rfl))
          · intro ρ w' ho hK
            have ho : Only _ Wg w' := ho
            obtain ⟨h0, -⟩ := hK
            have h0' : ρ (.tmp 5) = _ := h0
            go_simp
            try exact rfl
          intro f w9 k9 hk9 hI9 ht9 hcp9
          have E0 : f 0 = _ := ht9 0 (Nat.le_of_ble_eq_true rfl)
          have E1 : f 1 = _ := ht9 1 (Nat.le_of_ble_eq_true rfl)
          have E2 : f 2 = _ := ht9 2 (Nat.le_of_ble_eq_true rfl)
          conv at E2 => rhs; whnf
          have E3 : f 3 = _ := ht9 3 (Nat.le_of_ble_eq_true rfl)
          have E4 : f 4 = _ := ht9 4 (Nat.le_of_ble_eq_true rfl)
          have E5 : f 5 = _ := ht9 5 (Nat.le_of_ble_eq_true rfl)
          have E6 : f 6 = _ := ht9 6 (Nat.le_of_ble_eq_true rfl)
          conv at E6 => rhs; whnf
          have E7 : f 7 = _ := ht9 7 (Nat.le_of_ble_eq_true rfl)
          have E8 : f 8 = _ := ht9 8 (Nat.le_of_ble_eq_true rfl)
          have E9 : f 9 = _ := ht9 9 (Nat.le_of_ble_eq_true rfl)
          have E10 : f 10 = _ := ht9 10 (Nat.le_of_ble_eq_true rfl)
          have E11 : (TNew _ 2 1 [.int .i64 (u x1 : Nat), .int .i64 (u x2 : Nat)]) w9 (f 11) := ht9 11 (Nat.le_of_ble_eq_true rfl)
          have E12 : (TAny) w9 (f 12) := ht9 12 (Nat.le_of_ble_eq_true rfl)
          have E13 : f 13 = _ := ht9 13 (Nat.le_of_ble_eq_true rfl)
          have Ho9 : Only _ Wg w9 := hI9.2.1
          have hown9 : w9.ownsRow (B2) 72 2 (f 12) (k + 1) (cs ++ [.int .i64 (u x1 : Nat), .int .i64 (u x2 : Nat)]) := hI9.2.2.1
          have hat9 : ∀ g, (f 12).ownBlock = some g → (v2).ownBlock = some g ∨ Wg.heap.size ≤ g := hI9.2.2.2
          simp only [putAll, E0, E1, E2, E3, E4, E5, E6, E7, E8, E9, E10, E13, Nat.zero_add, Nat.reduceAdd, Act.put, List.setIfInBounds_toArray, List.set_cons_succ, List.set_cons_zero, List.take, List.getElem_toArray, List.getElem_cons_succ, List.getElem_cons_zero]
          clear E0 E1 E2 E3 E4 E5 E6 E7 E8 E9 E10 E13
          clear hI9 ht9 hcp9 hk9
          generalize f 11 = r11 at *
          generalize f 12 = r12 at *
          have O9 : Only (fun g => v2.ownBlock = some g) Wg w9 := Ho9
          have hx9 := (O9.block gB hgBz hne).trans HXa.out
          have hR9 := (O9.block gR hgRz hneR).trans HRa.out
          obtain ⟨A9, c9, hv9⟩ := slice_of_own hown9
          subst hv9
          have q1 := blk_cell hx9 2
          have f1 := blk_free hx9 2
          have Hown9 := Lib.hid hown9
          have Hx10 := Lib.hid (heap_setCell_same w9 gB 2 _ _ (.slice A9 (k + 1) c9) hx9)
          have HR9' := Lib.hid hR9
          have HB9 := Lib.hid (HBel.out w9 O9)
          have HO1b := Lib.hid (own_only HO1a.out O9 (fun g hg e => by have h1 := Hvx2.out g hg; have h2 := (Hlt2.out g e).1; omega))
          have hz9 := O9.size
          clear Ho9 hown9 hat9 hx9 hR9 O9 hO HXa HRa HO2a HBel HG9 HO1a Hba
          go_wp2_with fail
          go_roundw
          case rel => exact ⟨k + 1, _, by omega, by go_num, Lib.hid (by have h := Hx10.out; simp at h; exact h), Lib.hid ((heap_setCell_other' _ _ _ _ _ (by omega)).trans HR9'.out), Lib.hid (own_setB HO1b.out (by omega)), Lib.hid (by rw [HS.out]; exact own_setB Hown9.out (by omega)), by simp; omega, Lib.hid (HB9.out.setCell (by simp only; omega) _)⟩
          case measure => simp [intOf]; omega
        · obtain rfl : k = c.gates.length := by omega
          rw [List.take_length] at HO2

          have HO2e : Hid (wr.ownsRow B2 72 2 v2 c.gates.length (ngates (c.gates.map fun g => (u g.1, u g.2)))) := HO2
          have q0 := (Hb'.out.cell (p := ⟨g, 3, none⟩) hg).trans C3.out
          clear HO2
          go_wp2_with fail
          obtain ⟨W2, hW2⟩ : ∃ W, W = wr := ⟨_, rfl⟩
          subst hW2
          obtain ⟨B3, hB3⟩ : ∃ B3, B3 = W2.heap.size := ⟨_, rfl⟩
          have hB3B : gB < B3 := by omega
          have hB3B2 : B2 ≤ B3 := by omega
          have hvx3 : ∀ g, vx.ownBlock = some g → g < B3 := fun g hg => by rw [hB3]; exact (HO1'.out.lt g hg).2
          have hv23 : ∀ g, v2.ownBlock = some g → g < B3 := fun g hg => by rw [hB3]; exact (HO2e.out.lt g hg).2
          have Hvx3 := Lib.hid (And.intro hvx3 hv23)
          have hz3 : B3 ≤ W2.heap.size := by omega
          clear hvx3 hv23 hB3 q0 Hvx2
          go_loopw [64] (fun i wr => ∃ (k : Nat) (v3 : Value), k ≤ c.outs.length ∧ i = .int .i64 k ∧ Hid (wr.heap[gB]? = some (.cells #[.int .i64 (Cir.toCz c).ins, vx, v2, v3] 26 (0, 0))) ∧ Hid (wr.heap[gR]? = some (.cells #[.int .i64 0, .slice none 0 0, .slice none 0 0, .slice none 0 0] 26 (0, 0))) ∧ Hid (wr.ownsRow (gB + 1) 3 1 vx c.next.length (nints' (c.next.map u))) ∧ Hid (wr.ownsRow B2 72 2 v2 c.gates.length (ngates (c.gates.map fun g => (u g.1, u g.2)))) ∧ Hid (wr.ownsRow B3 3 1 v3 k (nints' ((c.outs.take k).map u))) ∧ B3 ≤ wr.heap.size ∧ Hid (Below w.heap.size w wr)) (fun i _ => c.outs.length - (intOf i).toNat)
          case atStart => exact ⟨0, .slice none 0 0, Nat.zero_le _, rfl, HX', HR', HO1', HO2e, Lib.hid (World.ownsRow_nil _ _ _ _), hz3, Hb'⟩
          case round =>
            obtain ⟨k, v3, hk, rfl, HX3, HR3, HO1e, HO2f, HO3, hz4, Hb3⟩ := hrel
            clear HX' HR' HO1' HO2e Hb' hlt hz3
            have hgB := blk_ltB HX3.out
            have hgR := blk_ltB HR3.out
            by_cases hlt : k < c.outs.length
            · obtain ⟨l, hl⟩ := at_some hlt
              have hlN := HN3.out l (List.mem_of_getElem? hl)
              obtain ⟨b, o, x, rfl, hbl, hx, hs⟩ := ints_open R3.out Hb3.out HL.out.2.2.symm (i := k) (by rw [HL.out.2.2]; exact hlt)
              have hxe : x = (l : Int) := by
                have h1 := hx.out
                unfold Cir.toCz at h1
                rw [List.getElem?_map, hl] at h1
                exact (Option.some.inj h1).symm
              subst hxe
              have HS := Lib.hid (nints'_snoc hl u)
              have hlt2 : ∀ g, v3.ownBlock = some g → B3 ≤ g ∧ g < wr.heap.size := fun g hg => HO3.out.lt g hg
              have hne : ¬ (v3.ownBlock = some gB) := fun e => by have := (hlt2 gB e).1; omega
              have hneR : ¬ (v3.ownBlock = some gR) := fun e => by have := (hlt2 gR e).1; omega
              have HBel : Hid (∀ w', Only (fun g => v3.ownBlock = some g) wr w' → Below w.heap.size w w') := Lib.hid fun w' ho => Only.below Hb3.out ho Hb3.out.size (fun q hq => by have := (hlt2 q hq).1; omega)
              have Hlt2 := Lib.hid hlt2
              generalize hcs : nints' ((c.outs.take k).map u) = cs at *
              clear hx hl hcs hlt2
              go_wp2_with fail
              obtain ⟨i0, hi0, hz0, hz1, hz2⟩ := info_parts info_int
              have hO := fun ops a => appRS2_ok (Pg := Try.prog) (ops := ops) (a := a) (news := [.int .i64 (u l : Nat)]) (d := 6) (HO3.out)
              refine wp_region_rsl (appRS2 Try.prog _ wr _ (B3) 3 1 (v3) (k) (cs) [.int .i64 (u l : Nat)] 6) (hO _ _) (by kernel_rfl) (by kernel_rfl) (by kernel_rfl) 8 _ rfl rfl (by kernel_rfl) (show (6 : Nat) < 8 by decide) trivial HO3.out ?_
              apply rs_eq (hO _ _) (.inl (Nat.ne_of_beq_eq_false rfl))
              · intro ρ w' ho hK
                have ho : Only _ wr w' := ho
                obtain ⟨h0, -⟩ := hK
                have h0' : ρ (.tmp 5) = _ := h0
                go_simp
                try exact rfl
              apply rs_eq (hO _ _) (.inl (Nat.ne_of_beq_eq_false rfl))
              · intro ρ w' ho hK
                have ho : Only _ wr w' := ho
                obtain ⟨h0, -⟩ := hK
                have h0' : ρ (.tmp 68) = _ := h0
                have q1 := cell_on ho (fun e => hne e) hgB (blk_cell HX3.out 3)
                go_simp
                try exact rfl
              refine rs_old (hO _ _) (.inl (Nat.ne_of_beq_eq_false rfl)) _ (.inl rfl) _ rfl rfl ?_
              refine rs_old (hO _ _) (.inl (Nat.ne_of_beq_eq_false rfl)) _ (.inl rfl) _ rfl rfl ?_
              refine rs_callV (hO _ _) (.inl (Nat.ne_of_beq_eq_false rfl)) (TEq (.int .i64 ((u l : Nat) : Int))) (stb_eq _ _) (.tmp 70) _ _ rfl (fun ρ w' ho hK => by
                have ho : Only _ wr w' := ho
                obtain ⟨h0, h1, -⟩ := hK
                have h0' : ρ (.tmp 70) = _ := h0
                have h1' : ρ (.tmp 71) = _ := h1
                refine ⟨F, #[ρ (.tmp 71)] ++ caps, ?_, ?_⟩
                · go_simp
                · rw [h1']
                  refine (HU.out w' (HBel.out w' ho) l hlN).mono ?_
                  rintro e w2 ⟨rfl, hb⟩
                  exact ⟨_, rfl, rfl, hb⟩) ?_
              refine rs_build1 (hO _ _) (.inl (Nat.ne_of_beq_eq_false rfl)) 1 [.int .i64 (u l : Nat)] 3 rfl (fun ρ w' ho hK => by
                have ho : Only _ wr w' := ho
                obtain ⟨h0, -⟩ := hK
                have h0' : ρ (.tmp 72) = _ := h0
                go_simp) ?_
              refine rs_append2 rfl (B3) 3 23 1 (v3) (k) (cs) _ rfl rfl (fun g hg => hg) (show B3 ≤ wr.heap.size by omega) _ _ rfl _ _ rfl rfl rfl rfl i0 _ 8 Try.underlying23 hi0 hz0 hz1 hz2 rfl (by decide) (by omega) (by decide) (by simp [Value.oneCell']) ?_
              apply rs_eq (hO _ _) (.inl (Nat.ne_of_beq_eq_false rfl))
              · intro ρ w' ho hK
                have ho : Only _ wr w' := ho
                obtain ⟨h0, -⟩ := hK
                have h0' : ρ (.tmp 5) = _ := h0
                go_simp
                try exact rfl
              intro f w9 k9 hk9 hI9 ht9 hcp9
              have E0 : f 0 = _ := ht9 0 (Nat.le_of_ble_eq_true rfl)
              have E1 : f 1 = _ := ht9 1 (Nat.le_of_ble_eq_true rfl)
              have E2 : f 2 = _ := ht9 2 (Nat.le_of_ble_eq_true rfl)
              conv at E2 => rhs; whnf
              have E3 : f 3 = _ := ht9 3 (Nat.le_of_ble_eq_true rfl)
              conv at E3 => rhs; whnf
              have E4 : f 4 = _ := ht9 4 (Nat.le_of_ble_eq_true rfl)
              have E5 : (TNew _ 1 1 [.int .i64 (u l : Nat)]) w9 (f 5) := ht9 5 (Nat.le_of_ble_eq_true rfl)
              have E6 : (TAny) w9 (f 6) := ht9 6 (Nat.le_of_ble_eq_true rfl)
              have E7 : f 7 = _ := ht9 7 (Nat.le_of_ble_eq_true rfl)
              have Ho9 : Only _ wr w9 := hI9.2.1
              have hown9 : w9.ownsRow (B3) 3 1 (f 6) (k + 1) (cs ++ [.int .i64 (u l : Nat)]) := hI9.2.2.1
              have hat9 : ∀ g, (f 6).ownBlock = some g → (v3).ownBlock = some g ∨ wr.heap.size ≤ g := hI9.2.2.2
              simp only [putAll, E0, E1, E2, E3, E4, E7, Nat.zero_add, Nat.reduceAdd, Act.put, List.setIfInBounds_toArray, List.set_cons_succ, List.set_cons_zero, List.take, List.getElem_toArray, List.getElem_cons_succ, List.getElem_cons_zero]
              clear E0 E1 E2 E3 E4 E7
              clear hI9 ht9 hcp9 hk9
              generalize f 5 = r5 at *
              generalize f 6 = r6 at *
              have O9 : Only (fun g => v3.ownBlock = some g) wr w9 := Ho9
              have hx9 := (O9.block gB hgB hne).trans HX3.out
              have hR9 := (O9.block gR hgR hneR).trans HR3.out
              obtain ⟨A9, c9, hv9⟩ := slice_of_own hown9
              subst hv9
              have q1 := blk_cell hx9 3
              have f1 := blk_free hx9 3
              have Hown9 := Lib.hid hown9
              have Hx10 := Lib.hid (heap_setCell_same w9 gB 3 _ _ (.slice A9 (k + 1) c9) hx9)
              have HR9' := Lib.hid hR9
              have HB9 := Lib.hid (HBel.out w9 O9)
              have HO1b := Lib.hid (own_only HO1e.out O9 (fun g hg e => by have h1 := Hvx3.out.1 g hg; have h2 := (Hlt2.out g e).1; omega))
              have HO2b := Lib.hid (own_only HO2f.out O9 (fun g hg e => by have h1 := Hvx3.out.2 g hg; have h2 := (Hlt2.out g e).1; omega))
              have hz9 := O9.size
              clear Ho9 hown9 hat9 hx9 hR9 O9 hO HX3 HR3 HO3 HBel HO1e HO2f Hb3
              go_wp2_with fail
              go_roundw
              case rel => exact ⟨k + 1, _, by omega, by go_num, Lib.hid (by have h := Hx10.out; simp at h; exact h), Lib.hid ((heap_setCell_other' _ _ _ _ _ (by omega)).trans HR9'.out), Lib.hid (own_setB HO1b.out (by omega)), Lib.hid (own_setB HO2b.out (by omega)), Lib.hid (by rw [HS.out]; exact own_setB Hown9.out (by omega)), by simp; omega, Lib.hid (HB9.out.setCell (by simp only; omega) _)⟩
              case measure => simp [intOf]; omega
            · obtain rfl : k = c.outs.length := by omega
              rw [List.take_length] at HO3
              obtain ⟨A1, c1', hv1⟩ := slice_of_own HO1e.out
              subst hv1
              obtain ⟨A2, c2', hv2⟩ := slice_of_own HO2f.out
              subst hv2
              obtain ⟨A3, c3', hv3⟩ := slice_of_own HO3.out
              subst hv3
              have q0 := blk_cell HX3.out 0
              have q1 := blk_cell HX3.out 1
              have q2 := blk_cell HX3.out 2
              have q3 := blk_cell HX3.out 3
              have r0 := blk_cell HR3.out 0
              have r1 := blk_cell HR3.out 1
              have r2 := blk_cell HR3.out 2
              have r3 := blk_cell HR3.out 3
              have f0 := blk_free HR3.out 0
              have f1 := blk_free HR3.out 1
              have f2 := blk_free HR3.out 2
              have f3 := blk_free HR3.out 3
              have hlm : (Cir.toCz (mapC u c)).next.length = c.next.length ∧ (Cir.toCz (mapC u c)).gates.length = c.gates.length ∧ (Cir.toCz (mapC u c)).outs.length = c.outs.length := ⟨by simp [Cir.toCz, mapC], by simp [Cir.toCz, mapC], by simp [Cir.toCz, mapC]⟩
              have Hlm := Lib.hid hlm
              clear hlm HX3 hlt
              go_wp2_with fail
              refine bodyPost_ret (v := .agg #[.int .i64 (Cir.toCz c).ins, .slice A1 c.next.length c1', .slice A2 c.gates.length c2', .slice A3 c.outs.length c3']) (by simp [results, Try.results56, go_sem, r0, r1, r2, r3]) rfl ⟨⟨_, rfl, _, _, _, rfl, ?_, ?_, ?_⟩, ?_⟩
              · rw [Hlm.out.1]
                exact own_mono (own_setB (own_setB (own_setB (own_setB HO1e.out (by omega)) (by omega)) (by omega)) (by omega)) (by omega)
              · rw [Hlm.out.2.1]
                exact own_mono (own_setB (own_setB (own_setB (own_setB (by have h := HO2f.out; unfold ngates at h; unfold Cir.toCz mapC; exact h) (by omega)) (by omega)) (by omega)) (by omega)) (by omega)
              · rw [Hlm.out.2.2]
                exact own_mono (own_setB (own_setB (own_setB (own_setB HO3.out (by omega)) (by omega)) (by omega)) (by omega)) (by omega)
              · exact (((Hb3.out.setCell (by simp only; omega) _).setCell (by simp only; omega) _).setCell (by simp only; omega) _).setCell (by simp only; omega) _
end Go.Proofs.Ytdgminjbgjbamaa

namespace Go.Proofs.Ytdgminjbgjbamaa
set_option maxRecDepth 100000
open Go.RowKit Go.Joins Go.ChangeShapes Go.WideShapes Go.ChangeAt Go.Deep
section
variable {H : Type} {enc : TypeId × Value → H} {w : World} {r : Reach} {b0 base : Nat} {spare : Nat → Bool} {held : Bool} {v : Value} {d : DataW H} {p : List MemPlace}
/-- A circuit, as an argument. -/
def ACirc (w : World) (v : Value) : Prop := ∃ c : Cz, CircAt w v c ∧ WfI c.ins ∧ (∀ x ∈ c.next, WfI x) ∧ (∀ x ∈ c.gates, WfI x.1 ∧ WfI x.2) ∧ (∀ x ∈ c.outs, WfI x)
end
theorem CircAt.shape {w : World} {v : Value} {c : Cz} (h : CircAt w v c) : ∃ An cn Ag cg Ao co, v = .agg #[.int .i64 c.ins, .slice An c.next.length cn, .slice Ag c.gates.length cg, .slice Ao c.outs.length co] := by
  obtain ⟨vn, vg, vo, rfl, r1, r2, r3⟩ := h
  obtain ⟨An, cn, rfl, -⟩ := Row.shape r1
  obtain ⟨Ag, cg, rfl, -⟩ := Row.shape r2
  obtain ⟨Ao, co, rfl, -⟩ := Row.shape r3
  exact ⟨An, cn, Ag, cg, Ao, co, rfl⟩
def TCirc (c : Cz) : Ty := fun w v => CircAt w v c
theorem stb_circ (c : Cz) : Stb (fun _ => False) (TCirc c) := fun _ _ _ h ho => h.below (only_below ho)
/-- A circuit in a box of the law's. -/
structure BoxC (w : World) (g : Nat) (c : Cz) (vn vg vo : Value) : Prop where
  pc : PCells w g c.ins vn vg vo
  at_ : CircAt w (.agg #[.int .i64 c.ins, vn, vg, vo]) c
theorem BoxC.below {w w' : World} {g : Nat} {c : Cz} {vn vg vo : Value} (h : BoxC w g c vn vg vo) (hb : Below w.heap.size w w') : BoxC w' g c vn vg vo := ⟨h.pc.below hb, h.at_.below hb⟩
theorem BoxC.made {w : World} {c : Cz} {vn vg vo : Value} (t : TypeId) (h : CircAt w (.agg #[.int .i64 c.ins, vn, vg, vo]) c) : BoxC (w.alloc (.cells #[.int .i64 c.ins, vn, vg, vo] t)) w.heap.size c vn vg vo :=
  ⟨PCells.boxed _ _ _ _ _ _, h.below ((Below.refl _ _).alloc (Nat.le_refl _) _)⟩
end Go.Proofs.Ytdgminjbgjbamaa

namespace Go.Proofs.Ytdgminjbgjbamaa
open Go.RowKit Go.Maps
set_option maxRecDepth 100000
/-! and: a known gate. -/
theorem and_known_st {B b F : Nat} {G : List (Nat × Nat)} {E : Nat → Prop} {m : Nat} {vg vl : Value} {L : List Int} (x y l : Nat) (w : World) (h : Bld B b F G E m vg vl L w) (hx : x < 1000000) (hy : y < 1000000) (hs : ¬ y < x) (h1 : x ≠ 0) (h2 : x ≠ y ^^^ 1) (h3 : x ≠ 1) (h4 : x ≠ y) (hk : Cir.knownG F G x y = some l) :
    Calls Try.prog 72 #[.pointer (some ⟨b, 0, none⟩), .int .i64 (x : Int), .int .i64 (y : Int)] w
      fun e w' => e = .returned (.int .i64 (l : Int)) ∧ Below w.heap.size w w' := by
  have hxor : bits .xor .i64 (y : Int) 1 = ((y ^^^ 1 : Nat) : Int) := i64_xor_nat y 1 (by omega) (by omega)
  have d1 : decide (y < x) = false := decide_eq_false hs
  have e1 : ((x : Int) == 0) = false := beq_ff (b := 0) h1
  have e2 : ((x : Int) == ((y ^^^ 1 : Nat) : Int)) = false := beq_ff h2
  have e3 : ((x : Int) == 1) = false := beq_ff (b := 1) h3
  have e4 : ((x : Int) == (y : Int)) = false := beq_ff h4
  generalize y ^^^ 1 = Y at *
  clear h1 h2 h3 h4 hs
  have hbn := bel_new w (.cells #[.int .i64 (x : Int), .int .i64 (y : Int)] 72)
  have hg := heap_alloc_new w (.cells #[.int .i64 (x : Int), .int .i64 (y : Int)] 72)
  have hzW : (w.alloc (.cells #[.int .i64 (x : Int), .int .i64 (y : Int)] 72)).heap.size = w.heap.size + 1 := by simp
  have H := Lib.hid (h.below hbn)
  have HB := Lib.hid hbn
  have Hk := Lib.hid hk
  have hbW : b < w.heap.size := (h.lo b h.eb).2
  clear h hbn hk
  go_enter Try.func72, Try.ntmps72
  go_wp2_with fail
  generalize w.alloc (.cells #[.int .i64 (x : Int), .int .i64 (y : Int)] 72) = W at *
  generalize hN : w.heap.size = N at *
  have c3 := gw_cell (blk_cell H.out.box 3) (by show b < W.heap.size; omega)
  have k0 := gw_cell (blk_cell hg 0) (by show N < W.heap.size; omega)
  have k1 := gw_cell (blk_cell hg 1) (by show N < W.heap.size; omega)
  have hlk : ∀ n : GW W, (Instr.lookup 93 (.map (some m)) (.agg #[.int .i64 (x : Int), .int .i64 (y : Int)]) true).run Try.prog (gw n) = .ok (.tuple #[.int .i64 (l : Int), .bool true]) (gw n) := fun n => by
    have := (H.out.map.below (gw_below n)).look (x := x) (y := y) (by omega) (by omega)
    rw [Hk.out] at this
    exact this
  refine wp_region_grow (by kernel_rfl) (by kernel_rfl) ?_
  repeat (go_big_quiet_step ((fail)))
  refine wpQuiet_nil ?_
  intro _ hw'
  obtain ⟨nq, hw''⟩ := hw'
  subst hw''
  have hgq := gw_below nq
  generalize gw nq = wq at *
  clear nq
  go_wp2_with fail
  go_ret
  subst hN
  exact ⟨rfl, HB.out.trans (hgq.mono HB.out.size)⟩
end Go.Proofs.Ytdgminjbgjbamaa

namespace Go.Proofs.Ytdgminjbgjbamaa
open Go.RowKit Go.Maps
set_option maxRecDepth 100000
/-! and: the operands in the other order. (gen/bldsw.py prints this text.) -/
theorem and_known_sw {B b F : Nat} {G : List (Nat × Nat)} {E : Nat → Prop} {m : Nat} {vg vl : Value} {L : List Int} (x y l : Nat) (w : World) (h : Bld B b F G E m vg vl L w) (hx : x < 1000000) (hy : y < 1000000) (hs : x < y) (h1 : x ≠ 0) (h2 : x ≠ y ^^^ 1) (h3 : x ≠ 1) (h4 : x ≠ y) (hk : Cir.knownG F G x y = some l) :
    Calls Try.prog 72 #[.pointer (some ⟨b, 0, none⟩), .int .i64 (y : Int), .int .i64 (x : Int)] w
      fun e w' => e = .returned (.int .i64 (l : Int)) ∧ Below w.heap.size w w' := by
  have hxor : bits .xor .i64 (y : Int) 1 = ((y ^^^ 1 : Nat) : Int) := i64_xor_nat y 1 (by omega) (by omega)
  have d1 : decide (x < y) = true := decide_eq_true hs
  have e1 : ((x : Int) == 0) = false := beq_ff (b := 0) h1
  have e2 : ((x : Int) == ((y ^^^ 1 : Nat) : Int)) = false := beq_ff h2
  have e3 : ((x : Int) == 1) = false := beq_ff (b := 1) h3
  have e4 : ((x : Int) == (y : Int)) = false := beq_ff h4
  generalize y ^^^ 1 = Y at *
  clear h1 h2 h3 h4 hs
  have hbn := bel_new w (.cells #[.int .i64 (x : Int), .int .i64 (y : Int)] 72)
  have hg := heap_alloc_new w (.cells #[.int .i64 (x : Int), .int .i64 (y : Int)] 72)
  have hzW : (w.alloc (.cells #[.int .i64 (x : Int), .int .i64 (y : Int)] 72)).heap.size = w.heap.size + 1 := by simp
  have H := Lib.hid (h.below hbn)
  have HB := Lib.hid hbn
  have Hk := Lib.hid hk
  have hbW : b < w.heap.size := (h.lo b h.eb).2
  clear h hbn hk
  go_enter Try.func72, Try.ntmps72
  go_wp2_with fail
  generalize w.alloc (.cells #[.int .i64 (x : Int), .int .i64 (y : Int)] 72) = W at *
  generalize hN : w.heap.size = N at *
  have c3 := gw_cell (blk_cell H.out.box 3) (by show b < W.heap.size; omega)
  have k0 := gw_cell (blk_cell hg 0) (by show N < W.heap.size; omega)
  have k1 := gw_cell (blk_cell hg 1) (by show N < W.heap.size; omega)
  have hlk : ∀ n : GW W, (Instr.lookup 93 (.map (some m)) (.agg #[.int .i64 (x : Int), .int .i64 (y : Int)]) true).run Try.prog (gw n) = .ok (.tuple #[.int .i64 (l : Int), .bool true]) (gw n) := fun n => by
    have := (H.out.map.below (gw_below n)).look (x := x) (y := y) (by omega) (by omega)
    rw [Hk.out] at this
    exact this
  refine wp_region_grow (by kernel_rfl) (by kernel_rfl) ?_
  repeat (go_big_quiet_step ((fail)))
  refine wpQuiet_nil ?_
  intro _ hw'
  obtain ⟨nq, hw''⟩ := hw'
  subst hw''
  have hgq := gw_below nq
  generalize gw nq = wq at *
  clear nq
  go_wp2_with fail
  go_ret
  subst hN
  exact ⟨rfl, HB.out.trans (hgq.mono HB.out.size)⟩
end Go.Proofs.Ytdgminjbgjbamaa

namespace Go.Proofs.Ytdgminjbgjbamaa
open Go.RowKit Go.Maps
set_option maxRecDepth 100000
/-! and: the operands in the other order. (gen/bldsw.py prints this text.) -/
theorem and_new_sw {B b F : Nat} {G : List (Nat × Nat)} {E : Nat → Prop} {m : Nat} {vg vl : Value} {L : List Int} (x y : Nat) (w : World) (h : Bld B b F G E m vg vl L w) (hF : F ≤ 300) (hG : G.length ≤ 10000) (hx : x < 2 * (F + G.length)) (hy : y < 2 * (F + G.length)) (hs : x < y) (h1 : x ≠ 0) (h2 : x ≠ y ^^^ 1) (h3 : x ≠ 1) (h4 : x ≠ y) (hk : Cir.knownG F G x y = none) :
    Calls Try.prog 72 #[.pointer (some ⟨b, 0, none⟩), .int .i64 (y : Int), .int .i64 (x : Int)] w
      fun e w' => e = .returned (.int .i64 ((2 * (F + G.length) : Nat) : Int)) ∧ BldNext B b F ((x, y) :: G) E w w' := by
  have hxor : bits .xor .i64 (y : Int) 1 = ((y ^^^ 1 : Nat) : Int) := i64_xor_nat y 1 (by omega) (by omega)
  have d1 : decide (x < y) = true := decide_eq_true hs
  have e1 : ((x : Int) == 0) = false := beq_ff (b := 0) h1
  have e2 : ((x : Int) == ((y ^^^ 1 : Nat) : Int)) = false := beq_ff h2
  have e3 : ((x : Int) == 1) = false := beq_ff (b := 1) h3
  have e4 : ((x : Int) == (y : Int)) = false := beq_ff h4
  generalize y ^^^ 1 = Y at *
  clear h1 h2 h3 h4 hs
  have hbn := bel_new w (.cells #[.int .i64 (x : Int), .int .i64 (y : Int)] 72)
  have hg := heap_alloc_new w (.cells #[.int .i64 (x : Int), .int .i64 (y : Int)] 72)
  have hzW : (w.alloc (.cells #[.int .i64 (x : Int), .int .i64 (y : Int)] 72)).heap.size = w.heap.size + 1 := by simp
  have H := Lib.hid (h.below hbn)
  have HB := Lib.hid hbn
  have Hk := Lib.hid hk
  have hbW : b < w.heap.size := (h.lo b h.eb).2
  obtain ⟨Ag, cg, hvg⟩ := slice_of_own h.gs
  have hw1 := IntWalk.i64_in ((F : Int) + (G.length : Int)) (by omega)
  have hw2 := IntWalk.i64_in (2 * ((F : Int) + (G.length : Int))) (by omega)
  have HN : Hid (∀ g, E g → g < w.heap.size) := Lib.hid fun g hg => (h.lo g hg).2
  clear h hbn hk
  go_enter Try.func72, Try.ntmps72
  go_wp2_with fail
  generalize w.alloc (.cells #[.int .i64 (x : Int), .int .i64 (y : Int)] 72) = W at *
  generalize hN : w.heap.size = N at *
  have c0 := gw_cell (blk_cell H.out.box 0) (by show b < W.heap.size; omega)
  have c1 := gw_cell (blk_cell H.out.box 1) (by show b < W.heap.size; omega)
  have c3 := gw_cell (blk_cell H.out.box 3) (by show b < W.heap.size; omega)
  have k0 := gw_cell (blk_cell hg 0) (by show N < W.heap.size; omega)
  have k1 := gw_cell (blk_cell hg 1) (by show N < W.heap.size; omega)
  have hlk : ∀ n : GW W, (Instr.lookup 93 (.map (some m)) (.agg #[.int .i64 (x : Int), .int .i64 (y : Int)]) true).run Try.prog (gw n) = .ok (.tuple #[.int .i64 0, .bool false]) (gw n) := fun n => by
    have := (H.out.map.below (gw_below n)).look (x := x) (y := y) (by omega) (by omega)
    rw [Hk.out] at this
    exact this
  refine wp_region_grow (by kernel_rfl) (by kernel_rfl) ?_
  repeat (go_big_quiet_step ((fail)))
  refine wpQuiet_nil ?_
  intro _ hw'
  obtain ⟨nq, hw''⟩ := hw'
  subst hw''
  have hgq := gw_below nq
  generalize gw nq = wq at *
  clear nq
  have B1 := Lib.hid hgq
  have H1 := Lib.hid (H.out.below hgq)
  have hg1 := (hgq.block N (by omega)).trans hg
  have z1 := hgq.size
  clear H hlk c0 c1 c3 k0 k1 hgq hg
  subst hvg
  obtain ⟨W1, hW1⟩ : ∃ W1, W1 = wq := ⟨_, rfl⟩
  subst hW1
  go_wp2_with fail
  have c0 := gw_cell (blk_cell H1.out.box 0) (by show b < W1.heap.size; omega)
  have c1 := gw_cell (blk_cell H1.out.box 1) (by show b < W1.heap.size; omega)
  refine wp_region_grow (by kernel_rfl) (by kernel_rfl) ?_
  repeat (go_big_quiet_step ((fail)))
  refine wpQuiet_nil ?_
  intro _ hw'
  obtain ⟨nq, hw''⟩ := hw'
  subst hw''
  have hgq := gw_below nq
  generalize gw nq = wq at *
  clear nq
  have B2 := Lib.hid (B1.out.trans (hgq.mono B1.out.size))
  have H2 := Lib.hid (H1.out.below hgq)
  have hg2 := (hgq.block N (by omega)).trans hg1
  have z2 := hgq.size
  clear H1 c0 c1 hgq hg1 B1
  obtain ⟨W2, hW2⟩ : ∃ W2, W2 = wq := ⟨_, rfl⟩
  subst hW2
  obtain ⟨V, hV⟩ : ∃ V : Nat, 2 * ((F : Int) + (G.length : Int)) = (V : Int) := ⟨2 * (F + G.length), by omega⟩
  have hV2 : V = 2 * (F + G.length) := by omega
  rw [hV]
  clear hw1 hw2 hV
  have hz2 : b < W2.heap.size := by omega
  have hz3 : N < W2.heap.size := by omega
  go_wp2_with fail
  refine wp_region_rsl (quietRS Try.prog _ W2 _) quietRS_ok (by kernel_rfl) (by kernel_rfl) (by kernel_rfl) 6 _ rfl rfl (by kernel_rfl) (show (0 : Nat) < 6 by decide) trivial trivial ?_
  refine rs_old quietRS_ok quiet_any _ (.inl rfl) _ rfl rfl ?_
  apply rs_eq quietRS_ok quiet_any
  · intro ρ w' ho hK
    have ho : Only _ W2 w' := ho
    obtain ⟨h0, -⟩ := hK
    have h0' : ρ (.tmp 58) = _ := h0
    go_simp
    try exact rfl
  apply rs_eq quietRS_ok quiet_any
  · intro ρ w' ho hK
    have ho : Only _ W2 w' := ho
    obtain ⟨h0, -⟩ := hK
    have h0' : ρ (.tmp 59) = _ := h0
    go_simp
    try exact rfl
  apply rs_eq quietRS_ok quiet_any
  · intro ρ w' ho hK
    have ho : Only _ W2 w' := ho
    obtain ⟨h0, -⟩ := hK
    have h0' : ρ (.tmp 60) = _ := h0
    have hb := only_below ho
    have q3 := (hb.cell (p := ⟨b, 3, none⟩) hz2).trans (blk_cell H2.out.box 3)
    have k0 := (hb.cell (p := ⟨N, 0, none⟩) hz3).trans (blk_cell hg2 0)
    have k1 := (hb.cell (p := ⟨N, 1, none⟩) hz3).trans (blk_cell hg2 1)
    go_simp
    try exact rfl
  apply rs_eq quietRS_ok quiet_any
  · intro ρ w' ho hK
    have ho : Only _ W2 w' := ho
    obtain ⟨h0, -⟩ := hK
    have h0' : ρ (.tmp 7) = _ := h0
    have hb := only_below ho
    have q3 := (hb.cell (p := ⟨b, 3, none⟩) hz2).trans (blk_cell H2.out.box 3)
    have k0 := (hb.cell (p := ⟨N, 0, none⟩) hz3).trans (blk_cell hg2 0)
    have k1 := (hb.cell (p := ⟨N, 1, none⟩) hz3).trans (blk_cell hg2 1)
    go_simp
    try exact rfl
  refine rs_old quietRS_ok quiet_any _ (.inl rfl) _ rfl rfl ?_
  intro f w9 k9 hk9 hI9 ht9 hcp9
  have E0 : f 0 = _ := ht9 0 (Nat.le_of_ble_eq_true rfl)
  conv at E0 => rhs; whnf
  have E1 : f 1 = _ := ht9 1 (Nat.le_of_ble_eq_true rfl)
  have E2 : f 2 = _ := ht9 2 (Nat.le_of_ble_eq_true rfl)
  have E3 : f 3 = _ := ht9 3 (Nat.le_of_ble_eq_true rfl)
  have E4 : f 4 = _ := ht9 4 (Nat.le_of_ble_eq_true rfl)
  have E5 : f 5 = _ := ht9 5 (Nat.le_of_ble_eq_true rfl)
  conv at E5 => rhs; whnf
  have Ho9 : Only _ W2 w9 := hI9.2.1
  simp only [putAll, E0, E1, E2, E3, E4, E5, Nat.zero_add, Nat.reduceAdd, Act.put, List.setIfInBounds_toArray, List.set_cons_succ, List.set_cons_zero, List.take, List.getElem_toArray, List.getElem_cons_succ, List.getElem_cons_zero]
  clear E0 E1 E2 E3 E4 E5
  clear hI9 ht9 hcp9 hk9
  obtain ⟨W3, hW3⟩ : ∃ W, W = w9 := ⟨_, rfl⟩
  subst hW3
  have hb9 := only_below Ho9
  have B3 := Lib.hid (B2.out.trans (hb9.mono B2.out.size))
  have H3 := Lib.hid (H2.out.below hb9)
  have hg3 := (hb9.block N hz3).trans hg2
  have z3 := hb9.size
  clear Ho9 hb9 hg2 H2 B2
  refine wpList_add_gate W3 rfl (.tmp 61) (.tmp 62) (.tmp 63) rfl m G.length _ rfl H3.out.map (by omega) x y V (by omega) (by omega) (by omega) rfl rfl ?_
  intro w4 hm4 hg4
  have HM4 := Lib.hid hm4
  have z4 := hg4.size
  have O4 := Lib.hid (Only.grown (E := fun g => g = m) hg4 (fun k hk => (Option.some.inj hk).symm))
  have hx4 := (O4.out.block b (by omega) H3.out.bm).trans H3.out.box
  have hgn : N ≠ m := fun e => by have := H3.out.lo m H3.out.em; have := HN.out m H3.out.em; omega
  have hg5 := (O4.out.block N (by omega) hgn).trans hg3
  have hgs4 := Lib.hid (own_only H3.out.gs O4.out (fun g hg e => H3.out.gm (by rw [hg, e])))
  have hls4 := Lib.hid (own_only H3.out.ls O4.out (fun g hg e => H3.out.lm (by rw [hg, e])))
  have hz5 : b < w4.heap.size := by omega
  have hz6 : N < w4.heap.size := by omega
  have hgb := H3.out.gb
  have hgN : ∀ g, (Value.slice Ag G.length cg).ownBlock = some g → g < N := fun g hg => HN.out g (H3.out.eg g hg)
  have hBW : B ≤ w4.heap.size := by have := (H3.out.lo b H3.out.eb).1; omega
  clear hm4 hg4 hg3
  go_wp2_with fail
  obtain ⟨cs, hcs⟩ : ∃ cs, cubes (Cir.gatesOf G) = cs := ⟨_, rfl⟩
  rw [hcs] at hgs4
  obtain ⟨i0, hi0, hz0, hz1, hz2⟩ := info_parts info_gate
  have hO := fun ops a => appRS2_ok (Pg := Try.prog) (ops := ops) (a := a) (news := [.int .i64 (x : Int), .int .i64 (y : Int)]) (d := 7) (hgs4.out)
  refine wp_region_rsl (appRS2 Try.prog _ w4 _ (B) 72 2 (Value.slice Ag G.length cg) (G.length) (cs) [.int .i64 (x : Int), .int .i64 (y : Int)] 7) (hO _ _) (by kernel_rfl) (by kernel_rfl) (by kernel_rfl) 10 _ rfl rfl (by kernel_rfl) (show (7 : Nat) < 10 by decide) trivial hgs4.out ?_
  refine rs_old (hO _ _) (.inl (Nat.ne_of_beq_eq_false rfl)) _ (.inl rfl) _ rfl rfl ?_
  refine rs_old (hO _ _) (.inl (Nat.ne_of_beq_eq_false rfl)) _ (.inl rfl) _ rfl rfl ?_
  apply rs_eq (hO _ _) (.inl (Nat.ne_of_beq_eq_false rfl))
  · intro ρ w' ho hK
    have ho : Only _ w4 w' := ho
    obtain ⟨h0, -⟩ := hK
    have h0' : ρ (.tmp 65) = _ := h0
    go_simp
    try exact rfl
  apply rs_eq (hO _ _) (.inl (Nat.ne_of_beq_eq_false rfl))
  · intro ρ w' ho hK
    have ho : Only _ w4 w' := ho
    obtain ⟨h0, -⟩ := hK
    have h0' : ρ (.tmp 66) = _ := h0
    go_simp
    try exact rfl
  apply rs_eq (hO _ _) (.inl (Nat.ne_of_beq_eq_false rfl))
  · intro ρ w' ho hK
    have ho : Only _ w4 w' := ho
    obtain ⟨h0, -⟩ := hK
    have h0' : ρ (.tmp 67) = _ := h0
    have q1 := cell_on ho (fun e => hgb e) hz5 (blk_cell hx4 1)
    have k0 := cell_on ho (fun e => absurd (hgN N e) (Nat.lt_irrefl _)) hz6 (blk_cell hg5 0)
    have k1 := cell_on ho (fun e => absurd (hgN N e) (Nat.lt_irrefl _)) hz6 (blk_cell hg5 1)
    go_simp
    try exact rfl
  apply rs_eq (hO _ _) (.inl (Nat.ne_of_beq_eq_false rfl))
  · intro ρ w' ho hK
    have ho : Only _ w4 w' := ho
    obtain ⟨h0, -⟩ := hK
    have h0' : ρ (.tmp 7) = _ := h0
    have q1 := cell_on ho (fun e => hgb e) hz5 (blk_cell hx4 1)
    have k0 := cell_on ho (fun e => absurd (hgN N e) (Nat.lt_irrefl _)) hz6 (blk_cell hg5 0)
    have k1 := cell_on ho (fun e => absurd (hgN N e) (Nat.lt_irrefl _)) hz6 (blk_cell hg5 1)
    go_simp
    try exact rfl
  refine rs_build1 (hO _ _) (.inl (Nat.ne_of_beq_eq_false rfl)) 2 [.int .i64 (x : Int), .int .i64 (y : Int)] 72 rfl (fun ρ w' ho hK => by
    have ho : Only _ w4 w' := ho
    obtain ⟨h0, -⟩ := hK
    have h0' : ρ (.tmp 69) = _ := h0
    go_simp) ?_
  refine rs_append2 rfl (B) 72 24 2 (Value.slice Ag G.length cg) (G.length) (cs) _ rfl rfl (fun g hg => hg) (show B ≤ w4.heap.size by omega) _ _ rfl _ _ rfl rfl rfl rfl i0 _ 16 Try.underlying24 hi0 hz0 hz1 hz2 rfl (by decide) (by omega) (by decide) (by simp [Value.oneCell']) ?_
  apply rs_eq (hO _ _) (.inl (Nat.ne_of_beq_eq_false rfl))
  · intro ρ w' ho hK
    have ho : Only _ w4 w' := ho
    obtain ⟨h0, -⟩ := hK
    have h0' : ρ (.tmp 64) = _ := h0
    go_simp
    try exact rfl
  apply rs_eq (hO _ _) (.inl (Nat.ne_of_beq_eq_false rfl))
  · intro ρ w' ho hK
    have ho : Only _ w4 w' := ho
    obtain ⟨h0, -⟩ := hK
    have h0' : ρ (.tmp 72) = _ := h0
    go_simp
    try exact rfl
  intro f w9 k9 hk9 hI9 ht9 hcp9
  have E0 : f 0 = _ := ht9 0 (Nat.le_of_ble_eq_true rfl)
  conv at E0 => rhs; whnf
  have E1 : f 1 = _ := ht9 1 (Nat.le_of_ble_eq_true rfl)
  conv at E1 => rhs; whnf
  have E2 : f 2 = _ := ht9 2 (Nat.le_of_ble_eq_true rfl)
  have E3 : f 3 = _ := ht9 3 (Nat.le_of_ble_eq_true rfl)
  have E4 : f 4 = _ := ht9 4 (Nat.le_of_ble_eq_true rfl)
  have E5 : f 5 = _ := ht9 5 (Nat.le_of_ble_eq_true rfl)
  have E6 : (TNew _ 2 1 [.int .i64 (x : Int), .int .i64 (y : Int)]) w9 (f 6) := ht9 6 (Nat.le_of_ble_eq_true rfl)
  have E7 : (TAny) w9 (f 7) := ht9 7 (Nat.le_of_ble_eq_true rfl)
  have E8 : f 8 = _ := ht9 8 (Nat.le_of_ble_eq_true rfl)
  have E9 : f 9 = _ := ht9 9 (Nat.le_of_ble_eq_true rfl)
  have Ho9 : Only _ w4 w9 := hI9.2.1
  have hown9 : w9.ownsRow (B) 72 2 (f 7) (G.length + 1) (cs ++ [.int .i64 (x : Int), .int .i64 (y : Int)]) := hI9.2.2.1
  have hat9 : ∀ g, (f 7).ownBlock = some g → (Value.slice Ag G.length cg).ownBlock = some g ∨ w4.heap.size ≤ g := hI9.2.2.2
  simp only [putAll, E0, E1, E2, E3, E4, E5, E8, E9, Nat.zero_add, Nat.reduceAdd, Act.put, List.setIfInBounds_toArray, List.set_cons_succ, List.set_cons_zero, List.take, List.getElem_toArray, List.getElem_cons_succ, List.getElem_cons_zero]
  clear E0 E1 E2 E3 E4 E5 E8 E9
  clear hI9 ht9 hcp9 hk9
  generalize f 6 = r6 at *
  generalize f 7 = r7 at *
  obtain ⟨W4, hW4⟩ : ∃ W, W = w9 := ⟨_, rfl⟩
  subst hW4
  have O9 : Only (fun g => (Value.slice Ag G.length cg).ownBlock = some g) w4 W4 := Ho9
  obtain ⟨A7, c7, hv7⟩ := slice_of_own hown9
  subst hv7
  have hx9 := (O9.block b hz5 hgb).trans hx4
  have hgm := H3.out.gm
  have HM9 := Lib.hid (HM4.out.only O9 hgm)
  have hls9 := Lib.hid (own_only hls4.out O9 (fun g hg e => H3.out.ap g e hg))
  have z9 := O9.size
  have q1 := blk_cell hx9 1
  have f1 := blk_free hx9 1
  have Hat9 := Lib.hid hat9
  have Hown9 := Lib.hid hown9
  have HO9 := Lib.hid O9
  obtain ⟨gl, cl, hvl, hgl, hgl2, hcl, hclm⟩ := own_open hls9.out (by omega)
  unfold maxLen at hclm
  subst hvl
  have hx10 := heap_setCell_same W4 b 1 _ _ (.slice A7 (G.length + 1) c7) hx9
  have hbl := H3.out.lb'
  have hls10 := Lib.hid (own_only hls9.out (Only.grown (E := fun g => g = b) (set_grown W4 b 1 (.slice A7 (G.length + 1) c7)) (fun k hk => (Option.some.inj hk).symm)) (fun g hg e => hbl (by rw [hg, e])))
  have z10 : (W4.setCell ⟨b, 1, none⟩ (.slice A7 (G.length + 1) c7)).heap.size = W4.heap.size := by simp
  clear Ho9 hown9 hat9 O9 hx4 hg5 E6 E7 hO hls4 hgs4 HM4
  go_wp2_with fail
  obtain ⟨W5, hW5⟩ : ∃ W5, W5 = W4.setCell ⟨b, 1, none⟩ (.slice A7 (G.length + 1) c7) := ⟨_, rfl⟩
  rw [← hW5] at hx10 hls10 z10 ⊢
  clear q1 f1
  obtain ⟨n, hn⟩ : ∃ n, n = F + G.length := ⟨_, rfl⟩
  rw [← hn] at hls10 hbl hx10 hcl
  have hqx : (x : Int).tdiv 2 = ((x / 2 : Nat) : Int) := by rw [Int.tdiv_eq_ediv_of_nonneg (by omega)]; omega
  have hqy : (y : Int).tdiv 2 = ((y / 2 : Nat) : Int) := by rw [Int.tdiv_eq_ediv_of_nonneg (by omega)]; omega
  have hix : x / 2 < n := by omega
  have hiy : y / 2 < n := by omega
  have hwx := IntWalk.i64_in ((x / 2 : Nat) : Int) (by omega)
  have hwy := IntWalk.i64_in ((y / 2 : Nat) : Int) (by omega)
  generalize x / 2 = X at *
  generalize y / 2 = Z at *
  have hLl := H3.out.ll
  rw [← hn] at hLl
  obtain ⟨u1, hu1⟩ : ∃ u1, L[X]? = some u1 := ⟨_, List.getElem?_eq_getElem (by omega)⟩
  obtain ⟨u2, hu2⟩ : ∃ u2, L[Z]? = some u2 := ⟨_, List.getElem?_eq_getElem (by omega)⟩
  have hb1 := H3.out.lb u1 (List.mem_of_getElem? hu1)
  have hb2 := H3.out.lb u2 (List.mem_of_getElem? hu2)
  have hcu1 : (ints L)[X]? = some (.int .i64 u1) := by unfold ints; rw [List.getElem?_map, hu1]; rfl
  have hcu2 : (ints L)[Z]? = some (.int .i64 u2) := by unfold ints; rw [List.getElem?_map, hu2]; rfl
  obtain ⟨U, hU⟩ : ∃ U, (if u1 < u2 then u2 else u1) = U := ⟨_, rfl⟩
  have hUb : 0 ≤ U ∧ U ≤ G.length := by rw [← hU]; split <;> omega
  have hw3 := IntWalk.i64_in (1 + U) (by omega)
  obtain ⟨cs2, hcs2⟩ : ∃ cs2, ints L = cs2 := ⟨_, rfl⟩
  rw [hcs2] at hls10 hcu1 hcu2
  have hz7 : b < W5.heap.size := by omega
  have hBW5 : B ≤ W5.heap.size := by omega
  have hn1 : n ≤ 20000 := by omega
  have Hn := Lib.hid hn
  have HLl := Lib.hid hLl
  have Hcs2 := Lib.hid hcs2
  clear hLl hu1 hu2 hn hcs2
  obtain ⟨i0, hi0, hz0, hz1, hz2⟩ := info_parts info_int
  have hO := fun ops a => appRS2_ok (Pg := Try.prog) (ops := ops) (a := a) (news := [.int .i64 (1 + U)]) (d := 24) (hls10.out)
  refine wp_region_rsl (appRS2 Try.prog _ W5 _ (B) 3 1 (Value.slice (some ⟨gl, 0, none⟩) n cl) (n) (cs2) [.int .i64 (1 + U)] 24) (hO _ _) (by kernel_rfl) (by kernel_rfl) (by kernel_rfl) 27 _ rfl rfl (by kernel_rfl) (show (24 : Nat) < 27 by decide) trivial hls10.out ?_
  refine rs_old (hO _ _) (.inl (Nat.ne_of_beq_eq_false rfl)) _ (.inl rfl) _ rfl rfl ?_
  refine rs_old (hO _ _) (.inl (Nat.ne_of_beq_eq_false rfl)) _ (.inl rfl) _ rfl rfl ?_
  apply rs_eq (hO _ _) (.inl (Nat.ne_of_beq_eq_false rfl))
  · intro ρ w' ho hK
    have ho : Only _ W5 w' := ho
    obtain ⟨h0, -⟩ := hK
    have h0' : ρ (.tmp 75) = _ := h0
    go_simp
    try exact rfl
  apply rs_eq (hO _ _) (.inl (Nat.ne_of_beq_eq_false rfl))
  · intro ρ w' ho hK
    have ho : Only _ W5 w' := ho
    obtain ⟨h0, -⟩ := hK
    have h0' : ρ (.tmp 76) = _ := h0
    go_simp
    try exact rfl
  apply rs_eq (hO _ _) (.inl (Nat.ne_of_beq_eq_false rfl))
  · intro ρ w' ho hK
    have ho : Only _ W5 w' := ho
    obtain ⟨h0, -⟩ := hK
    have h0' : ρ (.tmp 77) = _ := h0
    have q1 := cell_on ho (fun e => hbl e) hz7 (blk_cell hx10 2)
    go_simp
    try exact rfl
  refine rs_old (hO _ _) (.inl (Nat.ne_of_beq_eq_false rfl)) _ (.inl rfl) _ rfl rfl ?_
  apply rs_eq (hO _ _) (.inl (Nat.ne_of_beq_eq_false rfl))
  · intro ρ w' ho hK
    have ho : Only _ W5 w' := ho
    obtain ⟨h0, -⟩ := hK
    have h0' : ρ (.tmp 79) = _ := h0
    go_simp
    try exact rfl
  apply rs_eq (hO _ _) (.inl (Nat.ne_of_beq_eq_false rfl))
  · intro ρ w' ho hK
    have ho : Only _ W5 w' := ho
    obtain ⟨h0, -⟩ := hK
    have h0' : ρ (.tmp 80) = _ := h0
    go_simp
    try exact rfl
  apply rs_eq (hO _ _) (.inl (Nat.ne_of_beq_eq_false rfl))
  · intro ρ w' ho hK
    have ho : Only _ W5 w' := ho
    obtain ⟨h0, -⟩ := hK
    have h0' : ρ (.tmp 81) = _ := h0
    have q1 := cell_on ho (fun e => hbl e) hz7 (blk_cell hx10 2)
    go_simp
    try exact rfl
  refine rs_old (hO _ _) (.inl (Nat.ne_of_beq_eq_false rfl)) _ (.inl rfl) _ rfl rfl ?_
  apply rs_eq (hO _ _) (.inl (Nat.ne_of_beq_eq_false rfl))
  · intro ρ w' ho hK
    have ho : Only _ W5 w' := ho
    obtain ⟨h0, h1, -⟩ := hK
    have h0' : ρ (.tmp 83) = _ := h0
    have h1' : ρ (.const (Value.int IntKind.i64 2)) = (Value.int IntKind.i64 2) := h1
    go_simp
    try exact rfl
  apply rs_eq (hO _ _) (.inl (Nat.ne_of_beq_eq_false rfl))
  · intro ρ w' ho hK
    have ho : Only _ W5 w' := ho
    obtain ⟨h0, h1, -⟩ := hK
    have h0' : ρ (.tmp 82) = _ := h0
    have h1' : ρ (.tmp 84) = _ := h1
    go_simp
    try exact rfl
  refine rs_eq_before (hO _ _) (Nat.ne_of_beq_eq_false rfl) (by kernel_rfl) (c := .int .i64 u1) (fun ρ w' ho hJ hK => by
    obtain ⟨h0, -⟩ := hK
    have h0' : ρ (.tmp 85) = _ := h0
    have hJ' : w'.ownsRow B 3 1 (Value.slice (some ⟨gl, 0, none⟩) n cl) n cs2 := hJ
    obtain ⟨u, e1, e2, e3⟩ := own_slot hJ' (j := X) (by omega)
    rw [hcu1] at e1
    cases e1
    go_simp) ?_
  refine rs_old (hO _ _) (.inl (Nat.ne_of_beq_eq_false rfl)) _ (.inl rfl) _ rfl rfl ?_
  apply rs_eq (hO _ _) (.inl (Nat.ne_of_beq_eq_false rfl))
  · intro ρ w' ho hK
    have ho : Only _ W5 w' := ho
    obtain ⟨h0, -⟩ := hK
    have h0' : ρ (.tmp 87) = _ := h0
    go_simp
    try exact rfl
  apply rs_eq (hO _ _) (.inl (Nat.ne_of_beq_eq_false rfl))
  · intro ρ w' ho hK
    have ho : Only _ W5 w' := ho
    obtain ⟨h0, -⟩ := hK
    have h0' : ρ (.tmp 88) = _ := h0
    go_simp
    try exact rfl
  apply rs_eq (hO _ _) (.inl (Nat.ne_of_beq_eq_false rfl))
  · intro ρ w' ho hK
    have ho : Only _ W5 w' := ho
    obtain ⟨h0, -⟩ := hK
    have h0' : ρ (.tmp 89) = _ := h0
    have q1 := cell_on ho (fun e => hbl e) hz7 (blk_cell hx10 2)
    go_simp
    try exact rfl
  refine rs_old (hO _ _) (.inl (Nat.ne_of_beq_eq_false rfl)) _ (.inl rfl) _ rfl rfl ?_
  apply rs_eq (hO _ _) (.inl (Nat.ne_of_beq_eq_false rfl))
  · intro ρ w' ho hK
    have ho : Only _ W5 w' := ho
    obtain ⟨h0, h1, -⟩ := hK
    have h0' : ρ (.tmp 91) = _ := h0
    have h1' : ρ (.const (Value.int IntKind.i64 2)) = (Value.int IntKind.i64 2) := h1
    go_simp
    try exact rfl
  apply rs_eq (hO _ _) (.inl (Nat.ne_of_beq_eq_false rfl))
  · intro ρ w' ho hK
    have ho : Only _ W5 w' := ho
    obtain ⟨h0, h1, -⟩ := hK
    have h0' : ρ (.tmp 90) = _ := h0
    have h1' : ρ (.tmp 92) = _ := h1
    go_simp
    try exact rfl
  refine rs_eq_before (hO _ _) (Nat.ne_of_beq_eq_false rfl) (by kernel_rfl) (c := .int .i64 u2) (fun ρ w' ho hJ hK => by
    obtain ⟨h0, -⟩ := hK
    have h0' : ρ (.tmp 93) = _ := h0
    have hJ' : w'.ownsRow B 3 1 (Value.slice (some ⟨gl, 0, none⟩) n cl) n cs2 := hJ
    obtain ⟨u, e1, e2, e3⟩ := own_slot hJ' (j := Z) (by omega)
    rw [hcu2] at e1
    cases e1
    go_simp) ?_
  apply rs_eq (hO _ _) (.inl (Nat.ne_of_beq_eq_false rfl))
  · intro ρ w' ho hK
    have ho : Only _ W5 w' := ho
    obtain ⟨h0, h1, -⟩ := hK
    have h0' : ρ (.tmp 86) = _ := h0
    have h1' : ρ (.tmp 94) = _ := h1
    go_simp
    try exact rfl
  apply rs_eq (hO _ _) (.inl (Nat.ne_of_beq_eq_false rfl))
  · intro ρ w' ho hK
    have ho : Only _ W5 w' := ho
    obtain ⟨h0, h1, -⟩ := hK
    have h0' : ρ (.const (Value.int IntKind.i64 1)) = (Value.int IntKind.i64 1) := h0
    have h1' : ρ (.tmp 95) = _ := h1
    go_simp
    try exact rfl
  refine rs_build1 (hO _ _) (.inl (Nat.ne_of_beq_eq_false rfl)) 1 [.int .i64 (1 + U)] 3 rfl (fun ρ w' ho hK => by
    have ho : Only _ W5 w' := ho
    obtain ⟨h0, -⟩ := hK
    have h0' : ρ (.tmp 96) = _ := h0
    go_simp) ?_
  refine rs_append2 rfl (B) 3 23 1 (Value.slice (some ⟨gl, 0, none⟩) n cl) (n) (cs2) _ rfl rfl (fun g hg => hg) (show B ≤ W5.heap.size by omega) _ _ rfl _ _ rfl rfl rfl rfl i0 _ 8 Try.underlying23 hi0 hz0 hz1 hz2 rfl (by decide) (by omega) (by decide) (by simp [Value.oneCell']) ?_
  apply rs_eq (hO _ _) (.inl (Nat.ne_of_beq_eq_false rfl))
  · intro ρ w' ho hK
    have ho : Only _ W5 w' := ho
    obtain ⟨h0, -⟩ := hK
    have h0' : ρ (.tmp 74) = _ := h0
    go_simp
    try exact rfl
  apply rs_eq (hO _ _) (.inl (Nat.ne_of_beq_eq_false rfl))
  · intro ρ w' ho hK
    have ho : Only _ W5 w' := ho
    obtain ⟨h0, -⟩ := hK
    have h0' : ρ (.tmp 99) = _ := h0
    go_simp
    try exact rfl
  intro f w9 k9 hk9 hI9 ht9 hcp9
  have E0 : f 0 = _ := ht9 0 (Nat.le_of_ble_eq_true rfl)
  conv at E0 => rhs; whnf
  have E1 : f 1 = _ := ht9 1 (Nat.le_of_ble_eq_true rfl)
  conv at E1 => rhs; whnf
  have E2 : f 2 = _ := ht9 2 (Nat.le_of_ble_eq_true rfl)
  have E3 : f 3 = _ := ht9 3 (Nat.le_of_ble_eq_true rfl)
  have E4 : f 4 = _ := ht9 4 (Nat.le_of_ble_eq_true rfl)
  have E5 : f 5 = _ := ht9 5 (Nat.le_of_ble_eq_true rfl)
  conv at E5 => rhs; whnf
  have E6 : f 6 = _ := ht9 6 (Nat.le_of_ble_eq_true rfl)
  have E7 : f 7 = _ := ht9 7 (Nat.le_of_ble_eq_true rfl)
  have E8 : f 8 = _ := ht9 8 (Nat.le_of_ble_eq_true rfl)
  have E9 : f 9 = _ := ht9 9 (Nat.le_of_ble_eq_true rfl)
  conv at E9 => rhs; whnf
  have E10 : f 10 = _ := ht9 10 (Nat.le_of_ble_eq_true rfl)
  have E11 : f 11 = _ := ht9 11 (Nat.le_of_ble_eq_true rfl)
  have E12 : f 12 = _ := ht9 12 (Nat.le_of_ble_eq_true rfl)
  have E13 : f 13 = _ := ht9 13 (Nat.le_of_ble_eq_true rfl)
  conv at E13 => rhs; whnf
  have E14 : f 14 = _ := ht9 14 (Nat.le_of_ble_eq_true rfl)
  have E15 : f 15 = _ := ht9 15 (Nat.le_of_ble_eq_true rfl)
  have E16 : f 16 = _ := ht9 16 (Nat.le_of_ble_eq_true rfl)
  have E17 : f 17 = _ := ht9 17 (Nat.le_of_ble_eq_true rfl)
  conv at E17 => rhs; whnf
  have E18 : f 18 = _ := ht9 18 (Nat.le_of_ble_eq_true rfl)
  have E19 : f 19 = _ := ht9 19 (Nat.le_of_ble_eq_true rfl)
  have E20 : f 20 = _ := ht9 20 (Nat.le_of_ble_eq_true rfl)
  have E21 : f 21 = _ := ht9 21 (Nat.le_of_ble_eq_true rfl)
  have E22 : f 22 = _ := ht9 22 (Nat.le_of_ble_eq_true rfl)
  have E23 : (TNew _ 1 1 [.int .i64 (1 + U)]) w9 (f 23) := ht9 23 (Nat.le_of_ble_eq_true rfl)
  have E24 : (TAny) w9 (f 24) := ht9 24 (Nat.le_of_ble_eq_true rfl)
  have E25 : f 25 = _ := ht9 25 (Nat.le_of_ble_eq_true rfl)
  have E26 : f 26 = _ := ht9 26 (Nat.le_of_ble_eq_true rfl)
  have Ho9 : Only _ W5 w9 := hI9.2.1
  have hown9 : w9.ownsRow (B) 3 1 (f 24) (n + 1) (cs2 ++ [.int .i64 (1 + U)]) := hI9.2.2.1
  have hat9 : ∀ g, (f 24).ownBlock = some g → (Value.slice (some ⟨gl, 0, none⟩) n cl).ownBlock = some g ∨ W5.heap.size ≤ g := hI9.2.2.2
  simp only [putAll, E0, E1, E2, E3, E4, E5, E6, E7, E8, E9, E10, E11, E12, E13, E14, E15, E16, E17, E18, E19, E20, E21, E22, E25, E26, Nat.zero_add, Nat.reduceAdd, Act.put, List.setIfInBounds_toArray, List.set_cons_succ, List.set_cons_zero, List.take, List.getElem_toArray, List.getElem_cons_succ, List.getElem_cons_zero]
  clear E0 E1 E2 E3 E4 E5 E6 E7 E8 E9 E10 E11 E12 E13 E14 E15 E16 E17 E18 E19 E20 E21 E22 E25 E26
  clear hI9 ht9 hcp9 hk9
  generalize f 23 = r23 at *
  generalize f 24 = r24 at *
  obtain ⟨W6, hW6⟩ : ∃ W, W = w9 := ⟨_, rfl⟩
  subst hW6
  have O10 : Only (fun g => (Value.slice (some ⟨gl, 0, none⟩) n cl).ownBlock = some g) W5 W6 := Ho9
  obtain ⟨A8, c8, hv8⟩ := slice_of_own hown9
  subst hv8
  have hx11 := (O10.block b hz7 hbl).trans hx10
  have q2 := blk_cell hx11 2
  have f2 := blk_free hx11 2
  have Hat10 := Lib.hid hat9
  have Hown10 := Lib.hid hown9
  have HO10 := Lib.hid O10
  clear Ho9 hown9 hat9 O10 E23 E24 hO hcu1 hcu2 hU
  go_wp2_with fail
  go_ret
  refine ⟨ret_int (by omega), fun g => E g ∨ (Value.slice A7 (G.length + 1) c7).ownBlock = some g ∨ (Value.slice A8 (n + 1) c8).ownBlock = some g, ?_, ?_, fun g hg => .inl hg, ?_⟩
  · exact ⟨m, .slice A7 (G.length + 1) c7, .slice A8 (n + 1) c8, L ++ [1 + U], bld_close HN.out H3.out (by omega) O4.out HM9.out HO9.out Hown9.out Hat9.out hW5 HO10.out Hown10.out Hat10.out hx11 Hk.out hV2 Hn.out.symm HLl.out hUb hcs Hcs2.out rfl⟩
  · have e4 := O4.out.size
    have e5 := HO10.out.size
    have eN : N ≤ W3.heap.size := by omega
    rintro g (hg | hg | hg)
    · exact .inl hg
    · rcases Hat9.out g hg with h | h
      · exact .inl (H3.out.eg g h)
      · right; omega
    · rcases Hat10.out g hg with h | h
      · exact .inl (H3.out.el g h)
      · right; omega
  · have b0 : Below N w W3 := HB.out.trans (B3.out.mono (by omega))
    have o1 : Only E w W3 := Only.grown (r := none) ⟨b0.os, b0.tape, b0.output, b0.size, fun k hk _ => b0.block k (by omega)⟩ (fun k hk => by cases hk)
    have o2 : Only E W3 w4 := O4.out.mono fun g hg => hg ▸ H3.out.em
    have o3 : Only E w4 W4 := HO9.out.mono fun g hg => H3.out.eg g hg
    have o4 : Only E W4 W5 := hW5 ▸ Only.grown (set_grown W4 b 1 _) (fun k hk => (Option.some.inj hk) ▸ H3.out.eb)
    have o5 : Only E W5 W6 := HO10.out.mono fun g hg => H3.out.el g (by rw [Hn.out] at hg; exact hg)
    exact ((((o1.trans o2).trans o3).trans o4).trans o5).trans (Only.grown (set_grown W6 b 2 _) (fun k hk => (Option.some.inj hk) ▸ H3.out.eb))
end Go.Proofs.Ytdgminjbgjbamaa

namespace Go.Proofs.Ytdgminjbgjbamaa
open Go.RowKit Go.Maps
set_option maxRecDepth 100000
/-! and, xor. -/
theorem BldNext.same {B b F : Nat} {G : List (Nat × Nat)} {E : Nat → Prop} {w w' : World} (h : BldAt B b F G E w) (hb : Below w.heap.size w w') : BldNext B b F G E w w' :=
  ⟨E, h.below hb, fun g hg => .inl hg, fun g hg => hg, Only.grown (r := none) ⟨hb.os, hb.tape, hb.output, hb.size, fun k hk _ => hb.block k hk⟩ (fun k hk => by cases hk)⟩
theorem BldNext.eq {B b F : Nat} {G : List (Nat × Nat)} {E : Nat → Prop} {w w' : World} (h : BldAt B b F G E w) (e : w' = w) : BldNext B b F G E w w' := by
  subst e
  exact BldNext.same h (Below.refl _ _)
/-- What a call of the builder gives. -/
def BldGive (B b F : Nat) (r : Nat × List (Nat × Nat)) (E : Nat → Prop) (w : World) (e : Ending) (w' : World) : Prop := e = .returned (.int .i64 (r.1 : Int)) ∧ BldNext B b F r.2 E w w'
theorem and_any {B b F : Nat} {G : List (Nat × Nat)} {E : Nat → Prop} (x y : Nat) (w : World) (h : BldAt B b F G E w) (hF : F ≤ 300) (hG : G.length ≤ 10000) (hx : x < 2 * (F + G.length)) (hy : y < 2 * (F + G.length)) :
    Calls Try.prog 72 #[.pointer (some ⟨b, 0, none⟩), .int .i64 (x : Int), .int .i64 (y : Int)] w (BldGive B b F (Cir.andB F G x y) E w) := by
  unfold BldGive Cir.andB
  obtain ⟨m, vg, vl, L, hB⟩ := h
  by_cases hs : y < x
  · rw [if_pos hs]
    unfold Cir.andS
    by_cases c0 : y = 0
    · rw [if_pos (.inl c0)]
      exact (and_zero_sw b y x w (by omega) (by omega) hs c0).mono fun e w' ⟨h1, h2⟩ => ⟨h1, BldNext.eq ⟨m, vg, vl, L, hB⟩ h2⟩
    · by_cases c1 : y = x ^^^ 1
      · rw [if_pos (.inr c1)]
        exact (and_neg_sw b y x w (by omega) (by omega) hs ⟨c0, c1⟩).mono fun e w' ⟨h1, h2⟩ => ⟨h1, BldNext.eq ⟨m, vg, vl, L, hB⟩ h2⟩
      · rw [if_neg (by rintro (h | h); exact c0 h; exact c1 h)]
        by_cases c2 : y = 1
        · rw [if_pos (.inl c2)]
          exact (and_one_sw b y x w (by omega) (by omega) hs ⟨c0, c1, c2⟩).mono fun e w' ⟨h1, h2⟩ => ⟨h1, BldNext.eq ⟨m, vg, vl, L, hB⟩ h2⟩
        · have c3 : y ≠ x := by omega
          rw [if_neg (by rintro (h | h); exact c2 h; exact c3 h)]
          cases hk : Cir.knownG F G y x with
          | some l => exact (and_known_sw y x l w hB (by omega) (by omega) hs c0 c1 c2 c3 hk).mono fun e w' ⟨h1, h2⟩ => ⟨h1, BldNext.same ⟨m, vg, vl, L, hB⟩ h2⟩
          | none => exact and_new_sw y x w hB hF hG hy hx hs c0 c1 c2 c3 hk
  · rw [if_neg hs]
    unfold Cir.andS
    by_cases c0 : x = 0
    · rw [if_pos (.inl c0)]
      exact (and_zero_st b x y w (by omega) (by omega) hs c0).mono fun e w' ⟨h1, h2⟩ => ⟨h1, BldNext.eq ⟨m, vg, vl, L, hB⟩ h2⟩
    · by_cases c1 : x = y ^^^ 1
      · rw [if_pos (.inr c1)]
        exact (and_neg_st b x y w (by omega) (by omega) hs ⟨c0, c1⟩).mono fun e w' ⟨h1, h2⟩ => ⟨h1, BldNext.eq ⟨m, vg, vl, L, hB⟩ h2⟩
      · rw [if_neg (by rintro (h | h); exact c0 h; exact c1 h)]
        by_cases c2 : x = 1
        · rw [if_pos (.inl c2)]
          exact (and_one_st b x y w (by omega) (by omega) hs ⟨c0, c1, c2⟩).mono fun e w' ⟨h1, h2⟩ => ⟨h1, BldNext.eq ⟨m, vg, vl, L, hB⟩ h2⟩
        · by_cases c3 : x = y
          · rw [if_pos (.inr c3)]
            exact (and_same_st b x y w (by omega) (by omega) hs ⟨c0, c1, c2, c3⟩).mono fun e w' ⟨h1, h2⟩ => ⟨h1, BldNext.eq ⟨m, vg, vl, L, hB⟩ h2⟩
          · rw [if_neg (by rintro (h | h); exact c2 h; exact c3 h)]
            cases hk : Cir.knownG F G x y with
            | some l => exact (and_known_st x y l w hB (by omega) (by omega) hs c0 c1 c2 c3 hk).mono fun e w' ⟨h1, h2⟩ => ⟨h1, BldNext.same ⟨m, vg, vl, L, hB⟩ h2⟩
            | none => exact and_new_st x y w hB hF hG hx hy hs c0 c1 c2 c3 hk
theorem BldNext.trans' {B b F : Nat} {G2 : List (Nat × Nat)} {E E1 : Nat → Prop} {w w1 w2 : World} (h2 : BldNext B b F G2 E1 w1 w2) (n1 : ∀ g, E1 g → E g ∨ w.heap.size ≤ g) (i1 : ∀ g, E g → E1 g) (o1 : Only E w w1) : BldNext B b F G2 E w w2 := by
  obtain ⟨E2, a, b, c, d⟩ := h2
  refine ⟨E2, a, fun g hg => ?_, fun g hg => c g (i1 g hg), ?_⟩
  · rcases b g hg with h | h
    · exact n1 g h
    · exact .inr (Nat.le_trans o1.size h)
  · exact ⟨d.os.trans o1.os, d.tape.trans o1.tape, d.output.trans o1.output, Nat.le_trans o1.size d.size, fun k hk hn => (d.block k (Nat.lt_of_lt_of_le hk o1.size) fun he => by
      rcases n1 k he with h | h
      · exact hn h
      · omega).trans (o1.block k hk hn)⟩
end Go.Proofs.Ytdgminjbgjbamaa

namespace Go.Proofs.Ytdgminjbgjbamaa
open Go.RowKit Go.Maps
set_option maxRecDepth 100000
set_option maxHeartbeats 8000000
/-! The built circuit, by the program. -/
theorem nat_cell {w wr : World} {A : Option Addr} {n c : Nat} {xs : List Nat} (h : Row w 1 (.slice A n c) n (ints (xs.map Int.ofNat))) (hb : Below w.heap.size w wr) {i : Nat} (hn : n = xs.length) (hi : i < xs.length) :
    ∃ b o, A = some ⟨b, o, none⟩ ∧ b < w.heap.size ∧ wr.cell? ⟨b, o + i, none⟩ = some (.int .i64 ((xs.getD i 0 : Nat) : Int)) := by
  obtain ⟨b, o, x, hA, hbl, hx, hs⟩ := ints_open h hb (by rw [List.length_map]; exact hn) (i := i) (by rw [List.length_map]; exact hi)
  have hxe : x = ((xs.getD i 0 : Nat) : Int) := by
    have h1 := hx.out
    rw [List.getElem?_map, List.getElem?_eq_getElem hi] at h1
    rw [List.getD_eq_getElem?_getD, List.getElem?_eq_getElem hi]
    exact (Option.some.inj h1).symm
  subst hxe
  exact ⟨b, o, hA, hbl, hs⟩
theorem getD_le {xs : List Nat} {M : Nat} (h : ∀ x ∈ xs, x ≤ M) (i : Nat) : xs.getD i 0 ≤ M := by
  rw [List.getD_eq_getElem?_getD]
  cases hi : xs[i]? with
  | none => simp
  | some a => exact h a (List.mem_of_getElem? hi)
theorem and_one_nat (l : Nat) (hb : l ≤ 1000000) : bits .and .i64 (l : Int) 1 = ((l % 2 : Nat) : Int) := by
  have := i64_and_nat l 1 (by omega) (by omega)
  rw [Nat.and_one_is_mod] at this
  exact this
theorem bldUse_any (gc l : Nat) (m : List Nat) (vl : Value) (w : World) (hc : w.cell? ⟨gc, 0, none⟩ = some vl) (hm : IntsAt w vl (m.map Int.ofNat)) (hl : l / 2 < m.length) (hb : l ≤ 1000000) (hv : ∀ x ∈ m, x ≤ 1000000) :
    Calls Try.prog 107 #[.int .i64 (l : Int), .pointer (some ⟨gc, 0, none⟩)] w fun e w' => e = .returned (.int .i64 (Cir.useX m l : Nat)) ∧ Below w.heap.size w w' := by
  obtain ⟨A, c, rfl, hc1, hcm⟩ := Row.shape hm
  rw [List.length_map] at hc hc1
  obtain ⟨b, o, rfl, hbl, hs⟩ := nat_cell (by have := hm; unfold IntsAt at this; rwa [List.length_map] at this) (Below.refl _ _) rfl hl
  have hq := tdiv_two l
  have ha := and_one_nat l hb
  have hx := i64_xor_nat (m.getD (l / 2) 0) (l % 2) (by have := getD_le hv (l / 2); omega) (by omega)
  have hR : Hid (Cir.useX m l = m.getD (l / 2) 0 ^^^ (l % 2)) := Lib.hid rfl
  have hlb : l / 2 ≤ 1000000 := by omega
  generalize l / 2 = q at *
  generalize m.getD q 0 = x at *
  generalize l % 2 = r at *
  generalize x ^^^ r = y at *
  have hwq : IntKind.i64.wrap (q : Int) = q := IntWalk.i64_in _ (by omega)
  generalize hML : m.length = ML at *
  clear hm hv
  go_enter Try.func107, Try.ntmps107
  go_wp2_with fail
  go_ret
  exact ⟨by rw [hR.out]; rfl, Below.refl _ _⟩
theorem pruneUse_any (gc l : Nat) (m : List Nat) (vl : Value) (w : World) (hc : w.cell? ⟨gc, 0, none⟩ = some vl) (hm : IntsAt w vl (m.map Int.ofNat)) (hl : l / 2 < m.length) (hb : l ≤ 1000000) (hv : ∀ x ∈ m, x ≤ 1000000) :
    Calls Try.prog 108 #[.int .i64 (l : Int), .pointer (some ⟨gc, 0, none⟩)] w fun e w' => e = .returned (.int .i64 (2 * m.getD (l / 2) 0 + l % 2 : Nat)) ∧ Below w.heap.size w w' := by
  obtain ⟨A, c, rfl, hc1, hcm⟩ := Row.shape hm
  rw [List.length_map] at hc hc1
  obtain ⟨b, o, rfl, hbl, hs⟩ := nat_cell (by have := hm; unfold IntsAt at this; rwa [List.length_map] at this) (Below.refl _ _) rfl hl
  have hq := tdiv_two l
  have ha := and_one_nat l hb
  have hx := getD_le hv (l / 2)
  have hlb : l / 2 ≤ 1000000 := by omega
  have hrb : l % 2 ≤ 1 := by omega
  generalize l / 2 = q at *
  generalize m.getD q 0 = x at *
  generalize l % 2 = r at *
  have hwq : IntKind.i64.wrap (q : Int) = q := IntWalk.i64_in _ (by omega)
  have hw2 : IntKind.i64.wrap (2 * (x : Int)) = 2 * (x : Int) := IntWalk.i64_in _ (by omega)
  have hw3 : IntKind.i64.wrap (2 * (x : Int) + (r : Int)) = 2 * (x : Int) + (r : Int) := IntWalk.i64_in _ (by omega)
  generalize hML : m.length = ML at *
  clear hm hv
  go_enter Try.func108, Try.ntmps108
  go_wp2_with fail
  go_ret
  exact ⟨ret_int (by omega), Below.refl _ _⟩
def TBoxC (c : Cz) : Ty := fun w v => ∃ g, v = .pointer (some ⟨g, 0, none⟩) ∧ PCirc w g c
theorem stb_boxc (c : Cz) : Stb (fun _ => False) (TBoxC c) := fun _ _ _ ⟨g, h1, h2⟩ ho => ⟨g, h1, h2.below (only_below ho)⟩
def TCOwn (c : Cz) : Ty := fun w v => CircOwn 0 w v c
theorem stb_cown (c : Cz) : Stb (fun _ => False) (TCOwn c) := fun _ _ _ h ho => CircOwn.below h (only_below ho)
def TBoxZ (B : Nat) (cs : Array Value) (t : TypeId) : Ty := fun w v => ∃ g, v = .pointer (some ⟨g, 0, none⟩) ∧ B ≤ g ∧ w.heap[g]? = some (.cells cs t (0, 0))
theorem stb_boxz (B : Nat) (cs : Array Value) (t : TypeId) : Stb (fun _ => False) (TBoxZ B cs t) := fun _ _ _ ⟨g, h1, h2, h3⟩ ho => ⟨g, h1, h2, (ho.block g (blk_ltB h3) id).trans h3⟩
theorem own_setN {w : World} {B n size k i : Nat} {e : TypeId} {v u : Value} {cs : List Value} (h : w.ownsRow B e size v n cs) (hk : v.ownBlock ≠ some k) : (w.setCell ⟨k, i, none⟩ u).ownsRow B e size v n cs :=
  own_only h (Only.grown (E := fun g => g = k) (set_grown w k i u) (fun x hx => (Option.some.inj hx).symm)) (fun g hg e => hk (by rw [hg, e]))
/-- The circuit that the builder gives. -/
theorem circuit_any {B b F : Nat} {G : List (Nat × Nat)} {E : Nat → Prop} (g : Nat) (c : Ci) (m : List Nat) (vl : Value) (w : World) (hB : BldAt B b F G E w) (hp : PCirc w g (Cir.toCz c)) (hm : IntsAt w vl (m.map Int.ofNat))
    (l1 : c.next.length ≤ 1000) (l3 : c.outs.length ≤ 1000) (lm : m.length ≤ 1000) (lg : G.length ≤ 1000) (n1 : ∀ l ∈ c.next, l < 2 * m.length) (n3 : ∀ l ∈ c.outs, l < 2 * m.length) (hv : ∀ x ∈ m, x ≤ 1000000) :
    Calls Try.prog 92 #[.pointer (some ⟨b, 0, none⟩), .pointer (some ⟨g, 0, none⟩), vl] w fun e w' => (∃ v, e = .returned v ∧ CircAt w' v (Cir.toCz ⟨c.ins, c.next.map (Cir.useX m), G.reverse, c.outs.map (Cir.useX m)⟩)) ∧ Below w.heap.size w w' := by
  obtain ⟨vn, vg, vo, hg, c0, c1, c2, c3, r1, r2, r3⟩ := hp
  obtain ⟨An, cn, rfl, hcn, hcmn⟩ := Row.shape r1
  obtain ⟨Ao, co, rfl, hco, hcmo⟩ := Row.shape r3
  obtain ⟨Al, cl, rfl, hcl, hcml⟩ := Row.shape hm
  have hnl : (Cir.toCz c).next.length = c.next.length := List.length_map _
  have hol : (Cir.toCz c).outs.length = c.outs.length := List.length_map _
  have hml : (m.map Int.ofNat).length = m.length := List.length_map _
  rw [hnl] at hcn c1 r1
  rw [hol] at hco c3 r3
  rw [hml] at hcl hm ⊢
  have Hm := Lib.hid hm
  have R1 := Lib.hid r1
  have R3 := Lib.hid r3
  have HB := Lib.hid hB
  have HN := Lib.hid (And.intro n1 n3)
  have HV := Lib.hid hv
  have hbz : b < w.heap.size := by obtain ⟨_, _, _, _, h⟩ := hB; exact (h.lo b h.eb).2
  have hb1 := bel_new w (.cells #[.slice Al m.length cl] 23)
  have hb2 := bel_new (w.alloc (.cells #[.slice Al m.length cl] 23)) (.cells #[.int .i64 0, .slice none 0 0, .slice none 0 0, .slice none 0 0] 26)
  have hk1 := heap_alloc_new w (.cells #[.slice Al m.length cl] 23)
  have hk2 := heap_alloc_new (w.alloc (.cells #[.slice Al m.length cl] 23)) (.cells #[.int .i64 0, .slice none 0 0, .slice none 0 0, .slice none 0 0] 26)
  have hz1 : (w.alloc (.cells #[.slice Al m.length cl] 23)).heap.size = w.heap.size + 1 := by simp
  clear r1 r2 r3 c2 hm hB n1 n3 hv hnl hol hml
  go_enter Try.func92, Try.ntmps92
  go_wp2_with fail
  have hk1' := (hb2.block w.heap.size (by omega)).trans hk1
  have hB2 := hb1.trans (hb2.mono (by omega))
  rw [hz1] at hk2
  generalize (w.alloc (.cells #[.slice Al m.length cl] 23)).alloc (.cells #[.int .i64 0, .slice none 0 0, .slice none 0 0, .slice none 0 0] 26) = W0 at *
  obtain ⟨g5, hg5⟩ : ∃ g5, g5 = w.heap.size := ⟨_, rfl⟩
  obtain ⟨g6, hg6⟩ : ∃ g6, g6 = w.heap.size + 1 := ⟨_, rfl⟩
  rw [← hg5] at hk1' ⊢
  rw [← hg6] at hk2
  rw [hg5, ← hg6, ← hg5]
  have HK5 := Lib.hid hk1'
  have HK6 := Lib.hid hk2
  have HB0 := Lib.hid hB2
  have hz0 := hB2.size
  have Hm0 : Hid (IntsAt W0 (.slice Al m.length cl) (m.map Int.ofNat)) := Lib.hid (Row.below Hm.out hB2)
  have hg5z := blk_ltB hk1'
  have hg6z := blk_ltB hk2
  have hB0 := HB.out.below hB2
  have HBW := Lib.hid hB0
  have hwg5 : w.heap.size ≤ g5 := by omega
  have hwg6 : w.heap.size ≤ g6 := by omega
  clear hk1' hk2 hb1 hb2 hk1 hz1 hB2 Hm HB hB0 hg5 hg6
  refine wp_region_rsl (quietRS Try.prog _ W0 _) quietRS_ok (by kernel_rfl) (by kernel_rfl) (by kernel_rfl) 17 _ rfl rfl (by kernel_rfl) (show (0 : Nat) < 17 by decide) trivial trivial ?_
  refine rs_old quietRS_ok quiet_any _ (.inl rfl) _ rfl rfl ?_
  apply rs_eq quietRS_ok quiet_any
  · intro ρ w' ho hK
    have ho : Only _ W0 w' := ho
    obtain ⟨h0, -⟩ := hK
    have h0' : ρ (.tmp 8) = _ := h0
    go_simp
    try exact rfl
  apply rs_eq quietRS_ok quiet_any
  · intro ρ w' ho hK
    have ho : Only _ W0 w' := ho
    obtain ⟨h0, -⟩ := hK
    have h0' : ρ (.tmp 9) = _ := h0
    go_simp
    try exact rfl
  apply rs_eq quietRS_ok quiet_any
  · intro ρ w' ho hK
    have ho : Only _ W0 w' := ho
    obtain ⟨h0, -⟩ := hK
    have h0' : ρ (.tmp 10) = _ := h0
    have hb := HB0.out.trans ((only_below ho).mono HB0.out.size)
    have q0 := (hb.cell (p := ⟨g, 0, none⟩) hg).trans c0
    have q1 := (hb.cell (p := ⟨g, 1, none⟩) hg).trans c1
    have q3 := (hb.cell (p := ⟨g, 3, none⟩) hg).trans c3
    go_simp
    try exact rfl
  refine rs_old quietRS_ok quiet_any _ (.inl rfl) _ rfl rfl ?_
  apply rs_eq quietRS_ok quiet_any
  · intro ρ w' ho hK
    have ho : Only _ W0 w' := ho
    obtain ⟨h0, -⟩ := hK
    have h0' : ρ (.tmp 12) = _ := h0
    go_simp
    try exact rfl
  apply rs_eq quietRS_ok quiet_any
  · intro ρ w' ho hK
    have ho : Only _ W0 w' := ho
    obtain ⟨h0, -⟩ := hK
    have h0' : ρ (.tmp 13) = _ := h0
    go_simp
    try exact rfl
  apply rs_eq quietRS_ok quiet_any
  · intro ρ w' ho hK
    have ho : Only _ W0 w' := ho
    obtain ⟨h0, -⟩ := hK
    have h0' : ρ (.tmp 14) = _ := h0
    have hb := HB0.out.trans ((only_below ho).mono HB0.out.size)
    have q0 := (hb.cell (p := ⟨g, 0, none⟩) hg).trans c0
    have q1 := (hb.cell (p := ⟨g, 1, none⟩) hg).trans c1
    have q3 := (hb.cell (p := ⟨g, 3, none⟩) hg).trans c3
    go_simp
    try exact rfl
  refine rs_old quietRS_ok quiet_any _ (.inl rfl) _ rfl rfl ?_
  apply rs_eq quietRS_ok quiet_any
  · intro ρ w' ho hK
    have ho : Only _ W0 w' := ho
    obtain ⟨h0, -⟩ := hK
    have h0' : ρ (.tmp 16) = _ := h0
    go_simp
    try exact rfl
  apply rs_eq quietRS_ok quiet_any
  · intro ρ w' ho hK
    have ho : Only _ W0 w' := ho
    obtain ⟨h0, -⟩ := hK
    have h0' : ρ (.tmp 17) = _ := h0
    go_simp
    try exact rfl
  apply rs_eq quietRS_ok quiet_any
  · intro ρ w' ho hK
    have ho : Only _ W0 w' := ho
    obtain ⟨h0, -⟩ := hK
    have h0' : ρ (.tmp 18) = _ := h0
    have hb := HB0.out.trans ((only_below ho).mono HB0.out.size)
    have q0 := (hb.cell (p := ⟨g, 0, none⟩) hg).trans c0
    have q1 := (hb.cell (p := ⟨g, 1, none⟩) hg).trans c1
    have q3 := (hb.cell (p := ⟨g, 3, none⟩) hg).trans c3
    go_simp
    try exact rfl
  apply rs_eq quietRS_ok quiet_any
  · intro ρ w' ho hK
    have ho : Only _ W0 w' := ho
    obtain ⟨h0, h1, h2, -⟩ := hK
    have h0' : ρ (.tmp 11) = _ := h0
    have h1' : ρ (.tmp 15) = _ := h1
    have h2' : ρ (.tmp 19) = _ := h2
    go_simp
    try exact rfl
  refine rs_alloc quietRS_ok quiet_any (TBoxC (Cir.toCz ⟨c.ins, c.next, [], c.outs⟩)) (stb_boxc _) (fun ρ w' ho hK => by
    obtain ⟨h0, -⟩ := hK
    have h0' : ρ (.tmp 20) = _ := h0
    have hb := HB0.out.trans ((only_below ho).mono HB0.out.size)
    refine ⟨.pointer (some ⟨w'.heap.size, 0, none⟩), .cells #[.int .i64 (Cir.toCz c).ins, .slice An c.next.length cn, .slice none 0 0, .slice Ao c.outs.length co] 26, ?_, ⟨_, rfl, PCirc.boxed (c := Cir.toCz ⟨c.ins, c.next, [], c.outs⟩) _ ?_ ?_ ?_⟩⟩
    · go_simp
    · exact Row.below R1.out hb
    · exact Row.nil _ _
    · exact Row.below R3.out hb) ?_
  apply rs_eq quietRS_ok quiet_any
  · intro ρ w' ho hK
    have ho : Only _ W0 w' := ho
    obtain ⟨h0, -⟩ := hK
    have h0' : ρ (.tmp 5) = _ := h0
    go_simp
    try exact rfl
  refine rs_call quietRS_ok quiet_any (TCOwn (Cir.toCz (mapC (Cir.useX m) ⟨c.ins, c.next, [], c.outs⟩))) (stb_cown _) 56 _ _ rfl (fun ρ w' ho hK => by
    have ho : Only _ W0 w' := ho
    obtain ⟨h0, h1, h2, -⟩ := hK
    have h0' : ρ (.func 56) = .func (.func 56) #[] #[] := h0
    have h1' : (TBoxC (Cir.toCz ⟨c.ins, c.next, [], c.outs⟩)) w' (ρ (.tmp 21)) := h1
    have h2' : ρ (.tmp 22) = _ := h2
    obtain ⟨g7, e7, hp7⟩ : ∃ g', ρ (.tmp 21) = .pointer (some ⟨g', 0, none⟩) ∧ PCirc w' g' (Cir.toCz ⟨c.ins, c.next, [], c.outs⟩) := h1'
    have hsz : g5 < w'.heap.size := Nat.lt_of_lt_of_le hg5z ho.size
    have hcall := replaced_any g7 (2 * m.length) ⟨c.ins, c.next, [], c.outs⟩ 107 #[.pointer (some ⟨g5, 0, none⟩)] (Cir.useX m) w' hp7 l1 (by simp) l3 HN.out.1 (fun x hx => by cases hx) HN.out.2 (fun vs w' => by kernel_rfl) (fun w'' hb l hl => bldUse_any g5 l m (.slice Al m.length cl) w'' ((hb.cell (p := ⟨g5, 0, none⟩) hsz).trans (((only_below ho).cell (p := ⟨g5, 0, none⟩) hg5z).trans (blk_cell HK5.out 0))) (Row.below (Row.below Hm0.out (only_below ho)) hb) (by omega) (by omega) HV.out)
    rw [← e7] at hcall
    refine ⟨#[ρ (.tmp 21), ρ (.tmp 22)], ?_, ?_⟩
    · go_simp
    · rw [h2']
      refine (hcall).mono ?_
      rintro e w2 ⟨⟨v2, rfl, hO⟩, hb⟩
      exact ⟨v2, rfl, hO.mono (Nat.zero_le _), hb⟩) ?_
  refine rs_alloc quietRS_ok quiet_any (TBoxZ W0.heap.size #[.int .i64 0, .slice none 0 0, .slice none 0 0, .slice none 0 0] 26) (stb_boxz _ _ _) (fun ρ w' ho hK => by
    refine ⟨.pointer (some ⟨w'.heap.size, 0, none⟩), .cells #[.int .i64 0, .slice none 0 0, .slice none 0 0, .slice none 0 0] 26, ?_, ⟨_, rfl, ho.size, heap_alloc_new _ _⟩⟩
    go_simp) ?_
  intro f w9 k9 hk9 hI9 ht9 hcp9
  have E0 : f 0 = _ := ht9 0 (Nat.le_of_ble_eq_true rfl)
  conv at E0 => rhs; whnf
  have E1 : f 1 = _ := ht9 1 (Nat.le_of_ble_eq_true rfl)
  have E2 : f 2 = _ := ht9 2 (Nat.le_of_ble_eq_true rfl)
  have E3 : f 3 = _ := ht9 3 (Nat.le_of_ble_eq_true rfl)
  have E4 : f 4 = _ := ht9 4 (Nat.le_of_ble_eq_true rfl)
  conv at E4 => rhs; whnf
  have E5 : f 5 = _ := ht9 5 (Nat.le_of_ble_eq_true rfl)
  have E6 : f 6 = _ := ht9 6 (Nat.le_of_ble_eq_true rfl)
  have E7 : f 7 = _ := ht9 7 (Nat.le_of_ble_eq_true rfl)
  have E8 : f 8 = _ := ht9 8 (Nat.le_of_ble_eq_true rfl)
  conv at E8 => rhs; whnf
  have E9 : f 9 = _ := ht9 9 (Nat.le_of_ble_eq_true rfl)
  have E10 : f 10 = _ := ht9 10 (Nat.le_of_ble_eq_true rfl)
  have E11 : f 11 = _ := ht9 11 (Nat.le_of_ble_eq_true rfl)
  have E12 : f 12 = _ := ht9 12 (Nat.le_of_ble_eq_true rfl)
  have E13 : (TBoxC (Cir.toCz ⟨c.ins, c.next, [], c.outs⟩)) w9 (f 13) := ht9 13 (Nat.le_of_ble_eq_true rfl)
  have E14 : f 14 = _ := ht9 14 (Nat.le_of_ble_eq_true rfl)
  have E15 : (TCOwn (Cir.toCz (mapC (Cir.useX m) ⟨c.ins, c.next, [], c.outs⟩))) w9 (f 15) := ht9 15 (Nat.le_of_ble_eq_true rfl)
  have E16 : (TBoxZ W0.heap.size #[.int .i64 0, .slice none 0 0, .slice none 0 0, .slice none 0 0] 26) w9 (f 16) := ht9 16 (Nat.le_of_ble_eq_true rfl)
  have Ho9 : Only _ W0 w9 := hI9.2.1
  simp only [putAll, E0, E1, E2, E3, E4, E5, E6, E7, E8, E9, E10, E11, E12, E14, Nat.zero_add, Nat.reduceAdd, Act.put, List.setIfInBounds_toArray, List.set_cons_succ, List.set_cons_zero, List.take, List.getElem_toArray, List.getElem_cons_succ, List.getElem_cons_zero]
  clear E0 E1 E2 E3 E4 E5 E6 E7 E8 E9 E10 E11 E12 E14
  clear hI9 ht9 hcp9 hk9
  generalize f 13 = r13 at *
  generalize f 15 = r15 at *
  generalize f 16 = r16 at *
  have hb9 := only_below Ho9
  obtain ⟨g7, e7, hg7, hk7⟩ : ∃ g', r16 = .pointer (some ⟨g', 0, none⟩) ∧ W0.heap.size ≤ g' ∧ w9.heap[g']? = some (.cells #[.int .i64 0, .slice none 0 0, .slice none 0 0, .slice none 0 0] 26 (0, 0)) := E16
  subst e7
  obtain ⟨vn', vg', vo', e15, q1, q2, q3⟩ : CircOwn 0 w9 r15 (Cir.toCz (mapC (Cir.useX m) ⟨c.ins, c.next, [], c.outs⟩)) := E15
  subst e15
  obtain ⟨A1, c1', hv1⟩ := slice_of_own q1
  obtain ⟨A2, c2', hv2⟩ := slice_of_own q2
  obtain ⟨A3, c3', hv3⟩ := slice_of_own q3
  subst hv1 hv2 hv3
  have hlm : (Cir.toCz (mapC (Cir.useX m) ⟨c.ins, c.next, [], c.outs⟩)).next.length = c.next.length ∧ (Cir.toCz (mapC (Cir.useX m) ⟨c.ins, c.next, [], c.outs⟩)).gates.length = 0 ∧ (Cir.toCz (mapC (Cir.useX m) ⟨c.ins, c.next, [], c.outs⟩)).outs.length = c.outs.length := ⟨by simp [Cir.toCz, mapC], by simp [Cir.toCz, mapC], by simp [Cir.toCz, mapC]⟩
  rw [hlm.1] at q1 ⊢
  rw [hlm.2.2] at q3 ⊢
  rw [hlm.2.1]
  obtain ⟨mm, vgB, vlB, L, hBb⟩ := HBW.out.below hb9
  obtain ⟨A4, c4', hv4⟩ := slice_of_own hBb.gs
  subst hv4
  have hk6 := (hb9.block g6 hg6z).trans HK6.out
  have hbz' : b < W0.heap.size := Nat.lt_of_lt_of_le hbz hz0
  have hb7 : b ≠ g7 := by omega
  have hg67 : g6 ≠ g7 := by omega
  have hb6 : b ≠ g6 := by omega
  have hg76 : g7 ≠ g6 := by omega
  have hw7 : w.heap.size ≤ g7 := by omega
  have hIe : (Cir.toCz (mapC (Cir.useX m) ⟨c.ins, c.next, [], c.outs⟩)).ins = (Cir.toCz c).ins := rfl
  rw [hIe]
  refine wpList_store_rowTo rfl 26 (.tmp 7) (.tmp 23) rfl rfl g7 #[.int .i64 (Cir.toCz c).ins, .slice A1 c.next.length c1', .slice A2 0 c2', .slice A3 c.outs.length c3'] rfl rfl 26 _ hk7 (by kernel_rfl) rfl (by simp [Value.oneCell']) ?_
  have hj7 := setRow_heap w9 g7 _ #[.int .i64 (Cir.toCz c).ins, .slice A1 c.next.length c1', .slice A2 0 c2', .slice A3 c.outs.length c3'] _ _ hk7
  have hj6 := (setRow_other w9 g7 g6 #[.int .i64 (Cir.toCz c).ins, .slice A1 c.next.length c1', .slice A2 0 c2', .slice A3 c.outs.length c3'] hg67).trans hk6
  have hO7 : Only (fun g => g = g7) w9 (w9.setRow g7 #[.int .i64 (Cir.toCz c).ins, .slice A1 c.next.length c1', .slice A2 0 c2', .slice A3 c.outs.length c3']) := ⟨rfl, rfl, rfl, by simp, fun k hk hn => setRow_other _ _ _ _ hn⟩
  generalize hWW : w9.setRow g7 #[.int .i64 (Cir.toCz c).ins, .slice A1 c.next.length c1', .slice A2 0 c2', .slice A3 c.outs.length c3'] = W8 at *
  have hw9z : W0.heap.size ≤ w9.heap.size := hb9.size
  have HB8 : Hid (Below w.heap.size w W8) := Lib.hid (Only.below (HB0.out.trans (hb9.mono HB0.out.size)) hO7 (by omega) (fun k hk => by omega))
  have Q1 := Lib.hid (own_only q1 hO7 (fun g hg e => own_ne_tag q1 hk7 (by decide) (by rw [hg, e])))
  have Q3 := Lib.hid (own_only q3 hO7 (fun g hg e => own_ne_tag q3 hk7 (by decide) (by rw [hg, e])))
  have hGlo : ∀ g, (Value.slice A4 G.length c4').ownBlock = some g → g < W0.heap.size := fun g hg => by
    obtain ⟨m0, vg0, vl0, L0, h0⟩ := HBW.out
    have e0 := blk_cell ((hb9.block b hbz').trans h0.box) 1
    have p1 := blk_cell hBb.box 1
    simp at e0 p1
    rw [p1] at e0
    have e1 := Option.some.inj e0
    exact (h0.lo g (h0.eg g (by rw [← e1]; exact hg))).2
  have Q4 := Lib.hid (own_only hBb.gs hO7 (fun g hg e => by have := hGlo g hg; omega))
  have Q46 : Hid (∀ g, (Value.slice A4 G.length c4').ownBlock = some g → g ≠ g6 ∧ g ≠ g7) := Lib.hid fun g hg => ⟨own_ne_tag hBb.gs hk6 (by decide) ∘ (fun e => by rw [hg, e]), by have := hGlo g hg; omega⟩
  have Q16 : Hid ((∀ g, (Value.slice A1 c.next.length c1').ownBlock = some g → g ≠ g6 ∧ g ≠ g7) ∧ (∀ g, (Value.slice A3 c.outs.length c3').ownBlock = some g → g ≠ g6 ∧ g ≠ g7)) := Lib.hid ⟨fun g hg => ⟨own_ne_tag q1 hk6 (by decide) ∘ (fun e => by rw [hg, e]), own_ne_tag q1 hk7 (by decide) ∘ (fun e => by rw [hg, e])⟩, fun g hg => ⟨own_ne_tag q3 hk6 (by decide) ∘ (fun e => by rw [hg, e]), own_ne_tag q3 hk7 (by decide) ∘ (fun e => by rw [hg, e])⟩⟩
  have hjb := (hO7.block b (by omega) hb7).trans hBb.box
  have k0 := blk_cell hj7 0
  have k1 := blk_cell hj7 1
  have k2 := blk_cell hj7 2
  have k3 := blk_cell hj7 3
  have f2 := blk_free hj7 2
  have j0 := blk_cell hj6 0
  have j1 := blk_cell hj6 1
  have j2 := blk_cell hj6 2
  have j3 := blk_cell hj6 3
  have i0 := blk_free hj6 0
  have i1 := blk_free hj6 1
  have i2 := blk_free hj6 2
  have i3 := blk_free hj6 3
  have p1 := blk_cell hjb 1
  simp at k0 k1 k2 k3 j0 j1 j2 j3 p1
  clear Ho9 hb9 hk7 hk6 q1 q2 q3 hBb hlm hGlo HBW Hm0 HK5 HK6 HB0 hIe hWW hO7 hj7 hj6 hjb E13
  go_wp2_with fail
  have n46 : (Value.slice A4 G.length c4').ownBlock ≠ some g6 := fun e => (Q46.out g6 e).1 rfl
  have n47 : (Value.slice A4 G.length c4').ownBlock ≠ some g7 := fun e => (Q46.out g7 e).2 rfl
  have n16 : (Value.slice A1 c.next.length c1').ownBlock ≠ some g6 := fun e => (Q16.out.1 g6 e).1 rfl
  have n17 : (Value.slice A1 c.next.length c1').ownBlock ≠ some g7 := fun e => (Q16.out.1 g7 e).2 rfl
  have n36 : (Value.slice A3 c.outs.length c3').ownBlock ≠ some g6 := fun e => (Q16.out.2 g6 e).1 rfl
  have n37 : (Value.slice A3 c.outs.length c3').ownBlock ≠ some g7 := fun e => (Q16.out.2 g7 e).2 rfl
  refine bodyPost_ret (v := .agg #[.int .i64 (Cir.toCz c).ins, .slice A1 c.next.length c1', .slice A4 G.length c4', .slice A3 c.outs.length c3']) (by simp [results, Try.results92, go_sem, j0, j1, j2, j3, hg67, hg76]) rfl ⟨⟨_, rfl, _, _, _, rfl, ?_, ?_, ?_⟩, ?_⟩
  · have h := own_setN (i := 3) (u := .slice A3 c.outs.length c3') (own_setN (i := 2) (u := .slice A4 G.length c4') (own_setN (i := 1) (u := .slice A1 c.next.length c1') (own_setN (i := 0) (u := .int .i64 (Cir.toCz c).ins) (own_setN (i := 2) (u := .slice A4 G.length c4') Q1.out n17) n16) n16) n16) n16
    have e1 : (Cir.toCz ⟨c.ins, c.next.map (Cir.useX m), G.reverse, c.outs.map (Cir.useX m)⟩).next.length = c.next.length := by simp [Cir.toCz]
    unfold IntsAt
    rw [e1]
    exact Row.of_own h
  · have h := own_setN (i := 3) (u := .slice A3 c.outs.length c3') (own_setN (i := 2) (u := .slice A4 G.length c4') (own_setN (i := 1) (u := .slice A1 c.next.length c1') (own_setN (i := 0) (u := .int .i64 (Cir.toCz c).ins) (own_setN (i := 2) (u := .slice A4 G.length c4') Q4.out n47) n46) n46) n46) n46
    have e1 : (Cir.toCz ⟨c.ins, c.next.map (Cir.useX m), G.reverse, c.outs.map (Cir.useX m)⟩).gates.length = G.length := by simp [Cir.toCz]
    unfold CubesAt
    rw [e1]
    exact Row.of_own h
  · have h := own_setN (i := 3) (u := .slice A3 c.outs.length c3') (own_setN (i := 2) (u := .slice A4 G.length c4') (own_setN (i := 1) (u := .slice A1 c.next.length c1') (own_setN (i := 0) (u := .int .i64 (Cir.toCz c).ins) (own_setN (i := 2) (u := .slice A4 G.length c4') Q3.out n37) n36) n36) n36) n36
    have e1 : (Cir.toCz ⟨c.ins, c.next.map (Cir.useX m), G.reverse, c.outs.map (Cir.useX m)⟩).outs.length = c.outs.length := by simp [Cir.toCz]
    unfold IntsAt
    rw [e1]
    exact Row.of_own h
  · exact ((((HB8.out.setCell hw7 _).setCell hwg6 _).setCell hwg6 _).setCell hwg6 _).setCell hwg6 _
end Go.Proofs.Ytdgminjbgjbamaa

namespace Go.Proofs.Ytdgminjbgjbamaa
open Go.RowKit Go.Maps
set_option maxRecDepth 100000
set_option maxHeartbeats 8000000
/-! A circuit without the gates that nothing reaches, by the program. -/
theorem append_gatesO {w : World} {ops : Array Oper} {rest : List Oper} {o : Oper} {a : Act} {Q : Exit → Act → World → Prop} (hgd : o.guard = none) (s x : Operand)
    (ho : o.op = .call { callee := .builtin .append, args := #[s, x], argTypes := #[24, 24] })
    (base : Nat) (v : Value) (n : Nat) (xs : List Value) (hs : a.eval s = v) (hown : w.ownsRow base 72 2 v n xs) (sv : Value) (m : Nat) (news : List Value) (hx : a.eval x = sv) (hr : Row w 2 sv m news) (h1 : ∀ u ∈ news, u.oneCell' = true)
    (h63 : n + m ≤ 1000000) (hbase : base ≤ w.heap.size)
    (h : ∀ v' w', w'.ownsRow base 72 2 v' (n + m) (xs ++ news) → w.grownBy w' v.ownBlock → (v'.ownBlock = v.ownBlock ∨ v'.ownBlock = some w.heap.size) → wpList Try.prog ops Q rest (a.put o.dst v') w') : wpList Try.prog ops Q (o :: rest) a w := by
  obtain ⟨i, hi, hz0, hz1, hz2⟩ := info_parts info_gate
  exact wpList_append_at hgd s x 24 ho base 72 i _ 2 16 Try.underlying24 hi hz0 hz1 hz2 rfl (by decide) v n xs hs hown sv m news hx hr h1 (by unfold maxLen; omega) (by omega) hbase h
theorem plc_row_set {F n v : Nat} {keep : List Bool} {x : Nat} (hv : v < n) (hx : x = Cir.plc F keep v) : (ints (((List.range v).map (Cir.plc F keep) ++ List.replicate (n - v) 0).map Int.ofNat)).set v (.int .i64 (x : Nat)) = ints (((List.range (v + 1)).map (Cir.plc F keep) ++ List.replicate (n - (v + 1)) 0).map Int.ofNat) := by
  subst hx
  have e : List.replicate (n - v) 0 = 0 :: List.replicate (n - (v + 1)) 0 := by
    rw [show n - v = (n - (v + 1)) + 1 from by omega, List.replicate_succ]
  rw [e, List.range_succ]
  unfold ints
  rw [List.map_append, List.map_append, List.set_append_right _ _ (by simp)]
  simp
theorem plc_row_zero {F n v : Nat} {keep : List Bool} (hv : v < n) (hx : Cir.plc F keep v = 0) : ((List.range v).map (Cir.plc F keep) ++ List.replicate (n - v) 0) = ((List.range (v + 1)).map (Cir.plc F keep) ++ List.replicate (n - (v + 1)) 0) := by
  have e : List.replicate (n - v) 0 = 0 :: List.replicate (n - (v + 1)) 0 := by
    rw [show n - v = (n - (v + 1)) + 1 from by omega, List.replicate_succ]
  rw [e, List.range_succ]
  simp [hx]
theorem pruned_any (g : Nat) (d : Ci) (w : World) (h : PCirc w g (Cir.toCz d)) (hd : Cir.Ok d) :
    Calls Try.prog 93 #[.pointer (some ⟨g, 0, none⟩)] w fun e w' => (∃ v, e = .returned v ∧ CircOwn 0 w' v (Cir.toCz (Cir.prune d (Cir.reached d)))) ∧ Below w.heap.size w w' := by
  have s1 := hd.ins
  have s2 := hd.nexts
  have s3 := hd.gatess
  have s4 := hd.outss
  have Hp := Lib.hid h
  have Hd := Lib.hid hd
  obtain ⟨n, hn⟩ : ∃ n, n = Cir.nvars d := ⟨_, rfl⟩
  have hnf : Cir.nfirst d ≤ 8 := by unfold Cir.nfirst; omega
  have hnn : n = Cir.nfirst d + d.gates.length := hn
  have hnu : n ≤ 22 := by omega
  have HRe : Hid (∀ w', Below w.heap.size w w' → Calls Try.prog 90 #[.pointer (some ⟨g, 0, none⟩)] w' (OwnBools (Cir.reached d) w')) := Lib.hid fun w' hb => reached_any g d w' (Hp.out.below hb) hd
  have HPf : Hid (∀ w', Below w.heap.size w w' → Calls Try.prog 61 #[.pointer (some ⟨g, 0, none⟩)] w' fun e w'' => e = .returned (.int .i64 (Cir.nfirst d : Nat)) ∧ Below w'.heap.size w' w'') := Lib.hid fun w' hb => by
    have := firstGate_any g _ w' (Hp.out.below hb) (by show (0 : Int) ≤ (d.ins : Int); omega) (by show (d.ins : Int) ≤ 100; omega) (by show (List.map _ _).length ≤ 100; rw [List.length_map]; omega)
    rwa [Cir.first_toCz] at this
  have HVa : Hid (∀ w', Below w.heap.size w w' → Calls Try.prog 67 #[.pointer (some ⟨g, 0, none⟩)] w' fun e w'' => e = .returned (.int .i64 (n : Nat)) ∧ Below w'.heap.size w' w'') := Lib.hid fun w' hb => by
    have := vars_any g _ w' (Hp.out.below hb) (by show (0 : Int) ≤ (d.ins : Int); omega) (by show (d.ins : Int) ≤ 100; omega) (by show (List.map _ _).length ≤ 100; rw [List.length_map]; omega) (by show (List.map _ _).length ≤ 100; rw [List.length_map]; omega)
    rwa [Cir.vars_toCz, ← hn] at this
  have hRl := Cir.reached_length d
  rw [← hn] at hRl
  have HN : Hid ((∀ l ∈ d.next, l < 2 * n) ∧ (∀ x ∈ d.gates, x.1 < 2 * n ∧ x.2 < 2 * n) ∧ ∀ l ∈ d.outs, l < 2 * n) := Lib.hid ⟨fun l hl => by rw [hn]; exact hd.next l hl, fun x hx => by
    obtain ⟨k, hk, rfl⟩ := List.mem_iff_getElem.1 hx
    have := hd.gate k _ (List.getElem?_eq_getElem hk)
    omega, fun l hl => by rw [hn]; exact hd.out l hl⟩
  have HRes : Hid (Cir.prune d (Cir.reached d) = { ins := d.ins, next := d.next.map (Cir.useP (Cir.nfirst d) (Cir.reached d)), gates := Cir.keptG (Cir.nfirst d) (Cir.reached d) d.gates d.gates.length, outs := d.outs.map (Cir.useP (Cir.nfirst d) (Cir.reached d)) }) := Lib.hid rfl
  generalize Cir.reached d = keep at *
  have hF0 := Cir.nfirst_pos d
  generalize Cir.nfirst d = F at *
  have Hnn := Lib.hid hnn
  have hFn : F ≤ n := by omega
  have hmk := run_make_row' (P := Try.prog) 23 3 (.int .i64 0) 8 Try.underlying23 info_int rfl .i64 .i64 n (by omega) (by omega)
  have hbR := bel_new w (.cells #[.int .i64 0, .slice none 0 0, .slice none 0 0, .slice none 0 0] 26)
  have hR0 := heap_alloc_new w (.cells #[.int .i64 0, .slice none 0 0, .slice none 0 0, .slice none 0 0] 26)
  have hzR : (w.alloc (.cells #[.int .i64 0, .slice none 0 0, .slice none 0 0, .slice none 0 0] 26)).heap.size = w.heap.size + 1 := by simp
  clear h hd hn hnn
  go_enter Try.func93, Try.ntmps93
  go_wp2_with fail
  generalize w.alloc (.cells #[.int .i64 0, .slice none 0 0, .slice none 0 0, .slice none 0 0] 26) = W0 at *
  obtain ⟨gR, hgR⟩ : ∃ gR, gR = w.heap.size := ⟨_, rfl⟩
  rw [← hgR] at hR0 ⊢
  rw [hgR]
  refine (HRe.out W0 hbR).mono ?_
  rw [← hgR]
  rintro e w1 ⟨vk, rfl, hok, hb1⟩
  have hwR : w.heap.size ≤ gR := by omega
  have hwz : w.heap.size ≤ W0.heap.size := by omega
  have hgRz : gR < W0.heap.size := by omega
  rw [hRl] at hok
  obtain ⟨gk, ck, hvk, hgk1, hgk2, -, -⟩ := own_open hok (by omega)
  subst hvk
  have HB1 := Lib.hid (hbR.trans (hb1.mono hwz))
  have hR1 := (hb1.block gR hgRz).trans hR0
  have Hok := Lib.hid hok
  have hz1 := hb1.size
  have Hkl := Lib.hid hRl
  clear hb1 hbR hR0 hok hgR hzR HRe hRl
  go_wp2_with fail
  refine (HVa.out w1 HB1.out).mono ?_
  rintro e w2 ⟨rfl, hb2⟩
  have hO0 : (w2.alloc (.cells (madeCells #[Value.int .i64 0] n) 3)).ownsRow w2.heap.size 3 1 (.slice (some ⟨w2.heap.size, 0, none⟩) n n) n (ints (((List.range 0).map (Cir.plc F keep) ++ List.replicate (n - 0) 0).map Int.ofNat)) := by
    have h := World.ownsRow_lit (base := w2.heap.size) (e := 3) (size := 1) w2 (madeCells #[Value.int .i64 0] n) n (Nat.le_refl _) (by unfold maxLen; omega) (by simp [madeCells])
    have e : (madeCells #[Value.int .i64 0] n).toList = ints (((List.range 0).map (Cir.plc F keep) ++ List.replicate (n - 0) 0).map Int.ofNat) := by simp [madeCells, ints, Nat.mod_one, List.map_const']
    rwa [e] at h
  have hb3 := bel_new w2 (.cells (madeCells #[Value.int .i64 0] n) 3)
  have hb4 := bel_new (w2.alloc (.cells (madeCells #[Value.int .i64 0] n) 3)) (.cells #[.slice (some ⟨w2.heap.size, 0, none⟩) n n] 23)
  have hk4 := heap_alloc_new (w2.alloc (.cells (madeCells #[Value.int .i64 0] n) 3)) (.cells #[.slice (some ⟨w2.heap.size, 0, none⟩) n n] 23)
  have hz4 : (w2.alloc (.cells (madeCells #[Value.int .i64 0] n) 3)).heap.size = w2.heap.size + 1 := by simp
  have hO4 := own_below hO0 hb4
  have hB4 := HB1.out.trans ((hb2.trans (hb3.mono hb2.size)).trans (hb4.mono (by have := hb2.size; omega)) |>.mono HB1.out.size)
  have hB14 : Below w1.heap.size w1 ((w2.alloc (.cells (madeCells #[Value.int .i64 0] n) 3)).alloc (.cells #[.slice (some ⟨w2.heap.size, 0, none⟩) n n] 23)) := (hb2.trans (hb3.mono hb2.size)).trans (hb4.mono (by have := hb2.size; omega))
  have hR4 := (hB14.block gR (by omega)).trans hR1
  have Hok4 := Lib.hid (own_below Hok.out hB14)
  rw [hz4] at hk4
  have hz2 := hb2.size
  have hz5 : ((w2.alloc (.cells (madeCells #[Value.int .i64 0] n) 3)).alloc (.cells #[.slice (some ⟨w2.heap.size, 0, none⟩) n n] 23)).heap.size = w2.heap.size + 1 + 1 := by simp
  go_wp2_with fail
  generalize (w2.alloc (.cells (madeCells #[Value.int .i64 0] n) 3)).alloc (.cells #[.slice (some ⟨w2.heap.size, 0, none⟩) n n] 23) = W4 at *
  obtain ⟨gp, hgp⟩ : ∃ gp, gp = w2.heap.size := ⟨_, rfl⟩
  obtain ⟨g4, hg4⟩ : ∃ g4, g4 = w2.heap.size + 1 := ⟨_, rfl⟩
  rw [← hg4] at hk4
  rw [← hgp] at hk4 hO4
  rw [← hg4, ← hgp]
  have hgpz : gk < gp := by omega
  have hgR0 : gR < gk := by omega
  have hg4p : gp < g4 := by omega
  have hw4 : w.heap.size ≤ gp := by omega
  have hg4z : g4 < W4.heap.size := by omega
  refine (HPf.out W4 hB4).mono ?_
  rintro e w5 ⟨rfl, hb5⟩
  have HB5 := Lib.hid (hB4.trans (hb5.mono hB4.size))
  have HO5 := Lib.hid (own_below hO4 hb5)
  have Hok5 := Lib.hid (own_below Hok4.out hb5)
  have HK5 := Lib.hid ((hb5.block g4 hg4z).trans hk4)
  have HR5 := Lib.hid ((hb5.block gR (by omega)).trans hR4)
  clear hb2 hb3 hb4 hO0 hk4 hz4 hO4 hB4 hB14 hR4 hz5 hb5 hmk hR1 hgp hg4 Hok4 HVa Hok HB1 hg4z
  have q4 := blk_cell HK5.out 0
  simp at q4
  clear hz2
  go_wp2_with fail
  clear q4
  go_loopw [5, 20] (fun x i wr => ∃ (v y : Nat), v ≤ n ∧ i = .int .i64 v ∧ x = .int .i64 y ∧ Hid (y = F + (Cir.keptI F keep (v - F)).length) ∧ Hid (wr.ownsRow gp 3 1 (.slice (some ⟨gp, 0, none⟩) n n) n (ints (((List.range v).map (Cir.plc F keep) ++ List.replicate (n - v) 0).map Int.ofNat))) ∧ Hid (wr.heap[g4]? = some (.cells #[.slice (some ⟨gp, 0, none⟩) n n] 23 (0, 0))) ∧ Hid (wr.heap[gR]? = some (.cells #[.int .i64 0, .slice none 0 0, .slice none 0 0, .slice none 0 0] 26 (0, 0))) ∧ Hid (wr.ownsRow W0.heap.size 4 1 (.slice (some ⟨gk, 0, none⟩) n ck) n (bools keep)) ∧ Hid (Below w.heap.size w wr)) (fun _ i _ => n - (intOf i).toNat)
  case atStart => exact ⟨0, F, Nat.zero_le _, rfl, rfl, Lib.hid (by simp [Cir.keptI]), HO5, HK5, HR5, Hok5, HB5⟩
  case round =>
    obtain ⟨v, y, hv, rfl, rfl, HY, HO, HK, HR, Hok, Hb⟩ := hrel
    clear HO5 HK5 HR5 Hok5 HB5
    have hgRz := blk_ltB HR.out
    have hg4z := blk_ltB HK.out
    by_cases hlt : v < n
    · have hkl := Cir.keptI_le F keep (v - F)
      have hyb : y ≤ 60 := by have := HY.out; omega
      clear hkl
      go_wp2_with fail
      refine (HPf.out wr Hb.out).mono ?_
      rintro e w9 ⟨rfl, hb9⟩
      have Hb9 := Lib.hid (Hb.out.trans (hb9.mono Hb.out.size))
      have HO9 := Lib.hid (own_below HO.out hb9)
      have HK9 := Lib.hid ((hb9.block g4 hg4z).trans HK.out)
      have HR9 := Lib.hid ((hb9.block gR hgRz).trans HR.out)
      have Hok9 := Lib.hid (own_below Hok.out hb9)
      have hz9 := Hb9.out.size
      have q4 := blk_cell HK9.out 0
      simp at q4
      obtain ⟨u0, _, hd0, hf0⟩ := own_slot HO9.out (j := v) (by omega)
      clear HO HK HR Hok Hb hb9
      by_cases hvF : v < F
      · have hst := HO9.out.stored v (.int .i64 (v : Nat))
        have Hst := Lib.hid hst
        have hp : v = Cir.plc F keep v := by unfold Cir.plc; rw [if_pos hvF]
        have Hset := Lib.hid (plc_row_set hlt hp)
        have HY2 : Hid (y = F + (Cir.keptI F keep (v + 1 - F)).length) := Lib.hid (by rw [HY.out, show v + 1 - F = v - F from by omega])
        clear hst hp
        go_wp2_with fail
        go_roundw
        case rel => exact ⟨v + 1, y, by omega, by go_num, rfl, HY2, Lib.hid (by rw [← Hset.out]; exact Hst.out.1), Lib.hid ((heap_setCell_other' _ _ _ _ _ (by omega)).trans HK9.out), Lib.hid ((heap_setCell_other' _ _ _ _ _ (by omega)).trans HR9.out), Lib.hid (own_setN Hok9.out (fun e => by have := Option.some.inj e; simp only at this; omega)), Lib.hid (Hb9.out.setCell hw4 _)⟩
        case measure => simp [intOf]; omega
      · have hsk : (bools keep)[v]? = some (.bool (keep.getD v false)) := by
          have := Hkl.out
          unfold bools
          rw [List.getElem?_map, List.getElem?_eq_getElem (by omega), List.getD_eq_getElem?_getD, List.getElem?_eq_getElem (by omega)]
          rfl
        obtain ⟨u1, hu1, hd1, hf1⟩ := own_slot Hok9.out (j := v) (by omega)
        obtain rfl : u1 = .bool (keep.getD v false) := Option.some.inj (hu1.symm.trans hsk)
        have hs := Cir.keptI_succ F keep (v - F)
        rw [show F + (v - F) = v from by omega, show v - F + 1 = v + 1 - F from by omega] at hs
        clear hu1 hf1 hsk
        cases hfl : keep.getD v false
        · rw [hfl] at hd1 hs
          have hp : Cir.plc F keep v = 0 := by unfold Cir.plc; rw [if_neg hvF, hfl]; rfl
          have Hset := Lib.hid (plc_row_zero hlt hp)
          have HY2 : Hid (y = F + (Cir.keptI F keep (v + 1 - F)).length) := Lib.hid (by rw [HY.out, hs]; simp)
          clear hp hs hfl
          go_wp2_with fail
          go_roundw
          case rel => exact ⟨v + 1, y, by omega, by go_num, rfl, HY2, Lib.hid (by rw [← Hset.out]; exact HO9.out), HK9, HR9, Hok9, Hb9⟩
          case measure => simp [intOf]; omega
        · rw [hfl] at hd1 hs
          have hp : y = Cir.plc F keep v := by unfold Cir.plc; rw [if_neg hvF, hfl, if_pos rfl, HY.out]
          have hst := HO9.out.stored v (.int .i64 (y : Nat))
          have Hst := Lib.hid hst
          have Hset := Lib.hid (plc_row_set hlt hp)
          have HY2 : Hid (y + 1 = F + (Cir.keptI F keep (v + 1 - F)).length) := Lib.hid (by rw [HY.out, hs]; simp; omega)
          have hwy := IntWalk.i64_in ((y : Int) + 1) (by omega)
          clear hst hp hs hfl
          go_wp2_with fail
          go_roundw
          case rel => exact ⟨v + 1, y + 1, by omega, by go_num, by go_num, HY2, Lib.hid (by rw [← Hset.out]; exact Hst.out.1), Lib.hid ((heap_setCell_other' _ _ _ _ _ (by omega)).trans HK9.out), Lib.hid ((heap_setCell_other' _ _ _ _ _ (by omega)).trans HR9.out), Lib.hid (own_setN Hok9.out (fun e => by have := Option.some.inj e; simp only at this; omega)), Lib.hid (Hb9.out.setCell hw4 _)⟩
          case measure => simp [intOf]; omega
    · obtain rfl : v = n := by omega
      have HO' : Hid (IntsAt wr (.slice (some ⟨gp, 0, none⟩) v v) (((List.range v).map (Cir.plc F keep)).map Int.ofNat)) := Lib.hid (by
        have h := HO.out
        rw [Nat.sub_self, List.replicate_zero, List.append_nil] at h
        unfold IntsAt
        rw [List.length_map, List.length_map, List.length_range]
        exact Row.of_own h)
      have hpl : ∀ x ∈ (List.range v).map (Cir.plc F keep), x ≤ 1000000 := fun x hx => by
        obtain ⟨i, hi, rfl⟩ := List.mem_map.1 hx
        have hi' := List.mem_range.1 hi
        have := Cir.keptI_le F keep (i - F)
        unfold Cir.plc
        split
        · omega
        · split <;> omega
      have HC := Lib.hid (replaced_any g (2 * v) d 108 #[.pointer (some ⟨g4, 0, none⟩)] (Cir.useP F keep) wr (Hp.out.below Hb.out) (by omega) (by omega) (by omega) HN.out.1 HN.out.2.1 HN.out.2.2 (fun vs w' => by kernel_rfl) (fun w' hb l hl => by
        have hc := pruneUse_any g4 l ((List.range v).map (Cir.plc F keep)) (.slice (some ⟨gp, 0, none⟩) v v) w' ((hb.cell (p := ⟨g4, 0, none⟩) hg4z).trans (blk_cell HK.out 0)) (Row.below HO'.out hb) (by rw [List.length_map, List.length_range]; omega) (by omega) hpl
        have he : 2 * ((List.range v).map (Cir.plc F keep)).getD (l / 2) 0 + l % 2 = Cir.useP F keep l := by
          unfold Cir.useP
          rw [List.getD_eq_getElem?_getD, List.getElem?_map, List.getElem?_range (by omega)]
          rfl
        rw [he] at hc
        exact hc))
      have q4 := blk_cell HK.out 0
      clear hlt HO HO' hpl
      go_wp2_with fail
      refine HC.out.mono ?_
      rintro e w6 ⟨⟨v6, rfl, vn', vg', vo', e6, h1, h2, h3⟩, hb6⟩
      subst e6
      obtain ⟨A1, c1', hv1⟩ := slice_of_own h1
      obtain ⟨A2, c2', hv2⟩ := slice_of_own h2
      obtain ⟨A3, c3', hv3⟩ := slice_of_own h3
      subst hv1 hv2 hv3
      have hlm : (Cir.toCz (mapC (Cir.useP F keep) d)).next.length = d.next.length ∧ (Cir.toCz (mapC (Cir.useP F keep) d)).gates.length = d.gates.length ∧ (Cir.toCz (mapC (Cir.useP F keep) d)).outs.length = d.outs.length := ⟨by simp [Cir.toCz, mapC], by simp [Cir.toCz, mapC], by simp [Cir.toCz, mapC]⟩
      rw [hlm.1] at h1 ⊢
      rw [hlm.2.1] at h2 ⊢
      rw [hlm.2.2] at h3 ⊢
      have hIe : (Cir.toCz (mapC (Cir.useP F keep) d)).ins = (Cir.toCz d).ins := rfl
      rw [hIe]
      clear hIe hlm HC q4
      go_wp2_with fail
      have hX7 := heap_alloc_new w6 (.cells #[.int .i64 (Cir.toCz d).ins, .slice A1 d.next.length c1', .slice none 0 0, .slice A3 d.outs.length c3'] 26)
      have hb7 := bel_new w6 (.cells #[.int .i64 (Cir.toCz d).ins, .slice A1 d.next.length c1', .slice none 0 0, .slice A3 d.outs.length c3'] 26)
      have hz7 : (w6.alloc (.cells #[.int .i64 (Cir.toCz d).ins, .slice A1 d.next.length c1', .slice none 0 0, .slice A3 d.outs.length c3'] 26)).heap.size = w6.heap.size + 1 := by simp
      have hb67 := hb6.trans (hb7.mono hb6.size)
      have hz6 := hb6.size
      have hR7 := (hb67.block gR hgRz).trans HR.out
      have Hok7 := Lib.hid (own_below Hok.out hb67)
      have hl1 : ∀ g, (Value.slice A1 d.next.length c1').ownBlock = some g → g < w6.heap.size := fun g hg => (h1.lt g hg).2
      have hl2 : ∀ g, (Value.slice A2 d.gates.length c2').ownBlock = some g → g < w6.heap.size := fun g hg => (h2.lt g hg).2
      have hl3 : ∀ g, (Value.slice A3 d.outs.length c3').ownBlock = some g → g < w6.heap.size := fun g hg => (h3.lt g hg).2
      have HO1 := Lib.hid (own_below h1 hb7)
      have HO2 := Lib.hid (own_below h2 hb7)
      have HO3 := Lib.hid (own_below h3 hb7)
      have HB7 := Lib.hid (Hb.out.trans (hb67.mono Hb.out.size))
      generalize w6.alloc (.cells #[.int .i64 (Cir.toCz d).ins, .slice A1 d.next.length c1', .slice none 0 0, .slice A3 d.outs.length c3'] 26) = W7 at *
      obtain ⟨g7, hg7⟩ : ∃ g7, g7 = w6.heap.size := ⟨_, rfl⟩
      obtain ⟨B6, hB6⟩ : ∃ B6, B6 = wr.heap.size := ⟨_, rfl⟩
      rw [← hg7] at hX7 hl1 hl2 hl3 hz7 ⊢
      rw [← hB6] at HO1 HO2 HO3
      have HL := Lib.hid (And.intro hl1 (And.intro hl2 hl3))
      have hgR7 : gR < g7 := by omega
      have hgk7 : gk < g7 := by omega
      have hw7 : w.heap.size ≤ g7 := by omega
      have hz8 : g7 + 1 ≤ W7.heap.size := by omega
      have HX7 := Lib.hid hX7
      have HR7 := Lib.hid hR7
      have HGs : Hid (ngates (d.gates.map fun g => (Cir.useP F keep g.1, Cir.useP F keep g.2)) = cubes (Cir.toCz (mapC (Cir.useP F keep) d)).gates ∧ (Cir.toCz (mapC (Cir.useP F keep) d)).gates.length = d.gates.length) := Lib.hid ⟨rfl, by simp [Cir.toCz, mapC]⟩
      clear hX7 hb7 hz7 hb67 hz6 hR7 hl1 hl2 hl3 h1 h2 h3 hb6 hg7 hB6 HR HK Hok Hb
      go_loopw [52] (fun i wr => ∃ (k kk : Nat) (v2 : Value), k ≤ d.gates.length ∧ i = .int .i64 k ∧ kk ≤ k ∧ Hid (kk = (Cir.keptI F keep k).length) ∧ Hid (wr.heap[g7]? = some (.cells #[.int .i64 (Cir.toCz d).ins, .slice A1 d.next.length c1', v2, .slice A3 d.outs.length c3'] 26 (0, 0))) ∧ Hid (wr.heap[gR]? = some (.cells #[.int .i64 0, .slice none 0 0, .slice none 0 0, .slice none 0 0] 26 (0, 0))) ∧ Hid (wr.ownsRow B6 3 1 (.slice A1 d.next.length c1') d.next.length (ints (Cir.toCz (mapC (Cir.useP F keep) d)).next)) ∧ Hid (wr.ownsRow B6 72 2 (.slice A2 d.gates.length c2') d.gates.length (cubes (Cir.toCz (mapC (Cir.useP F keep) d)).gates)) ∧ Hid (wr.ownsRow B6 3 1 (.slice A3 d.outs.length c3') d.outs.length (ints (Cir.toCz (mapC (Cir.useP F keep) d)).outs)) ∧ Hid (wr.ownsRow W0.heap.size 4 1 (.slice (some ⟨gk, 0, none⟩) v ck) v (bools keep)) ∧ Hid (wr.ownsRow (g7 + 1) 72 2 v2 kk (ngates (Cir.keptG F keep d.gates k))) ∧ g7 + 1 ≤ wr.heap.size ∧ Hid (Below w.heap.size w wr)) (fun i _ => d.gates.length - (intOf i).toNat)
      case atStart => exact ⟨0, 0, .slice none 0 0, Nat.zero_le _, rfl, Nat.le_refl _, Lib.hid rfl, HX7, HR7, HO1, HO2, HO3, Hok7, Lib.hid (World.ownsRow_nil _ _ _ _), hz8, HB7⟩
      case round =>
        obtain ⟨k, kk, v2, hk, rfl, hkk, HKK, HX, HR, HP1, HP2, HP3, Hok, HG, hzr, Hb⟩ := hrel
        clear HX7 HR7 HO1 HO2 HO3 Hok7 HB7
        have hgRz := blk_ltB HR.out
        have hg7z := blk_ltB HX.out
        by_cases hlt : k < d.gates.length
        · obtain ⟨b, o, x, hA2, hbl, hx, hs1, hs2⟩ := cubes_open (Row.of_own HP2.out) (Below.refl _ _) HGs.out.2.symm (i := k) (by rw [HGs.out.2]; exact hlt)
          subst hA2
          obtain ⟨gt, hgt⟩ := at_some hlt
          have hxe : x = (((Cir.useP F keep gt.1 : Nat) : Int), ((Cir.useP F keep gt.2 : Nat) : Int)) := by
            have h1 := hx.out
            unfold Cir.toCz mapC at h1
            simp only [List.getElem?_map, hgt] at h1
            exact (Option.some.inj h1).symm
          subst hxe
          have hgD : d.gates.getD k (0, 0) = gt := by rw [List.getD_eq_getElem?_getD, hgt, Option.getD_some]
          have hsu := Cir.keptI_succ F keep k
          have HG1 : Hid (keep.getD (F + k) false = true → (Cir.keptI F keep (k + 1)).length = (Cir.keptI F keep k).length + 1 ∧ ngates (Cir.keptG F keep d.gates (k + 1)) = ngates (Cir.keptG F keep d.gates k) ++ [.int .i64 (Cir.useP F keep gt.1 : Nat), .int .i64 (Cir.useP F keep gt.2 : Nat)]) := Lib.hid fun h => by
            unfold Cir.keptG
            rw [hsu, if_pos h]
            unfold ngates cubes
            simp only [List.length_append, List.length_singleton, List.map_append, List.map_cons, List.map_nil, List.flatMap_append, List.flatMap_cons, List.flatMap_nil, hgD]
            exact ⟨trivial, rfl⟩
          have HG0 : Hid (keep.getD (F + k) false = false → (Cir.keptI F keep (k + 1)).length = (Cir.keptI F keep k).length ∧ ngates (Cir.keptG F keep d.gates (k + 1)) = ngates (Cir.keptG F keep d.gates k)) := Lib.hid fun h => by
            unfold Cir.keptG
            rw [hsu, if_neg (by rw [h]; simp), List.append_nil]
            exact ⟨rfl, rfl⟩
          generalize hcs : ngates (Cir.keptG F keep d.gates k) = cs at *
          generalize Cir.useP F keep gt.1 = x1 at *
          generalize Cir.useP F keep gt.2 = x2 at *
          have hba := bel_new wr (.cells #[.int .i64 (x1 : Int), .int .i64 (x2 : Int)] 72)
          have hg9 := heap_alloc_new wr (.cells #[.int .i64 (x1 : Int), .int .i64 (x2 : Int)] 72)
          have hza : (wr.alloc (.cells #[.int .i64 (x1 : Int), .int .i64 (x2 : Int)] 72)).heap.size = wr.heap.size + 1 := by simp
          have hBa := Hb.out.trans (hba.mono Hb.out.size)
          clear hx hgt hcs hgD hsu hbl
          go_wp2_with fail
          refine (HPf.out _ hBa).mono ?_
          rintro e w9 ⟨rfl, hb9⟩
          have hb19 := hba.trans (hb9.mono (by omega))
          obtain ⟨gx, hgx⟩ : ∃ gx, gx = wr.heap.size := ⟨_, rfl⟩
          have hg99 := (hb9.block wr.heap.size (by omega)).trans hg9
          rw [← hgx] at hg99 ⊢
          have k0 := blk_cell hg99 0
          have k1 := blk_cell hg99 1
          simp at k0 k1
          have HXa := Lib.hid ((hb19.block g7 hg7z).trans HX.out)
          have HRa := Lib.hid ((hb19.block gR hgRz).trans HR.out)
          have HP1a := Lib.hid (own_below HP1.out hb19)
          have HP2a := Lib.hid (own_below HP2.out hb19)
          have HP3a := Lib.hid (own_below HP3.out hb19)
          have Hoka := Lib.hid (own_below Hok.out hb19)
          have HGa := Lib.hid (own_below HG.out hb19)
          have HBa := Lib.hid (Hb.out.trans (hb19.mono Hb.out.size))
          have hz9 := hb19.size
          have hFk : F + k < v := by have := Hnn.out; omega
          have hsk : (bools keep)[F + k]? = some (.bool (keep.getD (F + k) false)) := by
            have := Hkl.out
            unfold bools
            rw [List.getElem?_map, List.getElem?_eq_getElem (by omega), List.getD_eq_getElem?_getD, List.getElem?_eq_getElem (by omega)]
            rfl
          obtain ⟨u1, hu1, hd1, hf1⟩ := own_slot Hoka.out (j := F + k) (by omega)
          obtain rfl : u1 = .bool (keep.getD (F + k) false) := Option.some.inj (hu1.symm.trans hsk)
          have hix : ((F : Int) + (k : Int)).toNat = F + k := by omega
          have hwk : IntKind.i64.wrap ((F : Int) + (k : Int)) = (F : Int) + (k : Int) := IntWalk.i64_in _ (by omega)
          clear hu1 hf1 hsk hs1 hs2 hba hg9 hza hBa hb9 hb19 hgx hg99 HX HR HP1 HP2 HP3 Hok HG Hb
          cases hfl : keep.getD (F + k) false
          · rw [hfl] at hd1
            have HG0' := Lib.hid (HG0.out hfl)
            clear HG0 HG1 hfl
            go_wp2_with fail
            go_roundw
            case rel => exact ⟨k + 1, kk, v2, by omega, by go_num, by omega, Lib.hid (by rw [HG0'.out.1]; exact HKK.out), HXa, HRa, HP1a, HP2a, HP3a, Hoka, Lib.hid (by rw [HG0'.out.2]; exact HGa.out), by omega, HBa⟩
            case measure => simp [intOf]; omega
          · rw [hfl] at hd1
            have HG1' := Lib.hid (HG1.out hfl)
            clear HG0 HG1 hfl
            have q2 := blk_cell HXa.out 2
            simp at q2
            have hg7a := blk_ltB HXa.out
            have hgRa := blk_ltB HRa.out
            have hbl := bel_new w9 (.cells #[.int .i64 (x1 : Int), .int .i64 (x2 : Int)] 72)
            have hzl : (w9.alloc (.cells #[.int .i64 (x1 : Int), .int .i64 (x2 : Int)] 72)).heap.size = w9.heap.size + 1 := by simp
            have Hlit := Lib.hid (Row.of_own (World.ownsRow_lit (base := w9.heap.size) (e := 72) (size := 2) w9 #[.int .i64 (x1 : Int), .int .i64 (x2 : Int)] 1 (Nat.le_refl _) (by unfold maxLen; omega) rfl))
            have HGl := Lib.hid (own_below HGa.out hbl)
            have HXl := Lib.hid ((hbl.block g7 hg7a).trans HXa.out)
            have HRl := Lib.hid ((hbl.block gR hgRa).trans HRa.out)
            have HP1l := Lib.hid (own_below HP1a.out hbl)
            have HP2l := Lib.hid (own_below HP2a.out hbl)
            have HP3l := Lib.hid (own_below HP3a.out hbl)
            have Hokl := Lib.hid (own_below Hoka.out hbl)
            have HBl := Lib.hid (HBa.out.trans (hbl.mono HBa.out.size))
            have hlt2 : ∀ g, v2.ownBlock = some g → g7 + 1 ≤ g := fun g hg => (HGa.out.lt g hg).1
            have hne : ¬ (v2.ownBlock = some g7) := fun e => by have := hlt2 g7 e; omega
            have hneR : ¬ (v2.ownBlock = some gR) := fun e => by have := hlt2 gR e; omega
            have Hlt2 := Lib.hid hlt2
            clear HXa HRa HP1a HP2a HP3a Hoka HGa hbl hlt2
            go_wp2_with (at_builtin; refine append_gatesO rfl (.tmp 65) (.tmp 67) rfl (g7 + 1) v2 kk cs rfl HGl.out _ 1 [.int .i64 (x1 : Int), .int .i64 (x2 : Int)] rfl Hlit.out (by simp [Value.oneCell']) (by omega) (by omega) ?_; intro v4 w4 hown4 hg4 hat4; obtain ⟨A9, c9, hv9⟩ := slice_of_own hown4; subst hv9; have O9 := Only.grown (E := fun g => v2.ownBlock = some g) hg4 (fun k hk => hk); have hx9 := (O9.block g7 (by omega) hne).trans HXl.out; have q9 := blk_cell hx9 2; have f9 := blk_free hx9 2; have Hown4 := Lib.hid hown4; have HO9 := Lib.hid O9; have Hx9 := Lib.hid hx9; clear hown4 hg4 hat4 hx9 O9)
            have Hx10 := Lib.hid (heap_setCell_same w4 g7 2 _ _ (.slice A9 (kk + 1) c9) Hx9.out)
            have HR9 := Lib.hid ((HO9.out.block gR (by omega) hneR).trans HRl.out)
            have HB9 := Lib.hid (Only.below HBl.out HO9.out HBl.out.size (fun q hq => by have := Hlt2.out q hq; omega))
            have hz4 := HO9.out.size
            go_roundw
            case rel => exact ⟨k + 1, kk + 1, _, by omega, by go_num, by omega, Lib.hid (by rw [HG1'.out.1, ← HKK.out]), Lib.hid (by have h := Hx10.out; simp at h; exact h), Lib.hid ((heap_setCell_other' _ _ _ _ _ (by omega)).trans HR9.out), Lib.hid (own_setN (own_only HP1l.out HO9.out (fun g hg e => by have h1 := HL.out.1 g hg; have h2 := Hlt2.out g e; omega)) (fun e => by have := HL.out.1 _ e; omega)), Lib.hid (own_setN (own_only HP2l.out HO9.out (fun g hg e => by have h1 := HL.out.2.1 g hg; have h2 := Hlt2.out g e; omega)) (fun e => by have := HL.out.2.1 _ e; omega)), Lib.hid (own_setN (own_only HP3l.out HO9.out (fun g hg e => by have h1 := HL.out.2.2 g hg; have h2 := Hlt2.out g e; omega)) (fun e => by have := HL.out.2.2 _ e; omega)), Lib.hid (own_setN (own_only Hokl.out HO9.out (fun g hg e => by have h1 := Option.some.inj hg; simp only at h1; have h2 := Hlt2.out g e; omega)) (fun e => by have := Option.some.inj e; simp only at this; omega)), Lib.hid (by rw [HG1'.out.2]; exact own_setB Hown4.out (by omega)), by simp; omega, Lib.hid (HB9.out.setCell hw7 _)⟩
            case measure => simp [intOf]; omega
        · obtain rfl : k = d.gates.length := by omega
          obtain ⟨A9, c9, hv9⟩ := slice_of_own HG.out
          subst hv9
          have q0 := blk_cell HX.out 0
          have q1 := blk_cell HX.out 1
          have q2 := blk_cell HX.out 2
          have q3 := blk_cell HX.out 3
          have r0 := blk_cell HR.out 0
          have r1 := blk_cell HR.out 1
          have r2 := blk_cell HR.out 2
          have r3 := blk_cell HR.out 3
          have f0 := blk_free HR.out 0
          have f1 := blk_free HR.out 1
          have f2 := blk_free HR.out 2
          have f3 := blk_free HR.out 3
          have n1 : (Value.slice A1 d.next.length c1').ownBlock ≠ some gR := fun e => own_ne_tag HP1.out HR.out (by decide) e
          have n3 : (Value.slice A3 d.outs.length c3').ownBlock ≠ some gR := fun e => own_ne_tag HP3.out HR.out (by decide) e
          have n9 : (Value.slice A9 kk c9).ownBlock ≠ some gR := fun e => by have := (HG.out.lt gR e).1; omega
          have N1 := Lib.hid (And.intro n1 (And.intro n3 n9))
          have hkk2 := HKK.out
          have hlm : Hid ((Cir.toCz (Cir.prune d keep)).next.length = d.next.length ∧ (Cir.toCz (Cir.prune d keep)).gates.length = kk ∧ (Cir.toCz (Cir.prune d keep)).outs.length = d.outs.length) := Lib.hid ⟨by rw [HRes.out]; simp [Cir.toCz], by rw [HRes.out, hkk2]; simp [Cir.toCz, Cir.keptG_len], by rw [HRes.out]; simp [Cir.toCz]⟩
          clear n1 n3 n9 hlt hkk2 HX
          go_wp2_with fail
          refine bodyPost_ret (v := .agg #[.int .i64 (Cir.toCz d).ins, .slice A1 d.next.length c1', .slice A9 kk c9, .slice A3 d.outs.length c3']) (by simp [results, Try.results93, go_sem, r0, r1, r2, r3]) rfl ⟨⟨_, rfl, _, _, _, by rw [HRes.out]; rfl, ?_, ?_, ?_⟩, ?_⟩
          · have h := own_setN (i := 3) (u := .slice A3 d.outs.length c3') (own_setN (i := 2) (u := .slice A9 kk c9) (own_setN (i := 1) (u := .slice A1 d.next.length c1') (own_setN (i := 0) (u := .int .i64 (Cir.toCz d).ins) HP1.out N1.out.1) N1.out.1) N1.out.1) N1.out.1
            rw [hlm.out.1, HRes.out]
            exact own_mono h (Nat.zero_le _)
          · have h := own_setN (i := 3) (u := .slice A3 d.outs.length c3') (own_setN (i := 2) (u := .slice A9 kk c9) (own_setN (i := 1) (u := .slice A1 d.next.length c1') (own_setN (i := 0) (u := .int .i64 (Cir.toCz d).ins) HG.out N1.out.2.2) N1.out.2.2) N1.out.2.2) N1.out.2.2
            rw [hlm.out.2.1, HRes.out]
            exact own_mono h (Nat.zero_le _)
          · have h := own_setN (i := 3) (u := .slice A3 d.outs.length c3') (own_setN (i := 2) (u := .slice A9 kk c9) (own_setN (i := 1) (u := .slice A1 d.next.length c1') (own_setN (i := 0) (u := .int .i64 (Cir.toCz d).ins) HP3.out N1.out.2.1) N1.out.2.1) N1.out.2.1) N1.out.2.1
            rw [hlm.out.2.2, HRes.out]
            exact own_mono h (Nat.zero_le _)
          · exact (((Hb.out.setCell hwR _).setCell hwR _).setCell hwR _).setCell hwR _
end Go.Proofs.Ytdgminjbgjbamaa
