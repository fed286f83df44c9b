import Derived.Test.YtlbfejdbfhgifaaS05
import Derived.Test.YtlbfejdbfhgifaaS03
import Derived.Test.YtlbfejdbfhgifaaS02
import Derived.Test.YtlbfejdbfhgifaaS04
import Derived.Test.YtlbfejdbfhgifaaS01
set_option linter.unusedVariables false
set_option linter.unusedSimpArgs false
namespace Go.Proofs.Ytlbfejdbfhgifaa
open Go.RowKit
set_option maxRecDepth 100000
set_option maxHeartbeats 8000000
/-! A circuit with other literals, by the program. -/
theorem ownLits_any (g : Nat) (d : Ci) (w : World) (h : PCirc w g (Cir.toCz d)) (hd : Cir.Ok d) :
    Calls Try.prog 123 #[.pointer (some ⟨g, 0, none⟩)] w (OwnInts ((Cir.ownL (Cir.nfirst d)).map Int.ofNat) w) := by
  have s1 := hd.ins
  have s2 := hd.nexts
  have hF : Hid (Calls Try.prog 104 #[.pointer (some ⟨g, 0, none⟩)] w fun e w'' => e = .returned (.int .i64 (Cir.nfirst d : Nat)) ∧ Below w.heap.size w w'') := Lib.hid (by
    have := firstGate_any g _ w h (by show (0 : Int) ≤ (d.ins : Int); omega) (by show (d.ins : Int) ≤ 100; omega) (by show (List.map _ _).length ≤ 100; rw [List.length_map]; omega)
    rwa [Cir.first_toCz] at this)
  have hnf : Cir.nfirst d ≤ 8 := by unfold Cir.nfirst; omega
  generalize Cir.nfirst d = n at *
  clear h hd s1 s2
  go_enter Try.func123, Try.ntmps123
  go_wp2_with fail
  refine hF.out.mono ?_
  rintro e w1 ⟨rfl, hb1⟩
  have Hb1 := Lib.hid hb1
  clear hb1 hF
  go_wp2_with fail
  go_loopw [3, 7] (fun r i wr => ∃ (k : Nat) (r' : Value), r' = r ∧ k ≤ n ∧ i = .int .i64 k ∧ Hid (wr.ownsRow w.heap.size 3 1 r k (ints ((Cir.ownL k).map Int.ofNat))) ∧ Hid (Below w.heap.size w wr)) (fun _ i _ => n - (intOf i).toNat)
  case atStart => exact ⟨0, _, rfl, Nat.zero_le _, rfl, Lib.hid (World.ownsRow_nil _ _ _ _), Hb1⟩
  case round =>
    obtain ⟨k, r', hr', hk, rfl, HO, Hb⟩ := hrel
    clear Hb1
    by_cases hlt : k < n
    · have hw2 := IntWalk.i64_in (2 * (k : Int)) (by omega)
      have Hlit := Lib.hid (Row.of_own (World.ownsRow_lit (base := wr.heap.size) (e := 3) (size := 1) wr #[.int .i64 (2 * (k : Int))] 1 (Nat.le_refl _) (by unfold maxLen; omega) rfl))
      have HOa := Lib.hid (HO.out.alloc (.cells #[.int .i64 (2 * (k : Int))] 3))
      have hz := Hb.out.size
      have hza : (wr.alloc (.cells #[.int .i64 (2 * (k : Int))] 3)).heap.size = wr.heap.size + 1 := by simp
      go_wp2_with (at_builtin; refine append_ints rfl (.tmp 10) (.tmp 13) rfl w.heap.size _ k _ rfl HOa.out _ 1 [.int .i64 (2 * (k : Int))] rfl Hlit.out (by simp [Value.oneCell']) (by omega) (by omega) ?_; intro v4 w4 hown4 hg4 hat4; have Hown4 := Lib.hid hown4; have Hg4 := Lib.hid hg4; clear hown4 hg4 hat4)
      go_roundw
      case rel => exact ⟨k + 1, _, rfl, by omega, by go_num, Lib.hid (by
          have e : ints ((Cir.ownL (k + 1)).map Int.ofNat) = ints ((Cir.ownL k).map Int.ofNat) ++ [.int .i64 (2 * (k : Int))] := by
            unfold Cir.ownL ints
            rw [List.range_succ]
            simp
          rw [e]
          exact Hown4.out), Lib.hid ((Hb.out.alloc Hb.out.size _).grown Hg4.out (by omega) (fun q hq => (HOa.out.lt q hq).1))⟩
      case measure => simp [intOf]; omega
    · obtain rfl : k = n := by omega
      go_wp2_with fail
      go_ret
      have e : ((Cir.ownL k).map Int.ofNat).length = k := by simp [Cir.ownL]
      exact ⟨_, rfl, by rw [e, ← hr']; exact hr'.symm ▸ HO.out, Hb.out⟩
theorem blk_ltB {w : World} {g : Nat} {o : Obj} (h : w.heap[g]? = some o) : g < w.heap.size := (Array.getElem?_eq_some_iff.1 h).1
theorem own_setB {w : World} {B n size k i : Nat} {e : TypeId} {v u : Value} {cs : List Value} (h : w.ownsRow B e size v n cs) (hk : k < B) : (w.setCell ⟨k, i, none⟩ u).ownsRow B e size v n cs :=
  own_only h (Only.grown (E := fun g => g = k) (set_grown w k i u) (fun x hx => (Option.some.inj hx).symm)) (fun g hg e => by have := (h.lt g hg).1; omega)
theorem heap_setCell_other' (w : World) (b i : Nat) (u : Value) (g : Nat) (h : g ≠ b) : (w.setCell ⟨b, i, none⟩ u).heap[g]? = w.heap[g]? := by
  by_cases hg : g < w.heap.size
  · exact (set_grown w b i u).block g hg (fun e => h (Option.some.inj e))
  · have hz : (w.setCell ⟨b, i, none⟩ u).heap.size = w.heap.size := by simp
    rw [Array.getElem?_eq_none (by omega), Array.getElem?_eq_none (by omega)]
/-- A circuit with other literals. -/
def mapC (u : Nat → Nat) (c : Ci) : Ci := { ins := c.ins, next := c.next.map u, gates := c.gates.map fun g => (u g.1, u g.2), outs := c.outs.map u }
def nints' (l : List Nat) : List Value := ints (l.map Int.ofNat)
def ngates (l : List (Nat × Nat)) : List Value := cubes (l.map fun g => ((g.1 : Int), (g.2 : Int)))
theorem nints'_snoc {l : List Nat} {k x : Nat} (h : l[k]? = some x) (u : Nat → Nat) : nints' ((l.take (k + 1)).map u) = nints' ((l.take k).map u) ++ [.int .i64 (u x : Nat)] := by
  unfold nints' ints
  rw [take_snoc h]
  simp
theorem ngates_snoc {l : List (Nat × Nat)} {k : Nat} {x : Nat × Nat} (h : l[k]? = some x) (u : Nat → Nat) : ngates ((l.take (k + 1)).map fun g => (u g.1, u g.2)) = ngates ((l.take k).map fun g => (u g.1, u g.2)) ++ [.int .i64 (u x.1 : Nat), .int .i64 (u x.2 : Nat)] := by
  unfold ngates cubes
  rw [take_snoc h]
  simp
/-- A circuit whose rows are the call's own. -/
def CircOwn (B : Nat) (w : World) (v : Value) (c : Cz) : Prop := ∃ vn vg vo, v = .agg #[.int .i64 c.ins, vn, vg, vo] ∧ w.ownsRow B 3 1 vn c.next.length (ints c.next) ∧ w.ownsRow B 55 2 vg c.gates.length (cubes c.gates) ∧ w.ownsRow B 3 1 vo c.outs.length (ints c.outs)
theorem CircOwn.at {B : Nat} {w : World} {v : Value} {c : Cz} (h : CircOwn B w v c) : CircAt w v c := by
  obtain ⟨vn, vg, vo, e, h1, h2, h3⟩ := h
  exact ⟨vn, vg, vo, e, Row.of_own h1, Row.of_own h2, Row.of_own h3⟩
theorem CircOwn.below {B : Nat} {w w' : World} {v : Value} {c : Cz} (h : CircOwn B w v c) (hb : Below w.heap.size w w') : CircOwn B w' v c := by
  obtain ⟨vn, vg, vo, e, h1, h2, h3⟩ := h
  exact ⟨vn, vg, vo, e, own_below h1 hb, own_below h2 hb, own_below h3 hb⟩
theorem CircOwn.mono {B B' : Nat} {w : World} {v : Value} {c : Cz} (h : CircOwn B w v c) (hB : B' ≤ B) : CircOwn B' w v c := by
  obtain ⟨vn, vg, vo, e, h1, h2, h3⟩ := h
  exact ⟨vn, vg, vo, e, own_mono h1 hB, own_mono h2 hB, own_mono h3 hB⟩
/-- A row of one type lies in no block of another. -/
theorem own_ne_tag {w : World} {base size n g : Nat} {e t : TypeId} {v : Value} {cs : List Value} {old : Array Value} {fr : Nat × Nat} (h : w.ownsRow base e size v n cs) (hk : w.heap[g]? = some (.cells old t fr)) (hne : e ≠ t) : v.ownBlock ≠ some g := by
  rcases h.2 with h2 | ⟨g', cap, cur, rfl, hb, hh, h3⟩
  · rw [h2.1]; intro e'; cases e'
  · intro e'
    have e'' := Option.some.inj e'
    simp only at e''
    subst e''
    rw [hh] at hk
    have h4 := Option.some.inj hk
    injection h4 with h5 h6
    exact hne h6
theorem replaced_any (g N : Nat) (c : Ci) (F : FuncId) (caps : Array Value) (u : Nat → Nat) (w : World) (h : PCirc w g (Cir.toCz c)) (l1 : c.next.length ≤ 1000) (l2 : c.gates.length ≤ 1000) (l3 : c.outs.length ≤ 1000)
    (n1 : ∀ l ∈ c.next, l < N) (n2 : ∀ x ∈ c.gates, x.1 < N ∧ x.2 < N) (n3 : ∀ l ∈ c.outs, l < N)
    (hF : ∀ vs w', (callFunc F vs).run Try.prog w' = .ok (.enter F vs) w')
    (hu : ∀ w', Below w.heap.size w w' → ∀ l, l < N → Calls Try.prog F (#[.int .i64 (l : Nat)] ++ caps) w' fun e w'' => e = .returned (.int .i64 (u l : Nat)) ∧ Below w'.heap.size w' w'') :
    Calls Try.prog 91 #[.pointer (some ⟨g, 0, none⟩), .func (.func F) #[] caps] w fun e w' => (∃ v, e = .returned v ∧ CircOwn w.heap.size w' v (Cir.toCz (mapC u c))) ∧ Below w.heap.size w w' := by
  have hnl : (Cir.toCz c).next.length = c.next.length := List.length_map _
  have hgl : (Cir.toCz c).gates.length = c.gates.length := List.length_map _
  have hol : (Cir.toCz c).outs.length = c.outs.length := List.length_map _
  have HU := Lib.hid hu
  obtain ⟨vn, vg, vo, hg, c0, c1, c2, c3, r1, r2, r3⟩ := h
  obtain ⟨An, cn, rfl, hcn, hcmn⟩ := Row.shape r1
  obtain ⟨Ag, cg, rfl, hcg, hcmg⟩ := Row.shape r2
  obtain ⟨Ao, co, rfl, hco, hcmo⟩ := Row.shape r3
  rw [hnl] at hcn c1
  rw [hgl] at hcg c2
  rw [hol] at hco c3
  have R1 : Hid (Row w 1 (.slice An c.next.length cn) c.next.length (ints (Cir.toCz c).next)) := Lib.hid (by have := r1; unfold IntsAt at this; rwa [hnl] at this)
  have R2 : Hid (Row w 2 (.slice Ag c.gates.length cg) c.gates.length (cubes (Cir.toCz c).gates)) := Lib.hid (by have := r2; unfold CubesAt at this; rwa [hgl] at this)
  have R3 : Hid (Row w 1 (.slice Ao c.outs.length co) c.outs.length (ints (Cir.toCz c).outs)) := Lib.hid (by have := r3; unfold IntsAt at this; rwa [hol] at this)
  have C1 := Lib.hid c1
  have C2 := Lib.hid c2
  have C3 := Lib.hid c3
  have HL := Lib.hid (And.intro hnl (And.intro hgl hol))
  have HN1 := Lib.hid n1
  have HN2 := Lib.hid n2
  have HN3 := Lib.hid n3
  have hz0 : Value.agg #[.int .i64 0, .slice none 0 0, .slice none 0 0, .slice none 0 0] = Value.agg #[.int .i64 0, .slice none 0 0, .slice none 0 0, .slice none 0 0] := rfl
  have hbR := bel_new w (.cells #[.int .i64 0, .slice none 0 0, .slice none 0 0, .slice none 0 0] 31)
  have hR0 := heap_alloc_new w (.cells #[.int .i64 0, .slice none 0 0, .slice none 0 0, .slice none 0 0] 31)
  have hzR : (w.alloc (.cells #[.int .i64 0, .slice none 0 0, .slice none 0 0, .slice none 0 0] 31)).heap.size = w.heap.size + 1 := by simp
  clear r1 r2 r3 hu hnl hgl hol n1 n2 n3 hz0 c2 c3
  go_enter Try.func91, Try.ntmps91
  go_wp2_with fail
  -- LOOPS
  have hX0 := heap_alloc_new (w.alloc (.cells #[.int .i64 0, .slice none 0 0, .slice none 0 0, .slice none 0 0] 31)) (.cells #[.int .i64 (Cir.toCz c).ins, .slice none 0 0, .slice none 0 0, .slice none 0 0] 31)
  have hb0 := bel_new (w.alloc (.cells #[.int .i64 0, .slice none 0 0, .slice none 0 0, .slice none 0 0] 31)) (.cells #[.int .i64 (Cir.toCz c).ins, .slice none 0 0, .slice none 0 0, .slice none 0 0] 31)
  have hR1 := (hb0.block w.heap.size (by omega)).trans hR0
  have hB0 := hbR.trans (hb0.mono (by omega))
  rw [hzR] at hX0
  generalize (w.alloc (.cells #[.int .i64 0, .slice none 0 0, .slice none 0 0, .slice none 0 0] 31)).alloc (.cells #[.int .i64 (Cir.toCz c).ins, .slice none 0 0, .slice none 0 0, .slice none 0 0] 31) = W0 at *
  obtain ⟨gR, hgRe⟩ : ∃ gR, gR = w.heap.size := ⟨_, rfl⟩
  obtain ⟨gB, hgBe⟩ : ∃ gB, gB = w.heap.size + 1 := ⟨_, rfl⟩
  rw [← hgRe] at hR1 ⊢
  rw [← hgBe] at hX0
  rw [hgRe, ← hgBe, ← hgRe]
  have hgRB : gR < gB := by omega
  have hwR : w.heap.size ≤ gR := by omega
  have HX0 := Lib.hid hX0
  have HR1 := Lib.hid hR1
  have HB0 := Lib.hid hB0
  clear hX0 hR1 hB0 hb0 hbR hR0 hzR hgRe hgBe

  go_loopw [22] (fun i wr => ∃ (k : Nat) (vx : Value), k ≤ c.next.length ∧ i = .int .i64 k ∧ Hid (wr.heap[gB]? = some (.cells #[.int .i64 (Cir.toCz c).ins, vx, .slice none 0 0, .slice none 0 0] 31 (0, 0))) ∧ Hid (wr.heap[gR]? = some (.cells #[.int .i64 0, .slice none 0 0, .slice none 0 0, .slice none 0 0] 31 (0, 0))) ∧ Hid (wr.ownsRow (gB + 1) 3 1 vx k (nints' ((c.next.take k).map u))) ∧ Hid (Below w.heap.size w wr)) (fun i _ => c.next.length - (intOf i).toNat)
  case atStart => exact ⟨0, .slice none 0 0, Nat.zero_le _, rfl, HX0, HR1, Lib.hid (World.ownsRow_nil _ _ _ _), HB0⟩
  case round =>
    obtain ⟨k, vx, hk, rfl, HX, HR, HO, Hb⟩ := hrel
    clear HX0 HR1 HB0
    have hgB := blk_ltB HX.out
    have hgR := blk_ltB HR.out
    by_cases hlt : k < c.next.length
    · obtain ⟨l, hl⟩ := at_some hlt
      have hlN := HN1.out l (List.mem_of_getElem? hl)
      obtain ⟨b, o, x, rfl, hbl, hx, hs⟩ := ints_open R1.out Hb.out HL.out.1.symm (i := k) (by rw [HL.out.1]; exact hlt)
      have hxe : x = (l : Int) := by
        have h1 := hx.out
        unfold Cir.toCz at h1
        rw [List.getElem?_map, hl] at h1
        exact (Option.some.inj h1).symm
      subst hxe
      have HS := Lib.hid (nints'_snoc hl u)
      have hne : ¬ (vx.ownBlock = some gB) := fun e => by have := (HO.out.lt gB e).1; omega
      have hneR : ¬ (vx.ownBlock = some gR) := fun e => by have := (HO.out.lt gR e).1; omega
      have HBel : Hid (∀ w', Only (fun g => vx.ownBlock = some g) wr w' → Below w.heap.size w w') := Lib.hid fun w' ho => Only.below Hb.out ho Hb.out.size (fun q hq => by have := (HO.out.lt q hq).1; omega)
      generalize hcs : nints' ((c.next.take k).map u) = cs at *
      clear hx hl hcs
      go_wp2_with fail
      obtain ⟨i0, hi0, hz0, hz1, hz2⟩ := info_parts info_int
      have hO := fun ops a => appRS2_ok (Pg := Try.prog) (ops := ops) (a := a) (news := [.int .i64 (u l : Nat)]) (d := 6) (HO.out)
      refine wp_region_rsl (appRS2 Try.prog _ wr _ (gB + 1) 3 1 (vx) (k) (cs) [.int .i64 (u l : Nat)] 6) (hO _ _) (by kernel_rfl) (by kernel_rfl) (by kernel_rfl) 8 _ rfl rfl (by kernel_rfl) (show (6 : Nat) < 8 by decide) trivial HO.out ?_
      apply rs_eq (hO _ _) (.inl (Nat.ne_of_beq_eq_false rfl))
      · intro ρ w' ho hK
        have ho : Only _ wr w' := ho
        obtain ⟨h0, -⟩ := hK
        have h0' : ρ (.tmp 5) = _ := h0
        go_simp
        try exact rfl
      apply rs_eq (hO _ _) (.inl (Nat.ne_of_beq_eq_false rfl))
      · intro ρ w' ho hK
        have ho : Only _ wr w' := ho
        obtain ⟨h0, -⟩ := hK
        have h0' : ρ (.tmp 26) = _ := h0
        have q1 := cell_on ho (fun e => hne e) hgB (blk_cell HX.out 1)
        go_simp
        try exact rfl
      refine rs_old (hO _ _) (.inl (Nat.ne_of_beq_eq_false rfl)) _ (.inl rfl) _ rfl rfl ?_
      refine rs_old (hO _ _) (.inl (Nat.ne_of_beq_eq_false rfl)) _ (.inl rfl) _ rfl rfl ?_
      refine rs_callV (hO _ _) (.inl (Nat.ne_of_beq_eq_false rfl)) (TEq (.int .i64 ((u l : Nat) : Int))) (stb_eq _ _) (.tmp 28) _ _ rfl (fun ρ w' ho hK => by
        have ho : Only _ wr w' := ho
        obtain ⟨h0, h1, -⟩ := hK
        have h0' : ρ (.tmp 28) = _ := h0
        have h1' : ρ (.tmp 29) = _ := h1
        refine ⟨F, #[ρ (.tmp 29)] ++ caps, ?_, ?_⟩
        · go_simp
        · rw [h1']
          refine (HU.out w' (HBel.out w' ho) l hlN).mono ?_
          rintro e w2 ⟨rfl, hb⟩
          exact ⟨_, rfl, rfl, hb⟩) ?_
      refine rs_build1 (hO _ _) (.inl (Nat.ne_of_beq_eq_false rfl)) 1 [.int .i64 (u l : Nat)] 3 rfl (fun ρ w' ho hK => by
        have ho : Only _ wr w' := ho
        obtain ⟨h0, -⟩ := hK
        have h0' : ρ (.tmp 30) = _ := h0
        go_simp) ?_
      refine rs_append2 rfl (gB + 1) 3 22 1 (vx) (k) (cs) _ rfl rfl (fun g hg => hg) (show gB + 1 ≤ wr.heap.size by omega) _ _ rfl _ _ rfl rfl rfl rfl i0 _ 8 Try.underlying22 hi0 hz0 hz1 hz2 rfl (by decide) (by omega) (by decide) (by simp [Value.oneCell']) ?_
      apply rs_eq (hO _ _) (.inl (Nat.ne_of_beq_eq_false rfl))
      · intro ρ w' ho hK
        have ho : Only _ wr w' := ho
        obtain ⟨h0, -⟩ := hK
        have h0' : ρ (.tmp 5) = _ := h0
        go_simp
        try exact rfl
      intro f w9 k9 hk9 hI9 ht9 hcp9
      have E0 : f 0 = _ := ht9 0 (Nat.le_of_ble_eq_true rfl)
      have E1 : f 1 = _ := ht9 1 (Nat.le_of_ble_eq_true rfl)
      have E2 : f 2 = _ := ht9 2 (Nat.le_of_ble_eq_true rfl)
      conv at E2 => rhs; whnf
      have E3 : f 3 = _ := ht9 3 (Nat.le_of_ble_eq_true rfl)
      conv at E3 => rhs; whnf
      have E4 : f 4 = _ := ht9 4 (Nat.le_of_ble_eq_true rfl)
      have E5 : (TNew _ 1 1 [.int .i64 (u l : Nat)]) w9 (f 5) := ht9 5 (Nat.le_of_ble_eq_true rfl)
      have E6 : (TAny) w9 (f 6) := ht9 6 (Nat.le_of_ble_eq_true rfl)
      have E7 : f 7 = _ := ht9 7 (Nat.le_of_ble_eq_true rfl)
      have Ho9 : Only _ wr w9 := hI9.2.1
      have hown9 : w9.ownsRow (gB + 1) 3 1 (f 6) (k + 1) (cs ++ [.int .i64 (u l : Nat)]) := hI9.2.2.1
      have hat9 : ∀ g, (f 6).ownBlock = some g → (vx).ownBlock = some g ∨ wr.heap.size ≤ g := hI9.2.2.2
      simp only [putAll, E0, E1, E2, E3, E4, E7, Nat.zero_add, Nat.reduceAdd, Act.put, List.setIfInBounds_toArray, List.set_cons_succ, List.set_cons_zero, List.take, List.getElem_toArray, List.getElem_cons_succ, List.getElem_cons_zero]
      clear E0 E1 E2 E3 E4 E7
      clear hI9 ht9 hcp9 hk9
      generalize f 5 = r5 at *
      generalize f 6 = r6 at *
      have O9 : Only (fun g => vx.ownBlock = some g) wr w9 := Ho9
      have hx9 := (O9.block gB hgB hne).trans HX.out
      have hR9 := (O9.block gR hgR hneR).trans HR.out
      obtain ⟨A9, c9, hv9⟩ := slice_of_own hown9
      subst hv9
      have q1 := blk_cell hx9 1
      have f1 := blk_free hx9 1
      have Hown9 := Lib.hid hown9
      have Hx10 := Lib.hid (heap_setCell_same w9 gB 1 _ _ (.slice A9 (k + 1) c9) hx9)
      have HR9' := Lib.hid hR9
      have HB9 := Lib.hid (HBel.out w9 O9)
      clear Ho9 hown9 hat9 hx9 hR9 O9 hO HX HR HO HBel
      go_wp2_with fail
      go_roundw
      case rel => exact ⟨k + 1, _, by omega, by go_num, Lib.hid (by have h := Hx10.out; simp at h; exact h), Lib.hid ((heap_setCell_other' _ _ _ _ _ (by omega)).trans HR9'.out), Lib.hid (by rw [HS.out]; exact own_setB Hown9.out (by omega)), Lib.hid (HB9.out.setCell (by simp only; omega) _)⟩
      case measure => simp [intOf]; omega
    · obtain rfl : k = c.next.length := by omega
      rw [List.take_length] at HO

      have HO1 : Hid (wr.ownsRow (gB + 1) 3 1 vx c.next.length (nints' (c.next.map u))) := HO
      have q0 := (Hb.out.cell (p := ⟨g, 2, none⟩) hg).trans C2.out
      clear HO
      go_wp2_with fail
      obtain ⟨W1, hW1⟩ : ∃ W, W = wr := ⟨_, rfl⟩
      subst hW1
      obtain ⟨B2, hB2⟩ : ∃ B2, B2 = W1.heap.size := ⟨_, rfl⟩
      have hB2B : gB < B2 := by omega
      have hvx2 : ∀ g, vx.ownBlock = some g → g < B2 := fun g hg => by rw [hB2]; exact (HO1.out.lt g hg).2
      have Hvx2 := Lib.hid hvx2
      have hz1 : B2 ≤ W1.heap.size := by omega
      clear hvx2 hB2 q0
      go_loopw [40] (fun i wr => ∃ (k : Nat) (v2 : Value), k ≤ c.gates.length ∧ i = .int .i64 k ∧ Hid (wr.heap[gB]? = some (.cells #[.int .i64 (Cir.toCz c).ins, vx, v2, .slice none 0 0] 31 (0, 0))) ∧ Hid (wr.heap[gR]? = some (.cells #[.int .i64 0, .slice none 0 0, .slice none 0 0, .slice none 0 0] 31 (0, 0))) ∧ Hid (wr.ownsRow (gB + 1) 3 1 vx c.next.length (nints' (c.next.map u))) ∧ Hid (wr.ownsRow B2 55 2 v2 k (ngates ((c.gates.take k).map fun g => (u g.1, u g.2)))) ∧ B2 ≤ wr.heap.size ∧ Hid (Below w.heap.size w wr)) (fun i _ => c.gates.length - (intOf i).toNat)
      case atStart => exact ⟨0, .slice none 0 0, Nat.zero_le _, rfl, HX, HR, HO1, Lib.hid (World.ownsRow_nil _ _ _ _), hz1, Hb⟩
      case round =>
        obtain ⟨k, v2, hk, rfl, HX', HR', HO1', HO2, hz2, Hb'⟩ := hrel
        clear HX HR HO1 Hb hlt hz1
        have hgB := blk_ltB HX'.out
        have hgR := blk_ltB HR'.out
        by_cases hlt : k < c.gates.length
        · obtain ⟨gt, hgt⟩ := at_some hlt
          obtain ⟨hlN1, hlN2⟩ := HN2.out gt (List.mem_of_getElem? hgt)
          obtain ⟨b, o, x, rfl, hbl, hx, hs1, hs2⟩ := cubes_open R2.out Hb'.out HL.out.2.1.symm (i := k) (by rw [HL.out.2.1]; exact hlt)
          have hxe : x = ((gt.1 : Int), (gt.2 : Int)) := by
            have h1 := hx.out
            unfold Cir.toCz at h1
            simp only [List.getElem?_map, hgt] at h1
            exact (Option.some.inj h1).symm
          subst hxe
          have HS := Lib.hid (ngates_snoc hgt u)
          generalize hcs : ngates ((c.gates.take k).map fun g => (u g.1, u g.2)) = cs at *
          obtain ⟨x1, hx1⟩ : ∃ x1, x1 = gt.1 := ⟨_, rfl⟩
          obtain ⟨x2, hx2⟩ : ∃ x2, x2 = gt.2 := ⟨_, rfl⟩
          rw [← hx1] at hlN1 HS hs1
          rw [← hx2] at hlN2 HS hs2
          have hlt2 : ∀ g, v2.ownBlock = some g → B2 ≤ g ∧ g < wr.heap.size := fun g hg => HO2.out.lt g hg
          have hba := bel_new wr (.cells #[.int .i64 (x1 : Int), .int .i64 (x2 : Int)] 55)
          have hg9 := heap_alloc_new wr (.cells #[.int .i64 (x1 : Int), .int .i64 (x2 : Int)] 55)
          have hza : (wr.alloc (.cells #[.int .i64 (x1 : Int), .int .i64 (x2 : Int)] 55)).heap.size = wr.heap.size + 1 := by simp
          have hXa := (hba.block gB hgB).trans HX'.out
          have hRa := (hba.block gR hgR).trans HR'.out
          have HO1a := Lib.hid (own_below HO1'.out hba)
          have HO2a := Lib.hid (own_below HO2.out hba)
          have Hba := Lib.hid (Hb'.out.trans (hba.mono Hb'.out.size))
          have hzb := Hb'.out.size
          clear hx hgt hcs hx1 hx2 hbl hba HO1' HO2
          go_wp2_with fail
          generalize wr.alloc (.cells #[.int .i64 (x1 : Int), .int .i64 (x2 : Int)] 55) = Wg at *
          obtain ⟨gk, hgk⟩ : ∃ gk, gk = wr.heap.size := ⟨_, rfl⟩
          rw [← hgk] at hg9 hza hlt2 ⊢
          have hgkz : gk < Wg.heap.size := by omega
          have hgBz : gB < Wg.heap.size := by omega
          have hgRz : gR < Wg.heap.size := by omega
          have hne : ¬ (v2.ownBlock = some gB) := fun e => by have := (hlt2 gB e).1; omega
          have hneR : ¬ (v2.ownBlock = some gR) := fun e => by have := (hlt2 gR e).1; omega
          have hnek : ¬ (v2.ownBlock = some gk) := fun e => by have := (hlt2 gk e).2; omega
          have hB2z : B2 ≤ Wg.heap.size := by omega
          have HBel : Hid (∀ w', Only (fun g => v2.ownBlock = some g) Wg w' → Below w.heap.size w w') := Lib.hid fun w' ho => Only.below Hba.out ho Hba.out.size (fun q hq => by have := (hlt2 q hq).1; omega)
          have HG9 := Lib.hid hg9
          have HXa := Lib.hid hXa
          have HRa := Lib.hid hRa
          have Hlt2 := Lib.hid hlt2
          clear hg9 hXa hRa hgk hza hlt2 hs1 hs2
          obtain ⟨i0, hi0, hz0, hz1, hz2⟩ := info_parts info_gate
          have hO := fun ops a => appRS2_ok (Pg := Try.prog) (ops := ops) (a := a) (news := [.int .i64 (u x1 : Nat), .int .i64 (u x2 : Nat)]) (d := 12) (HO2a.out)
          refine wp_region_rsl (appRS2 Try.prog _ Wg _ (B2) 55 2 (v2) (k) (cs) [.int .i64 (u x1 : Nat), .int .i64 (u x2 : Nat)] 12) (hO _ _) (by kernel_rfl) (by kernel_rfl) (by kernel_rfl) 14 _ rfl rfl (by kernel_rfl) (show (12 : Nat) < 14 by decide) trivial HO2a.out ?_
          apply rs_eq (hO _ _) (.inl (Nat.ne_of_beq_eq_false rfl))
          · intro ρ w' ho hK
            have ho : Only _ Wg w' := ho
            obtain ⟨h0, -⟩ := hK
            have h0' : ρ (.tmp 5) = _ := h0
            go_simp
            try exact rfl
          apply rs_eq (hO _ _) (.inl (Nat.ne_of_beq_eq_false rfl))
          · intro ρ w' ho hK
            have ho : Only _ Wg w' := ho
            obtain ⟨h0, -⟩ := hK
            have h0' : ρ (.tmp 44) = _ := h0
            have q1 := cell_on ho (fun e => hne e) hgBz (blk_cell HXa.out 2)
            have k0 := cell_on ho (fun e => hnek e) hgkz (blk_cell HG9.out 0)
            have k1 := cell_on ho (fun e => hnek e) hgkz (blk_cell HG9.out 1)
            go_simp
            try exact rfl
          refine rs_old (hO _ _) (.inl (Nat.ne_of_beq_eq_false rfl)) _ (.inl rfl) _ rfl rfl ?_
          apply rs_eq (hO _ _) (.inl (Nat.ne_of_beq_eq_false rfl))
          · intro ρ w' ho hK
            have ho : Only _ Wg w' := ho
            obtain ⟨h0, -⟩ := hK
            have h0' : ρ (.tmp 9) = _ := h0
            go_simp
            try exact rfl
          apply rs_eq (hO _ _) (.inl (Nat.ne_of_beq_eq_false rfl))
          · intro ρ w' ho hK
            have ho : Only _ Wg w' := ho
            obtain ⟨h0, -⟩ := hK
            have h0' : ρ (.tmp 47) = _ := h0
            have q1 := cell_on ho (fun e => hne e) hgBz (blk_cell HXa.out 2)
            have k0 := cell_on ho (fun e => hnek e) hgkz (blk_cell HG9.out 0)
            have k1 := cell_on ho (fun e => hnek e) hgkz (blk_cell HG9.out 1)
            go_simp
            try exact rfl
          refine rs_callV (hO _ _) (.inl (Nat.ne_of_beq_eq_false rfl)) (TEq (.int .i64 ((u x1 : Nat) : Int))) (stb_eq _ _) (.tmp 46) _ _ rfl (fun ρ w' ho hK => by
            have ho : Only _ Wg w' := ho
            obtain ⟨h0, h1, -⟩ := hK
            have h0' : ρ (.tmp 46) = _ := h0
            have h1' : ρ (.tmp 48) = _ := h1
            refine ⟨F, #[ρ (.tmp 48)] ++ caps, ?_, ?_⟩
            · go_simp
            · rw [h1']
              refine (HU.out w' (HBel.out w' ho) x1 hlN1).mono ?_
              rintro e w2 ⟨rfl, hb⟩
              exact ⟨_, rfl, rfl, hb⟩) ?_
          refine rs_old (hO _ _) (.inl (Nat.ne_of_beq_eq_false rfl)) _ (.inl rfl) _ rfl rfl ?_
          apply rs_eq (hO _ _) (.inl (Nat.ne_of_beq_eq_false rfl))
          · intro ρ w' ho hK
            have ho : Only _ Wg w' := ho
            obtain ⟨h0, -⟩ := hK
            have h0' : ρ (.tmp 9) = _ := h0
            go_simp
            try exact rfl
          apply rs_eq (hO _ _) (.inl (Nat.ne_of_beq_eq_false rfl))
          · intro ρ w' ho hK
            have ho : Only _ Wg w' := ho
            obtain ⟨h0, -⟩ := hK
            have h0' : ρ (.tmp 51) = _ := h0
            have q1 := cell_on ho (fun e => hne e) hgBz (blk_cell HXa.out 2)
            have k0 := cell_on ho (fun e => hnek e) hgkz (blk_cell HG9.out 0)
            have k1 := cell_on ho (fun e => hnek e) hgkz (blk_cell HG9.out 1)
            go_simp
            try exact rfl
          refine rs_callV (hO _ _) (.inl (Nat.ne_of_beq_eq_false rfl)) (TEq (.int .i64 ((u x2 : Nat) : Int))) (stb_eq _ _) (.tmp 50) _ _ rfl (fun ρ w' ho hK => by
            have ho : Only _ Wg w' := ho
            obtain ⟨h0, h1, -⟩ := hK
            have h0' : ρ (.tmp 50) = _ := h0
            have h1' : ρ (.tmp 52) = _ := h1
            refine ⟨F, #[ρ (.tmp 52)] ++ caps, ?_, ?_⟩
            · go_simp
            · rw [h1']
              refine (HU.out w' (HBel.out w' ho) x2 hlN2).mono ?_
              rintro e w2 ⟨rfl, hb⟩
              exact ⟨_, rfl, rfl, hb⟩) ?_
          apply rs_eq (hO _ _) (.inl (Nat.ne_of_beq_eq_false rfl))
          · intro ρ w' ho hK
            have ho : Only _ Wg w' := ho
            obtain ⟨h0, h1, -⟩ := hK
            have h0' : ρ (.tmp 49) = _ := h0
            have h1' : ρ (.tmp 53) = _ := h1
            go_simp
            try exact rfl
          refine rs_build1 (hO _ _) (.inl (Nat.ne_of_beq_eq_false rfl)) 2 [.int .i64 (u x1 : Nat), .int .i64 (u x2 : Nat)] 55 rfl (fun ρ w' ho hK => by
            have ho : Only _ Wg w' := ho
            obtain ⟨h0, -⟩ := hK
            have h0' : ρ (.tmp 54) = _ := h0
            go_simp) ?_
          refine rs_append2 rfl (B2) 55 29 2 (v2) (k) (cs) _ rfl rfl (fun g hg => hg) (show B2 ≤ Wg.heap.size by omega) _ _ rfl _ _ rfl rfl rfl rfl i0 _ 16 Try.underlying29 hi0 hz0 hz1 hz2 rfl (by decide) (by omega) (by decide) (by simp [Value.oneCell']) ?_
          apply rs_eq (hO _ _) (.inl (Nat.ne_of_beq_eq_false rfl))
          · intro ρ w' ho hK
            have ho : Only _ Wg w' := ho
            obtain ⟨h0, -⟩ := hK
            have h0' : ρ (.tmp 5) = _ := h0
            go_simp
            try exact rfl
          intro f w9 k9 hk9 hI9 ht9 hcp9
          have E0 : f 0 = _ := ht9 0 (Nat.le_of_ble_eq_true rfl)
          have E1 : f 1 = _ := ht9 1 (Nat.le_of_ble_eq_true rfl)
          have E2 : f 2 = _ := ht9 2 (Nat.le_of_ble_eq_true rfl)
          conv at E2 => rhs; whnf
          have E3 : f 3 = _ := ht9 3 (Nat.le_of_ble_eq_true rfl)
          have E4 : f 4 = _ := ht9 4 (Nat.le_of_ble_eq_true rfl)
          have E5 : f 5 = _ := ht9 5 (Nat.le_of_ble_eq_true rfl)
          have E6 : f 6 = _ := ht9 6 (Nat.le_of_ble_eq_true rfl)
          conv at E6 => rhs; whnf
          have E7 : f 7 = _ := ht9 7 (Nat.le_of_ble_eq_true rfl)
          have E8 : f 8 = _ := ht9 8 (Nat.le_of_ble_eq_true rfl)
          have E9 : f 9 = _ := ht9 9 (Nat.le_of_ble_eq_true rfl)
          have E10 : f 10 = _ := ht9 10 (Nat.le_of_ble_eq_true rfl)
          have E11 : (TNew _ 2 1 [.int .i64 (u x1 : Nat), .int .i64 (u x2 : Nat)]) w9 (f 11) := ht9 11 (Nat.le_of_ble_eq_true rfl)
          have E12 : (TAny) w9 (f 12) := ht9 12 (Nat.le_of_ble_eq_true rfl)
          have E13 : f 13 = _ := ht9 13 (Nat.le_of_ble_eq_true rfl)
          have Ho9 : Only _ Wg w9 := hI9.2.1
          have hown9 : w9.ownsRow (B2) 55 2 (f 12) (k + 1) (cs ++ [.int .i64 (u x1 : Nat), .int .i64 (u x2 : Nat)]) := hI9.2.2.1
          have hat9 : ∀ g, (f 12).ownBlock = some g → (v2).ownBlock = some g ∨ Wg.heap.size ≤ g := hI9.2.2.2
          simp only [putAll, E0, E1, E2, E3, E4, E5, E6, E7, E8, E9, E10, E13, Nat.zero_add, Nat.reduceAdd, Act.put, List.setIfInBounds_toArray, List.set_cons_succ, List.set_cons_zero, List.take, List.getElem_toArray, List.getElem_cons_succ, List.getElem_cons_zero]
          clear E0 E1 E2 E3 E4 E5 E6 E7 E8 E9 E10 E13
          clear hI9 ht9 hcp9 hk9
          generalize f 11 = r11 at *
          generalize f 12 = r12 at *
          have O9 : Only (fun g => v2.ownBlock = some g) Wg w9 := Ho9
          have hx9 := (O9.block gB hgBz hne).trans HXa.out
          have hR9 := (O9.block gR hgRz hneR).trans HRa.out
          obtain ⟨A9, c9, hv9⟩ := slice_of_own hown9
          subst hv9
          have q1 := blk_cell hx9 2
          have f1 := blk_free hx9 2
          have Hown9 := Lib.hid hown9
          have Hx10 := Lib.hid (heap_setCell_same w9 gB 2 _ _ (.slice A9 (k + 1) c9) hx9)
          have HR9' := Lib.hid hR9
          have HB9 := Lib.hid (HBel.out w9 O9)
          have HO1b := Lib.hid (own_only HO1a.out O9 (fun g hg e => by have h1 := Hvx2.out g hg; have h2 := (Hlt2.out g e).1; omega))
          have hz9 := O9.size
          clear Ho9 hown9 hat9 hx9 hR9 O9 hO HXa HRa HO2a HBel HG9 HO1a Hba
          go_wp2_with fail
          go_roundw
          case rel => exact ⟨k + 1, _, by omega, by go_num, Lib.hid (by have h := Hx10.out; simp at h; exact h), Lib.hid ((heap_setCell_other' _ _ _ _ _ (by omega)).trans HR9'.out), Lib.hid (own_setB HO1b.out (by omega)), Lib.hid (by rw [HS.out]; exact own_setB Hown9.out (by omega)), by simp; omega, Lib.hid (HB9.out.setCell (by simp only; omega) _)⟩
          case measure => simp [intOf]; omega
        · obtain rfl : k = c.gates.length := by omega
          rw [List.take_length] at HO2

          have HO2e : Hid (wr.ownsRow B2 55 2 v2 c.gates.length (ngates (c.gates.map fun g => (u g.1, u g.2)))) := HO2
          have q0 := (Hb'.out.cell (p := ⟨g, 3, none⟩) hg).trans C3.out
          clear HO2
          go_wp2_with fail
          obtain ⟨W2, hW2⟩ : ∃ W, W = wr := ⟨_, rfl⟩
          subst hW2
          obtain ⟨B3, hB3⟩ : ∃ B3, B3 = W2.heap.size := ⟨_, rfl⟩
          have hB3B : gB < B3 := by omega
          have hB3B2 : B2 ≤ B3 := by omega
          have hvx3 : ∀ g, vx.ownBlock = some g → g < B3 := fun g hg => by rw [hB3]; exact (HO1'.out.lt g hg).2
          have hv23 : ∀ g, v2.ownBlock = some g → g < B3 := fun g hg => by rw [hB3]; exact (HO2e.out.lt g hg).2
          have Hvx3 := Lib.hid (And.intro hvx3 hv23)
          have hz3 : B3 ≤ W2.heap.size := by omega
          clear hvx3 hv23 hB3 q0 Hvx2
          go_loopw [64] (fun i wr => ∃ (k : Nat) (v3 : Value), k ≤ c.outs.length ∧ i = .int .i64 k ∧ Hid (wr.heap[gB]? = some (.cells #[.int .i64 (Cir.toCz c).ins, vx, v2, v3] 31 (0, 0))) ∧ Hid (wr.heap[gR]? = some (.cells #[.int .i64 0, .slice none 0 0, .slice none 0 0, .slice none 0 0] 31 (0, 0))) ∧ Hid (wr.ownsRow (gB + 1) 3 1 vx c.next.length (nints' (c.next.map u))) ∧ Hid (wr.ownsRow B2 55 2 v2 c.gates.length (ngates (c.gates.map fun g => (u g.1, u g.2)))) ∧ Hid (wr.ownsRow B3 3 1 v3 k (nints' ((c.outs.take k).map u))) ∧ B3 ≤ wr.heap.size ∧ Hid (Below w.heap.size w wr)) (fun i _ => c.outs.length - (intOf i).toNat)
          case atStart => exact ⟨0, .slice none 0 0, Nat.zero_le _, rfl, HX', HR', HO1', HO2e, Lib.hid (World.ownsRow_nil _ _ _ _), hz3, Hb'⟩
          case round =>
            obtain ⟨k, v3, hk, rfl, HX3, HR3, HO1e, HO2f, HO3, hz4, Hb3⟩ := hrel
            clear HX' HR' HO1' HO2e Hb' hlt hz3
            have hgB := blk_ltB HX3.out
            have hgR := blk_ltB HR3.out
            by_cases hlt : k < c.outs.length
            · obtain ⟨l, hl⟩ := at_some hlt
              have hlN := HN3.out l (List.mem_of_getElem? hl)
              obtain ⟨b, o, x, rfl, hbl, hx, hs⟩ := ints_open R3.out Hb3.out HL.out.2.2.symm (i := k) (by rw [HL.out.2.2]; exact hlt)
              have hxe : x = (l : Int) := by
                have h1 := hx.out
                unfold Cir.toCz at h1
                rw [List.getElem?_map, hl] at h1
                exact (Option.some.inj h1).symm
              subst hxe
              have HS := Lib.hid (nints'_snoc hl u)
              have hlt2 : ∀ g, v3.ownBlock = some g → B3 ≤ g ∧ g < wr.heap.size := fun g hg => HO3.out.lt g hg
              have hne : ¬ (v3.ownBlock = some gB) := fun e => by have := (hlt2 gB e).1; omega
              have hneR : ¬ (v3.ownBlock = some gR) := fun e => by have := (hlt2 gR e).1; omega
              have HBel : Hid (∀ w', Only (fun g => v3.ownBlock = some g) wr w' → Below w.heap.size w w') := Lib.hid fun w' ho => Only.below Hb3.out ho Hb3.out.size (fun q hq => by have := (hlt2 q hq).1; omega)
              have Hlt2 := Lib.hid hlt2
              generalize hcs : nints' ((c.outs.take k).map u) = cs at *
              clear hx hl hcs hlt2
              go_wp2_with fail
              obtain ⟨i0, hi0, hz0, hz1, hz2⟩ := info_parts info_int
              have hO := fun ops a => appRS2_ok (Pg := Try.prog) (ops := ops) (a := a) (news := [.int .i64 (u l : Nat)]) (d := 6) (HO3.out)
              refine wp_region_rsl (appRS2 Try.prog _ wr _ (B3) 3 1 (v3) (k) (cs) [.int .i64 (u l : Nat)] 6) (hO _ _) (by kernel_rfl) (by kernel_rfl) (by kernel_rfl) 8 _ rfl rfl (by kernel_rfl) (show (6 : Nat) < 8 by decide) trivial HO3.out ?_
              apply rs_eq (hO _ _) (.inl (Nat.ne_of_beq_eq_false rfl))
              · intro ρ w' ho hK
                have ho : Only _ wr w' := ho
                obtain ⟨h0, -⟩ := hK
                have h0' : ρ (.tmp 5) = _ := h0
                go_simp
                try exact rfl
              apply rs_eq (hO _ _) (.inl (Nat.ne_of_beq_eq_false rfl))
              · intro ρ w' ho hK
                have ho : Only _ wr w' := ho
                obtain ⟨h0, -⟩ := hK
                have h0' : ρ (.tmp 68) = _ := h0
                have q1 := cell_on ho (fun e => hne e) hgB (blk_cell HX3.out 3)
                go_simp
                try exact rfl
              refine rs_old (hO _ _) (.inl (Nat.ne_of_beq_eq_false rfl)) _ (.inl rfl) _ rfl rfl ?_
              refine rs_old (hO _ _) (.inl (Nat.ne_of_beq_eq_false rfl)) _ (.inl rfl) _ rfl rfl ?_
              refine rs_callV (hO _ _) (.inl (Nat.ne_of_beq_eq_false rfl)) (TEq (.int .i64 ((u l : Nat) : Int))) (stb_eq _ _) (.tmp 70) _ _ rfl (fun ρ w' ho hK => by
                have ho : Only _ wr w' := ho
                obtain ⟨h0, h1, -⟩ := hK
                have h0' : ρ (.tmp 70) = _ := h0
                have h1' : ρ (.tmp 71) = _ := h1
                refine ⟨F, #[ρ (.tmp 71)] ++ caps, ?_, ?_⟩
                · go_simp
                · rw [h1']
                  refine (HU.out w' (HBel.out w' ho) l hlN).mono ?_
                  rintro e w2 ⟨rfl, hb⟩
                  exact ⟨_, rfl, rfl, hb⟩) ?_
              refine rs_build1 (hO _ _) (.inl (Nat.ne_of_beq_eq_false rfl)) 1 [.int .i64 (u l : Nat)] 3 rfl (fun ρ w' ho hK => by
                have ho : Only _ wr w' := ho
                obtain ⟨h0, -⟩ := hK
                have h0' : ρ (.tmp 72) = _ := h0
                go_simp) ?_
              refine rs_append2 rfl (B3) 3 22 1 (v3) (k) (cs) _ rfl rfl (fun g hg => hg) (show B3 ≤ wr.heap.size by omega) _ _ rfl _ _ rfl rfl rfl rfl i0 _ 8 Try.underlying22 hi0 hz0 hz1 hz2 rfl (by decide) (by omega) (by decide) (by simp [Value.oneCell']) ?_
              apply rs_eq (hO _ _) (.inl (Nat.ne_of_beq_eq_false rfl))
              · intro ρ w' ho hK
                have ho : Only _ wr w' := ho
                obtain ⟨h0, -⟩ := hK
                have h0' : ρ (.tmp 5) = _ := h0
                go_simp
                try exact rfl
              intro f w9 k9 hk9 hI9 ht9 hcp9
              have E0 : f 0 = _ := ht9 0 (Nat.le_of_ble_eq_true rfl)
              have E1 : f 1 = _ := ht9 1 (Nat.le_of_ble_eq_true rfl)
              have E2 : f 2 = _ := ht9 2 (Nat.le_of_ble_eq_true rfl)
              conv at E2 => rhs; whnf
              have E3 : f 3 = _ := ht9 3 (Nat.le_of_ble_eq_true rfl)
              conv at E3 => rhs; whnf
              have E4 : f 4 = _ := ht9 4 (Nat.le_of_ble_eq_true rfl)
              have E5 : (TNew _ 1 1 [.int .i64 (u l : Nat)]) w9 (f 5) := ht9 5 (Nat.le_of_ble_eq_true rfl)
              have E6 : (TAny) w9 (f 6) := ht9 6 (Nat.le_of_ble_eq_true rfl)
              have E7 : f 7 = _ := ht9 7 (Nat.le_of_ble_eq_true rfl)
              have Ho9 : Only _ wr w9 := hI9.2.1
              have hown9 : w9.ownsRow (B3) 3 1 (f 6) (k + 1) (cs ++ [.int .i64 (u l : Nat)]) := hI9.2.2.1
              have hat9 : ∀ g, (f 6).ownBlock = some g → (v3).ownBlock = some g ∨ wr.heap.size ≤ g := hI9.2.2.2
              simp only [putAll, E0, E1, E2, E3, E4, E7, Nat.zero_add, Nat.reduceAdd, Act.put, List.setIfInBounds_toArray, List.set_cons_succ, List.set_cons_zero, List.take, List.getElem_toArray, List.getElem_cons_succ, List.getElem_cons_zero]
              clear E0 E1 E2 E3 E4 E7
              clear hI9 ht9 hcp9 hk9
              generalize f 5 = r5 at *
              generalize f 6 = r6 at *
              have O9 : Only (fun g => v3.ownBlock = some g) wr w9 := Ho9
              have hx9 := (O9.block gB hgB hne).trans HX3.out
              have hR9 := (O9.block gR hgR hneR).trans HR3.out
              obtain ⟨A9, c9, hv9⟩ := slice_of_own hown9
              subst hv9
              have q1 := blk_cell hx9 3
              have f1 := blk_free hx9 3
              have Hown9 := Lib.hid hown9
              have Hx10 := Lib.hid (heap_setCell_same w9 gB 3 _ _ (.slice A9 (k + 1) c9) hx9)
              have HR9' := Lib.hid hR9
              have HB9 := Lib.hid (HBel.out w9 O9)
              have HO1b := Lib.hid (own_only HO1e.out O9 (fun g hg e => by have h1 := Hvx3.out.1 g hg; have h2 := (Hlt2.out g e).1; omega))
              have HO2b := Lib.hid (own_only HO2f.out O9 (fun g hg e => by have h1 := Hvx3.out.2 g hg; have h2 := (Hlt2.out g e).1; omega))
              have hz9 := O9.size
              clear Ho9 hown9 hat9 hx9 hR9 O9 hO HX3 HR3 HO3 HBel HO1e HO2f Hb3
              go_wp2_with fail
              go_roundw
              case rel => exact ⟨k + 1, _, by omega, by go_num, Lib.hid (by have h := Hx10.out; simp at h; exact h), Lib.hid ((heap_setCell_other' _ _ _ _ _ (by omega)).trans HR9'.out), Lib.hid (own_setB HO1b.out (by omega)), Lib.hid (own_setB HO2b.out (by omega)), Lib.hid (by rw [HS.out]; exact own_setB Hown9.out (by omega)), by simp; omega, Lib.hid (HB9.out.setCell (by simp only; omega) _)⟩
              case measure => simp [intOf]; omega
            · obtain rfl : k = c.outs.length := by omega
              rw [List.take_length] at HO3
              obtain ⟨A1, c1', hv1⟩ := slice_of_own HO1e.out
              subst hv1
              obtain ⟨A2, c2', hv2⟩ := slice_of_own HO2f.out
              subst hv2
              obtain ⟨A3, c3', hv3⟩ := slice_of_own HO3.out
              subst hv3
              have q0 := blk_cell HX3.out 0
              have q1 := blk_cell HX3.out 1
              have q2 := blk_cell HX3.out 2
              have q3 := blk_cell HX3.out 3
              have r0 := blk_cell HR3.out 0
              have r1 := blk_cell HR3.out 1
              have r2 := blk_cell HR3.out 2
              have r3 := blk_cell HR3.out 3
              have f0 := blk_free HR3.out 0
              have f1 := blk_free HR3.out 1
              have f2 := blk_free HR3.out 2
              have f3 := blk_free HR3.out 3
              have hlm : (Cir.toCz (mapC u c)).next.length = c.next.length ∧ (Cir.toCz (mapC u c)).gates.length = c.gates.length ∧ (Cir.toCz (mapC u c)).outs.length = c.outs.length := ⟨by simp [Cir.toCz, mapC], by simp [Cir.toCz, mapC], by simp [Cir.toCz, mapC]⟩
              have Hlm := Lib.hid hlm
              clear hlm HX3 hlt
              go_wp2_with fail
              refine bodyPost_ret (v := .agg #[.int .i64 (Cir.toCz c).ins, .slice A1 c.next.length c1', .slice A2 c.gates.length c2', .slice A3 c.outs.length c3']) (by simp [results, Try.results91, go_sem, r0, r1, r2, r3]) rfl ⟨⟨_, rfl, _, _, _, rfl, ?_, ?_, ?_⟩, ?_⟩
              · rw [Hlm.out.1]
                exact own_mono (own_setB (own_setB (own_setB (own_setB HO1e.out (by omega)) (by omega)) (by omega)) (by omega)) (by omega)
              · rw [Hlm.out.2.1]
                exact own_mono (own_setB (own_setB (own_setB (own_setB (by have h := HO2f.out; unfold ngates at h; unfold Cir.toCz mapC; exact h) (by omega)) (by omega)) (by omega)) (by omega)) (by omega)
              · rw [Hlm.out.2.2]
                exact own_mono (own_setB (own_setB (own_setB (own_setB HO3.out (by omega)) (by omega)) (by omega)) (by omega)) (by omega)
              · exact (((Hb3.out.setCell (by simp only; omega) _).setCell (by simp only; omega) _).setCell (by simp only; omega) _).setCell (by simp only; omega) _
end Go.Proofs.Ytlbfejdbfhgifaa

namespace Go.Proofs.Ytlbfejdbfhgifaa
namespace Cir
/-! Violations of invariants, plainly. -/
/-- Output o is 1 in state s for input number x. -/
def bad (c : Ci) (o s x : Nat) : Bool := (outsOf c s x).getD o false
def vsts (l : List (Nat × List Nat)) : List Nat := l.map (·.1)
def vpush (l : List (Nat × List Nat)) (n : Nat) (p : List Nat) : List (Nat × List Nat) := if memB (vsts l) n then l else l ++ [(n, p)]
def vpushes (c : Ci) (s : Nat) (p : List Nat) : Nat → List (Nat × List Nat) → List (Nat × List Nat)
  | 0, l => l
  | j + 1, l => vpush (vpushes c s p j l) (nextOf c s j) (p ++ [j])
def vfind (c : Ci) (o s M : Nat) : Option Nat := (List.range M).find? (bad c o s)
def vbfs (c : Ci) (o : Nat) : Nat → Nat → List (Nat × List Nat) → Option (List Nat)
  | 0, _, _ => none
  | f + 1, k, l => match l[k]? with
    | none => none
    | some (s, p) => match vfind c o s (2 ^ c.ins) with
      | some x => some (p ++ [x])
      | none => vbfs c o f (k + 1) (vpushes c s p (2 ^ c.ins) l)
def viol (c : Ci) (o : Nat) : Option (List Nat) := vbfs c o 9 0 [(0, [])]
theorem vsts_vpush (l : List (Nat × List Nat)) (n : Nat) (p : List Nat) : vsts (vpush l n p) = push (vsts l) n := by
  unfold vpush push memB
  split
  · rfl
  · unfold vsts; simp
theorem vsts_vpushes (c : Ci) (s : Nat) (p : List Nat) (l : List (Nat × List Nat)) : ∀ j, vsts (vpushes c s p j l) = pushes c s j (vsts l)
  | 0 => by rw [pushes_zero]; rfl
  | j + 1 => by rw [pushes_succ, ← vsts_vpushes c s p l j, ← vsts_vpush]; rfl
theorem vsts_get {l : List (Nat × List Nat)} {k s : Nat} {p : List Nat} (h : l[k]? = some (s, p)) : (vsts l)[k]? = some s := by
  unfold vsts; rw [List.getElem?_map, h]; rfl
theorem vsts_length (l : List (Nat × List Nat)) : (vsts l).length = l.length := by unfold vsts; simp
theorem vpush_prefix (l : List (Nat × List Nat)) (n : Nat) (p : List Nat) : ∃ m, vpush l n p = l ++ m := by
  unfold vpush
  split
  · exact ⟨[], by simp⟩
  · exact ⟨_, rfl⟩
theorem vpushes_prefix (c : Ci) (s : Nat) (p : List Nat) (l : List (Nat × List Nat)) : ∀ j, ∃ m, vpushes c s p j l = l ++ m
  | 0 => ⟨[], by simp [vpushes]⟩
  | j + 1 => by
    obtain ⟨m, hm⟩ := vpushes_prefix c s p l j
    obtain ⟨m', hm'⟩ := vpush_prefix (vpushes c s p j l) (nextOf c s j) (p ++ [j])
    exact ⟨m ++ m', by rw [vpushes, hm', hm, List.append_assoc]⟩
theorem vpushes_get {c : Ci} {s : Nat} {p : List Nat} {l : List (Nat × List Nat)} {j k : Nat} {x : Nat × List Nat} (h : l[k]? = some x) : (vpushes c s p j l)[k]? = some x := by
  obtain ⟨m, hm⟩ := vpushes_prefix c s p l j
  rw [hm, List.getElem?_append_left (List.getElem?_eq_some_iff.1 h).1, h]
/-- Lists of states with the inputs that lead there. -/
structure Vs (c : Ci) (l : List (Nat × List Nat)) : Prop where
  sts : Sts c (vsts l)
  len : ∀ (k s : Nat) (p : List Nat), l[k]? = some (s, p) → p.length ≤ k
  inp : ∀ (k s : Nat) (p : List Nat), l[k]? = some (s, p) → ∀ x ∈ p, x < 2 ^ c.ins
theorem Vs.zero (c : Ci) : Vs c [(0, [])] := by
  refine ⟨Sts.zero c, fun k s p h => ?_, fun k s p h => ?_⟩
  · cases k with
    | zero => simp at h; obtain ⟨_, rfl⟩ := h; simp
    | succ k => simp at h
  · cases k with
    | zero => simp at h; obtain ⟨_, rfl⟩ := h; simp
    | succ k => simp at h
theorem Vs.push {c : Ci} {l : List (Nat × List Nat)} (h : Vs c l) {k s : Nat} {p : List Nat} (hk : l[k]? = some (s, p)) {n x : Nat} (hn : n < 2 ^ c.next.length) (hx : x < 2 ^ c.ins) : Vs c (vpush l n (p ++ [x])) := by
  refine ⟨by rw [vsts_vpush]; exact h.sts.push hn, fun k' s' p' h' => ?_, fun k' s' p' h' => ?_⟩
  all_goals
    unfold vpush at h'
    split at h'
    · first | exact h.len _ _ _ h' | exact h.inp _ _ _ h'
    · rcases Nat.lt_or_ge k' l.length with hl | hl
      · rw [List.getElem?_append_left hl] at h'
        first | exact h.len _ _ _ h' | exact h.inp _ _ _ h'
      · rw [List.getElem?_append_right hl] at h'
        have hz : k' - l.length = 0 := by
          rcases Nat.eq_zero_or_pos (k' - l.length) with hz | hz
          · exact hz
          · rw [List.getElem?_eq_none (by simp; omega)] at h'; cases h'
        rw [hz] at h'
        simp at h'
        obtain ⟨rfl, rfl⟩ := h'
        first
        | (have := h.len _ _ _ hk
           have h2 := (List.getElem?_eq_some_iff.1 hk).1
           simp
           omega)
        | (intro y hy
           rcases List.mem_append.1 hy with hy | hy
           · exact h.inp _ _ _ hk y hy
           · obtain rfl := List.mem_singleton.1 hy
             exact hx)
theorem Vs.pushes {c : Ci} {l : List (Nat × List Nat)} (h : Vs c l) {k s : Nat} {p : List Nat} (hk : l[k]? = some (s, p)) : ∀ j, j ≤ 2 ^ c.ins → Vs c (vpushes c s p j l)
  | 0, _ => h
  | j + 1, hj => (Vs.pushes h hk j (by omega)).push (vpushes_get hk) (nextOf_lt c s j) (by omega)
theorem Vs.size {c : Ci} {l : List (Nat × List Nat)} (h : Vs c l) (hc : Ok c) : l.length ≤ 8 := by
  have := h.sts.len hc
  rwa [vsts_length] at this
theorem vfind_none {c : Ci} {o s M : Nat} (h : ∀ x, x < M → bad c o s x = false) : vfind c o s M = none := by
  unfold vfind
  rw [List.find?_eq_none]
  intro x hx
  rw [h x (List.mem_range.1 hx)]
  simp
theorem find_range (p : Nat → Bool) : ∀ (M x : Nat), x < M → p x = true → (∀ y, y < x → p y = false) → (List.range M).find? p = some x
  | 0, x, h, _, _ => by omega
  | M + 1, x, h, hp, hl => by
    rw [List.range_succ, List.find?_append]
    rcases Nat.lt_or_ge x M with hx | hx
    · rw [find_range p M x hx hp hl]; rfl
    · obtain rfl : x = M := by omega
      rw [List.find?_eq_none.2 (fun y hy => by rw [hl y (List.mem_range.1 hy)]; simp)]
      simp [hp]
theorem vfind_some {c : Ci} {o s M x : Nat} (hx : x < M) (hb : bad c o s x = true) (h : ∀ y, y < x → bad c o s y = false) : vfind c o s M = some x := find_range _ M x hx hb h
theorem vbfs_hit {c : Ci} {o f k s x : Nat} {p : List Nat} {l : List (Nat × List Nat)} (hk : l[k]? = some (s, p)) (h : vfind c o s (2 ^ c.ins) = some x) : vbfs c o (f + 1) k l = some (p ++ [x]) := by
  rw [vbfs, hk]; simp only [h]
theorem vbfs_step {c : Ci} {o f k s : Nat} {p : List Nat} {l : List (Nat × List Nat)} (hk : l[k]? = some (s, p)) (h : vfind c o s (2 ^ c.ins) = none) : vbfs c o (f + 1) k l = vbfs c o f (k + 1) (vpushes c s p (2 ^ c.ins) l) := by
  rw [vbfs, hk]; simp only [h]
theorem vbfs_end {c : Ci} {o f : Nat} {l : List (Nat × List Nat)} : vbfs c o f l.length l = none := by
  cases f with
  | zero => rfl
  | succ f => rw [vbfs, List.getElem?_eq_none (Nat.le_refl _)]
theorem vpush_no {l : List (Nat × List Nat)} {n : Nat} {p : List Nat} (h : memB (vsts l) n = false) : vpush l n p = l ++ [(n, p)] := by
  unfold vpush; rw [h]; rfl
theorem vpush_yes {l : List (Nat × List Nat)} {n : Nat} {p : List Nat} (h : memB (vsts l) n = true) : vpush l n p = l := by
  unfold vpush; rw [h]; rfl
theorem vpushes_succ (c : Ci) (s : Nat) (p : List Nat) (j : Nat) (l : List (Nat × List Nat)) : vpushes c s p (j + 1) l = vpush (vpushes c s p j l) (nextOf c s j) (p ++ [j]) := rfl
/-- The way back: from which place, and by which input. -/
structure Back (l : List (Nat × List Nat)) (from_ how : List Nat) : Prop where
  l1 : from_.length = l.length
  l2 : how.length = l.length
  zero : ∃ s, l[0]? = some (s, [])
  step : ∀ (k s : Nat) (p : List Nat), l[k]? = some (s, p) → 0 < k → ∃ i x s' p', from_[k]? = some i ∧ i < k ∧ how[k]? = some x ∧ l[i]? = some (s', p') ∧ p = p' ++ [x]
theorem Back.start : Back [(0, [])] [0] [0] := ⟨rfl, rfl, ⟨0, rfl⟩, fun k s p h hk => by
  cases k with
  | zero => omega
  | succ k => simp at h⟩
theorem Back.snoc {l : List (Nat × List Nat)} {from_ how : List Nat} (h : Back l from_ how) {k s n x : Nat} {p : List Nat} (hk : l[k]? = some (s, p)) : Back (l ++ [(n, p ++ [x])]) (from_ ++ [k]) (how ++ [x]) := by
  have hkl := (List.getElem?_eq_some_iff.1 hk).1
  refine ⟨by simp [h.l1], by simp [h.l2], ?_, fun k' s' p' h' hpos => ?_⟩
  · obtain ⟨s0, h0⟩ := h.zero
    exact ⟨s0, by rw [List.getElem?_append_left (List.getElem?_eq_some_iff.1 h0).1, h0]⟩
  · rcases Nat.lt_or_ge k' l.length with hl | hl
    · rw [List.getElem?_append_left hl] at h'
      obtain ⟨i, y, s1, p1, h1, h2, h3, h4, h5⟩ := h.step k' s' p' h' hpos
      exact ⟨i, y, s1, p1, by rw [List.getElem?_append_left (by rw [h.l1]; exact hl), h1], h2, by rw [List.getElem?_append_left (by rw [h.l2]; exact hl), h3], by rw [List.getElem?_append_left (by omega), h4], h5⟩
    · have hz : k' = l.length := by
        rcases Nat.lt_or_ge l.length k' with hz | hz
        · rw [List.getElem?_eq_none (by simp; omega)] at h'; cases h'
        · omega
      subst hz
      rw [List.getElem?_append_right (Nat.le_refl _), Nat.sub_self] at h'
      simp at h'
      obtain ⟨rfl, rfl⟩ := h'
      exact ⟨k, x, s, p, by rw [List.getElem?_append_right (by rw [h.l1]; exact Nat.le_refl _), h.l1]; simp, hkl, by rw [List.getElem?_append_right (by rw [h.l2]; exact Nat.le_refl _), h.l2]; simp, by rw [List.getElem?_append_left hkl, hk], rfl⟩
end Cir
end Go.Proofs.Ytlbfejdbfhgifaa

namespace Go.Proofs.Ytlbfejdbfhgifaa
/-! What only the steps of a circuit decide: violations. -/
namespace Cir
section
variable {c d : Ci}
theorem SameStep.bad (h : SameStep c d) (o s x : Nat) : bad d o s x = bad c o s x := by
  unfold Cir.bad
  rw [h.outsOf]
theorem SameStep.vpushes (h : SameStep c d) (s : Nat) (p : List Nat) (l : List (Nat × List Nat)) : ∀ j, vpushes d s p j l = vpushes c s p j l
  | 0 => rfl
  | j + 1 => by rw [Cir.vpushes, Cir.vpushes, h.vpushes s p l j, h.nextOf]
theorem SameStep.vfind (h : SameStep c d) (o s M : Nat) : vfind d o s M = vfind c o s M := by
  unfold Cir.vfind
  rw [show Cir.bad d o s = Cir.bad c o s from funext fun x => h.bad o s x]
theorem SameStep.vbfs (h : SameStep c d) (o : Nat) : ∀ f k l, vbfs d o f k l = vbfs c o f k l
  | 0, _, _ => rfl
  | f + 1, k, l => by
    rw [Cir.vbfs, Cir.vbfs]
    cases l[k]? with
    | none => rfl
    | some e =>
      obtain ⟨s, p⟩ := e
      simp only [h.ins, h.vfind, h.vpushes]
      cases Cir.vfind c o s (2 ^ c.ins) with
      | none => exact h.vbfs o f _ _
      | some x => rfl
theorem SameStep.viol (h : SameStep c d) (o : Nat) : viol d o = viol c o := h.vbfs o _ _ _
end
/-- The circuits of natural numbers that are in order are valid. -/
theorem ok_valid {d : Ci} (h : Ok d) : valid (toCz d) = true := by
  unfold valid
  rw [Bool.and_eq_true, Bool.and_eq_true]
  have e1 := first_toCz d
  have e2 := vars_toCz d
  refine ⟨⟨?_, ?_⟩, ?_⟩
  · unfold sizes
    rw [decide_eq_true_eq]
    have := h.ins
    have := h.nexts
    have := h.gatess
    have := h.outss
    simp only [toCz, List.length_map]
    omega
  · rw [e1]
    have : ∀ (gs : List (Nat × Nat)) (k : Nat), (∀ i g, gs[i]? = some g → g.1 < 2 * (nfirst d + (k + i)) ∧ g.2 < 2 * (nfirst d + (k + i))) → gatesOk (nfirst d : Nat) k (gs.map fun g => ((g.1 : Int), (g.2 : Int))) = true := fun gs => by
      induction gs with
      | nil => intro k _; rfl
      | cons g gs ih =>
        intro k hg
        have h0 := hg 0 g rfl
        rw [List.map_cons, gatesOk, ih (k + 1) (fun i g' hi => by have := hg (i + 1) g' (by simpa using hi); omega)]
        unfold isLit
        rw [Bool.and_true, Bool.and_eq_true, decide_eq_true_eq, decide_eq_true_eq]
        omega
    exact this d.gates 0 fun i g hi => by have := h.gate i g hi; omega
  · rw [e2]
    refine List.all_eq_true.2 fun x hx => ?_
    have hx' : ∃ l : Nat, x = (l : Int) ∧ l < 2 * nvars d := by
      rcases List.mem_append.1 hx with hx | hx
      · obtain ⟨l, hl, rfl⟩ := List.mem_map.1 hx
        exact ⟨l, rfl, h.next l hl⟩
      · obtain ⟨l, hl, rfl⟩ := List.mem_map.1 hx
        exact ⟨l, rfl, h.out l hl⟩
    obtain ⟨l, rfl, hl⟩ := hx'
    unfold isLit
    rw [decide_eq_true_eq]
    omega
/-- The optimized circuit, of any circuit. -/
def optZ (c : Cz) : Cz := if valid c then toCz (optI (nat c)) else ⟨0, [], [], []⟩
theorem optZ_valid (c : Cz) : valid (optZ c) = true := by
  unfold optZ
  split
  · rename_i h
    exact ok_valid (optI_ok (nat_ok h).2)
  · rfl
theorem optZ_same {c : Cz} (h : valid c = true) : SameStep (nat c) (nat (optZ c)) := by
  unfold optZ
  rw [if_pos h, nat_toCz]
  exact optI_same (nat_ok h).2
end Cir
end Go.Proofs.Ytlbfejdbfhgifaa

namespace Go.Proofs.Ytlbfejdbfhgifaa
open Go.RowKit
set_option maxRecDepth 100000
set_option maxHeartbeats 8000000
/-! Circuits with the same steps are equivalent, by the program. -/
theorem pcirc_aggE {w : World} {c : Cz} {An Ag Ao : Option Addr} {cn cg co : Nat} (h : CircAt w (.agg #[.int .i64 c.ins, .slice An c.next.length cn, .slice Ag c.gates.length cg, .slice Ao c.outs.length co]) c) :
    PCirc (w.alloc (.cells #[.int .i64 c.ins, .slice An c.next.length cn, .slice Ag c.gates.length cg, .slice Ao c.outs.length co] 31)) w.heap.size c := by
  obtain ⟨vn, vg, vo, e, i1, i2, i3⟩ := h
  injection e with e
  simp only [Array.mk.injEq, List.cons.injEq, and_true] at e
  obtain ⟨-, e1, e2, e3⟩ := e
  subst e1 e2 e3
  exact PCirc.boxed _ i1 i2 i3
theorem sliceEqB_same (v v2 : Value) (xs : List Bool) (w : World) (h : BoolsAt w v xs) (h2 : BoolsAt w v2 xs) :
    Calls Try.prog 118 #[v, v2] w fun e w' => e = .returned (.bool true) ∧ Drew w w' := by
  obtain ⟨A, c, hv, hc, hcm⟩ := Row.shape h
  obtain ⟨A2, c2, hv2, hc2, hcm2⟩ := Row.shape h2
  subst hv hv2
  unfold maxLen at hcm hcm2
  have he1 : ((xs.length : Int) != (xs.length : Int)) = false := by simp
  have H1 := Lib.hid h
  have H2 := Lib.hid h2
  clear h h2
  go_enter Try.func118, Try.ntmps118
  go_wp2_with fail
  go_loopw [13] (fun i wr => ∃ (k : Nat), k ≤ xs.length ∧ i = .int .i64 k ∧ Drew w wr) (fun i _ => xs.length - (intOf i).toNat)
  case atStart => exact ⟨0, Nat.zero_le _, rfl, Drew.refl _⟩
  case round =>
    obtain ⟨k, hk, rfl, hd⟩ := hrel
    by_cases hlt : k < xs.length
    · obtain ⟨b, o, x, rfl, hbl, hx, hs⟩ := bools_open H1.out (hd.below _) rfl hlt
      obtain ⟨b2, o2, y, rfl, hbl2, hy, hs2⟩ := bools_open H2.out (hd.below _) rfl hlt
      have hxy : x = y := Option.some.inj (hx.out.symm.trans hy.out)
      subst hxy
      have hxx : (x != x) = false := by simp
      have Hd := Lib.hid hd
      clear hx hy hd
      go_wp2_with fail
      go_quiet (fail)
      go_wp2_with fail
      go_roundw
      case rel => exact ⟨k + 1, by omega, by go_num, Hd.out.more _⟩
      case measure => simp [intOf]; omega
    · go_wp2_with fail
      go_ret
      exact ⟨rfl, hd⟩
theorem sameInterface_any (v v2 : Value) (a b : Ci) (w : World) (h : CircAt w v (Cir.toCz a)) (h2 : CircAt w v2 (Cir.toCz b)) (ha : Cir.Ok a) (hb : Cir.Ok b) (hs : Cir.SameStep a b) :
    Calls Try.prog 82 #[v, v2] w fun e w' => e = .returned (.bool true) ∧ Below w.heap.size w w' := by
  have H1 := Lib.hid h
  have H2 := Lib.hid h2
  have v1 := Cir.ok_valid ha
  have v2' := Cir.ok_valid hb
  obtain ⟨An, cn, Ag, cg, Ao, co, rfl⟩ := h.shape
  obtain ⟨Bn, dn, Bg, dg, Bo, d_o, rfl⟩ := h2.shape
  have hin : (Cir.toCz b).ins = (Cir.toCz a).ins := by show ((b.ins : Nat) : Int) = _; rw [hs.ins]; rfl
  have hnx : (Cir.toCz b).next.length = (Cir.toCz a).next.length := by simp [Cir.toCz, hs.nexts]
  have hou : (Cir.toCz b).outs.length = (Cir.toCz a).outs.length := by simp [Cir.toCz, hs.outss]
  rw [hin, hnx, hou] at H2 ⊢
  have HV1 : Hid (∀ w', Below w.heap.size w w' → Calls Try.prog 47 #[.agg #[.int .i64 (Cir.toCz a).ins, .slice An (Cir.toCz a).next.length cn, .slice Ag (Cir.toCz a).gates.length cg, .slice Ao (Cir.toCz a).outs.length co]] w' fun e w'' => e = .returned (.bool true) ∧ Below w'.heap.size w' w'') := Lib.hid fun w' hb => by
    have := implValid_any _ _ w' (H1.out.below hb)
    rwa [v1] at this
  have HV2 : Hid (∀ w', Below w.heap.size w w' → Calls Try.prog 47 #[.agg #[.int .i64 (Cir.toCz a).ins, .slice Bn (Cir.toCz a).next.length dn, .slice Bg (Cir.toCz b).gates.length dg, .slice Bo (Cir.toCz a).outs.length d_o]] w' fun e w'' => e = .returned (.bool true) ∧ Below w'.heap.size w' w'') := Lib.hid fun w' hb => by
    have := implValid_any _ (Cir.toCz b) w' (H2.out.below hb)
    rwa [v2'] at this
  generalize (Cir.toCz a).ins = i0 at *
  generalize (Cir.toCz a).next.length = i1 at *
  generalize (Cir.toCz a).gates.length = i2 at *
  generalize (Cir.toCz a).outs.length = i3 at *
  generalize (Cir.toCz b).gates.length = j2 at *
  have e0 : (i0 == i0) = true := by simp
  have e1 : ((i1 : Int) == (i1 : Int)) = true := by simp
  have e3 : ((i3 : Int) == (i3 : Int)) = true := by simp
  have hb1 := bel_new w (.cells #[.int .i64 i0, .slice An i1 cn, .slice Ag i2 cg, .slice Ao i3 co] 31)
  have P1 := PCells.boxed w i0 (.slice An i1 cn) (.slice Ag i2 cg) (.slice Ao i3 co) 31
  obtain ⟨W1, hW1⟩ : ∃ W1, w.alloc (.cells #[.int .i64 i0, .slice An i1 cn, .slice Ag i2 cg, .slice Ao i3 co] 31) = W1 := ⟨_, rfl⟩
  rw [hW1] at hb1 P1
  have hb2 := bel_new W1 (.cells #[.int .i64 i0, .slice Bn i1 dn, .slice Bg j2 dg, .slice Bo i3 d_o] 31)
  have P2 := PCells.boxed W1 i0 (.slice Bn i1 dn) (.slice Bg j2 dg) (.slice Bo i3 d_o) 31
  have hB2 := hb1.trans (hb2.mono hb1.size)
  have P12 := P1.below hb2
  clear h h2 H1 H2 hs ha hb v1 v2' hin hnx hou
  have P1h := Lib.hid P12
  have P2h := Lib.hid P2
  have HB2 := Lib.hid hB2
  obtain ⟨z1, p0, p1, p2, p3⟩ := P12
  obtain ⟨z2, q0, q1, q2, q3⟩ := P2
  clear hb1 hb2 P1 hB2
  go_enter Try.func82, Try.ntmps82
  go_wp2_with fail
  clear z1 p0 p1 p2 p3 z2 q0 q1 q2 q3
  generalize W1.alloc (.cells #[.int .i64 i0, .slice Bn i1 dn, .slice Bg j2 dg, .slice Bo i3 d_o] 31) = W2 at *
  obtain ⟨g1, hg1⟩ : ∃ g1, w.heap.size = g1 := ⟨_, rfl⟩
  obtain ⟨g2, hg2⟩ : ∃ g2, W1.heap.size = g2 := ⟨_, rfl⟩
  rw [hg1] at P1h ⊢
  rw [hg2] at P2h ⊢
  clear hg1 hg2
  refine (HV1.out W2 HB2.out).mono ?_
  rintro e w3 ⟨rfl, hb3⟩
  replace P1h := Lib.hid (P1h.out.below hb3)
  replace P2h := Lib.hid (P2h.out.below hb3)
  have HB3 := Lib.hid (HB2.out.trans (hb3.mono HB2.out.size))
  clear hb3 HB2 HV1
  obtain ⟨z1, p0, p1, p2, p3⟩ := P1h.out
  obtain ⟨z2, q0, q1, q2, q3⟩ := P2h.out
  go_wp2_with fail
  refine (HV2.out w3 HB3.out).mono ?_
  rintro e w4 ⟨rfl, hb4⟩
  clear z1 p0 p1 p2 p3 z2 q0 q1 q2 q3
  replace P1h := Lib.hid (P1h.out.below hb4)
  replace P2h := Lib.hid (P2h.out.below hb4)
  have HB4 := Lib.hid (HB3.out.trans (hb4.mono HB3.out.size))
  clear hb4 HB3 HV2
  obtain ⟨z1, p0, p1, p2, p3⟩ := P1h.out
  obtain ⟨z2, q0, q1, q2, q3⟩ := P2h.out
  go_wp2_with fail
  go_ret
  exact ⟨rfl, HB4.out⟩
theorem findDiff_any (v v2 : Value) (a b : Ci) (w : World) (h : CircAt w v (Cir.toCz a)) (h2 : CircAt w v2 (Cir.toCz b)) (ha : Cir.Ok a) (hb : Cir.Ok b) (hs : Cir.SameStep a b) :
    Calls Try.prog 83 #[v, v2] w fun e w' => e = .returned (.agg #[.bool false, .slice none 0 0, .slice none 0 0]) ∧ Below w.heap.size w w' := by
  have H1 := Lib.hid h
  have H2 := Lib.hid h2
  obtain ⟨An, cn, Ag, cg, Ao, co, e1⟩ := h.shape
  obtain ⟨Bn, dn, Bg, dg, Bo, d_o, e2⟩ := h2.shape
  subst e1 e2
  have hp1 := pcirc_aggE H1.out
  have hb1 := bel_new w (.cells #[.int .i64 (Cir.toCz a).ins, .slice An (Cir.toCz a).next.length cn, .slice Ag (Cir.toCz a).gates.length cg, .slice Ao (Cir.toCz a).outs.length co] 31)
  have P1 := PCells.boxed w (Cir.toCz a).ins (.slice An (Cir.toCz a).next.length cn) (.slice Ag (Cir.toCz a).gates.length cg) (.slice Ao (Cir.toCz a).outs.length co) 31
  obtain ⟨W1, hW1⟩ : ∃ W1, w.alloc (.cells #[.int .i64 (Cir.toCz a).ins, .slice An (Cir.toCz a).next.length cn, .slice Ag (Cir.toCz a).gates.length cg, .slice Ao (Cir.toCz a).outs.length co] 31) = W1 := ⟨_, rfl⟩
  rw [hW1] at hb1 P1 hp1
  have hp2 := pcirc_aggE (H2.out.below hb1)
  have hb2 := bel_new W1 (.cells #[.int .i64 (Cir.toCz b).ins, .slice Bn (Cir.toCz b).next.length dn, .slice Bg (Cir.toCz b).gates.length dg, .slice Bo (Cir.toCz b).outs.length d_o] 31)
  have P2 := PCells.boxed W1 (Cir.toCz b).ins (.slice Bn (Cir.toCz b).next.length dn) (.slice Bg (Cir.toCz b).gates.length dg) (.slice Bo (Cir.toCz b).outs.length d_o) 31
  obtain ⟨W2, hW2⟩ : ∃ W2, W1.alloc (.cells #[.int .i64 (Cir.toCz b).ins, .slice Bn (Cir.toCz b).next.length dn, .slice Bg (Cir.toCz b).gates.length dg, .slice Bo (Cir.toCz b).outs.length d_o] 31) = W2 := ⟨_, rfl⟩
  rw [hW2] at hb2 P2 hp2
  have hb3 := bel_new W2 (.cells #[.bool false, .slice none 0 0, .slice none 0 0] 100)
  have hk3 := heap_alloc_new W2 (.cells #[.bool false, .slice none 0 0, .slice none 0 0] 100)
  have HP1 := Lib.hid ((hp1.below hb2).below hb3)
  have HP2 := Lib.hid (hp2.below hb3)
  have C1 := Lib.hid ((P1.below hb2).below hb3)
  have C2 := Lib.hid (P2.below hb3)
  have HB := Lib.hid (hb1.trans ((hb2.trans (hb3.mono hb2.size)).mono hb1.size))
  have hwR : w.heap.size ≤ W2.heap.size := Nat.le_trans hb1.size hb2.size
  have HK := Lib.hid hk3
  have HSI : Hid (∀ w', Below w.heap.size w w' → Calls Try.prog 82 #[.agg #[.int .i64 (Cir.toCz a).ins, .slice An (Cir.toCz a).next.length cn, .slice Ag (Cir.toCz a).gates.length cg, .slice Ao (Cir.toCz a).outs.length co], .agg #[.int .i64 (Cir.toCz b).ins, .slice Bn (Cir.toCz b).next.length dn, .slice Bg (Cir.toCz b).gates.length dg, .slice Bo (Cir.toCz b).outs.length d_o]] w' fun e w'' => e = .returned (.bool true) ∧ Below w'.heap.size w' w'') := Lib.hid fun w' hb' => sameInterface_any _ _ a b w' (H1.out.below hb') (H2.out.below hb') ha hb hs
  obtain ⟨m, hm⟩ : ∃ m, m = a.ins + a.next.length := ⟨_, rfl⟩
  have hm7 : m ≤ 7 := by have := ha.ins; have := ha.nexts; omega
  have HAs : Hid (∀ g w', PCirc w' g (Cir.toCz a) → Calls Try.prog 48 #[.pointer (some ⟨g, 0, none⟩)] w' fun e w'' => e = .returned (.int .i64 ((2 ^ m : Nat) : Int)) ∧ Below w'.heap.size w' w'') := Lib.hid fun g w' hp => assignments_any g _ m w' hp (by show ((a.ins : Nat) : Int) + ((a.next.map Int.ofNat).length : Int) = _; rw [List.length_map, hm]; omega) hm7
  have HEq : Hid (∀ x, Cir.lits (Cir.valsA b x) (b.next ++ b.outs) = Cir.lits (Cir.valsA a x) (a.next ++ a.outs)) := Lib.hid fun x => by
    have h1 := hs.step (Cir.bits (x / 2 ^ a.ins) a.next.length) (Cir.bits x a.ins) (Cir.bits_length _ _) (Cir.bits_length _ _)
    unfold Cir.valsA
    rw [hs.ins, hs.nexts]
    unfold Cir.lits at h1 ⊢
    rw [List.map_append, List.map_append, h1.1, h1.2]
  have HRa : Hid (∀ g x w', PCirc w' g (Cir.toCz a) → x ≤ 1000 → Calls Try.prog 105 #[.pointer (some ⟨g, 0, none⟩), .int .i64 (x : Nat), .int .i64 (-1), .bool false] w' (OwnBools (Cir.lits (Cir.valsA a x) (a.next ++ a.outs)) w')) := Lib.hid fun g x w' hp hx => results_any g a x w' hp ha hx
  have HRb : Hid (∀ g x w', PCirc w' g (Cir.toCz b) → x ≤ 1000 → Calls Try.prog 105 #[.pointer (some ⟨g, 0, none⟩), .int .i64 (x : Nat), .int .i64 (-1), .bool false] w' (OwnBools (Cir.lits (Cir.valsA a x) (a.next ++ a.outs)) w')) := Lib.hid fun g x w' hp hx => by
    have := results_any g b x w' hp hb hx
    rwa [HEq.out x] at this
  have h20 : 2 ^ m ≤ 128 := Nat.pow_le_pow_right (show 0 < 2 by decide) hm7
  generalize 2 ^ m = M at *
  clear h h2 hp1 hp2 P1 P2 hb1 hb2 hb3 hk3 ha hb hs hm H1 H2 HEq
  obtain ⟨z1, p0, p1, p2, p3⟩ := C1.out
  obtain ⟨z2, q0, q1, q2, q3⟩ := C2.out
  go_enter Try.func83, Try.ntmps83
  go_wp2_with fail
  generalize W2.alloc (.cells #[.bool false, .slice none 0 0, .slice none 0 0] 100) = W3 at *
  obtain ⟨g1, hg1⟩ : ∃ g1, w.heap.size = g1 := ⟨_, rfl⟩
  obtain ⟨g2, hg2⟩ : ∃ g2, W1.heap.size = g2 := ⟨_, rfl⟩
  obtain ⟨g3, hg3⟩ : ∃ g3, W2.heap.size = g3 := ⟨_, rfl⟩
  refine (HSI.out W3 HB.out).mono ?_
  rintro e w4 ⟨rfl, hb4⟩
  have hzK := blk_ltB HK.out
  clear z1 p0 p1 p2 p3 z2 q0 q1 q2 q3 hW1 hW2
  have HK4 := Lib.hid ((hb4.block _ hzK).trans HK.out)
  have HP14 := Lib.hid (HP1.out.below hb4)
  have HP24 := Lib.hid (HP2.out.below hb4)
  have HB4 := Lib.hid (HB.out.trans (hb4.mono HB.out.size))
  rw [hg1] at HP14
  rw [hg2] at HP24
  rw [hg3] at HK4 hwR
  rw [hg1, hg2, hg3]
  clear hb4 HK HP1 HP2 HB C1 C2 HSI hg2 hg3 hzK
  go_wp2_with fail
  refine (HAs.out _ _ HP14.out).mono ?_
  rintro e w5 ⟨rfl, hb5⟩
  have HK5 := Lib.hid ((hb5.block _ (blk_ltB HK4.out)).trans HK4.out)
  have HP15 := Lib.hid (HP14.out.below hb5)
  have HP25 := Lib.hid (HP24.out.below hb5)
  have HB5 := Lib.hid (HB4.out.trans (hb5.mono HB4.out.size))
  clear hb5 HK4 HP14 HP24 HB4 HAs
  go_wp2_with fail
  go_loopw [12] (fun i wr => ∃ x : Nat, x ≤ M ∧ i = .int .i64 x ∧ Hid (PCirc wr g1 (Cir.toCz a)) ∧ Hid (PCirc wr g2 (Cir.toCz b)) ∧ Hid (wr.heap[g3]? = some (.cells #[.bool false, .slice none 0 0, .slice none 0 0] 100 (0, 0))) ∧ Hid (Below w.heap.size w wr)) (fun i _ => M - (intOf i).toNat)
  case atStart => exact ⟨0, Nat.zero_le _, rfl, HP15, HP25, HK5, HB5⟩
  case round =>
    obtain ⟨x, hx, rfl, HP1, HP2, HK, HB⟩ := hrel
    clear HP15 HP25 HK5 HB5
    by_cases hlt : x < M
    · go_wp2_with fail
      refine (HRa.out g1 x wr HP1.out (by omega)).mono ?_
      rintro e w6 ⟨v6, rfl, ho6, hb6⟩
      have HP26 := Lib.hid (HP2.out.below hb6)
      have HP16 := Lib.hid (HP1.out.below hb6)
      have HK6 := Lib.hid ((hb6.block _ (blk_ltB HK.out)).trans HK.out)
      have HB6 := Lib.hid (HB.out.trans (hb6.mono HB.out.size))
      have HR6 := Lib.hid (ownBools_at ho6)
      clear hb6 ho6 HP1 HP2 HK HB
      go_wp2_with fail
      refine (HRb.out g2 x w6 HP26.out (by omega)).mono ?_
      rintro e w7 ⟨v7, rfl, ho7, hb7⟩
      have HP27 := Lib.hid (HP26.out.below hb7)
      have HP17 := Lib.hid (HP16.out.below hb7)
      have HK7 := Lib.hid ((hb7.block _ (blk_ltB HK6.out)).trans HK6.out)
      have HB7 := Lib.hid (HB6.out.trans (hb7.mono HB6.out.size))
      have HR7 := Lib.hid (Row.below HR6.out hb7)
      have HS7 := Lib.hid (ownBools_at ho7)
      clear hb7 ho7 HP16 HP26 HK6 HB6 HR6
      go_wp2_with fail
      refine (sliceEqB_same v6 v7 _ w7 HR7.out HS7.out).mono ?_
      rintro e w8 ⟨rfl, hd8⟩
      have hb8 := hd8.below w7.heap.size
      have HP28 := Lib.hid (HP27.out.below hb8)
      have HP18 := Lib.hid (HP17.out.below hb8)
      have HK8 := Lib.hid ((hb8.block _ (blk_ltB HK7.out)).trans HK7.out)
      have HB8 := Lib.hid (HB7.out.trans (hb8.mono HB7.out.size))
      clear hb8 hd8 HP17 HP27 HK7 HB7 HR7 HS7
      go_wp2_with fail
      go_roundw
      case rel => exact ⟨x + 1, by omega, by go_num, HP18, HP28, HK8, HB8⟩
      case measure => simp [intOf]; omega
    · obtain rfl : x = M := by omega
      have r0 := blk_cell HK.out 0
      have r1 := blk_cell HK.out 1
      have r2 := blk_cell HK.out 2
      have f0 := blk_free HK.out 0
      have f1 := blk_free HK.out 1
      have f2 := blk_free HK.out 2
      simp at r0 r1 r2
      go_wp2_with fail
      refine bodyPost_ret (v := .agg #[.bool false, .slice none 0 0, .slice none 0 0]) (by simp [results, Try.results83, go_sem, r0, r1, r2]) rfl ⟨rfl, ?_⟩
      rw [hg1] at HB hwR ⊢
      exact ((HB.out.setCell hwR _).setCell hwR _).setCell hwR _
theorem ce_field0 (b : Bool) (A B : Option Addr) (n c m d : Nat) (w : World) : (Instr.field 100 (.agg #[.bool b, .slice A n c, .slice B m d]) 0).run Try.prog w = .ok (.bool b) w := by kernel_rfl
theorem equiv_any (v v2 : Value) (a b : Ci) (w : World) (h : CircAt w v (Cir.toCz a)) (h2 : CircAt w v2 (Cir.toCz b)) (ha : Cir.Ok a) (hb : Cir.Ok b) (hs : Cir.SameStep a b) :
    Calls Try.prog 31 #[v, v2] w fun e w' => e = .returned (.bool true) ∧ Below w.heap.size w w' := by
  have H1 := Lib.hid h
  have H2 := Lib.hid h2
  obtain ⟨An, cn, Ag, cg, Ao, co, e1⟩ := h.shape
  obtain ⟨Bn, dn, Bg, dg, Bo, d_o, e2⟩ := h2.shape
  subst e1 e2
  have hb1 := bel_new w (.cells #[.int .i64 (Cir.toCz a).ins, .slice An (Cir.toCz a).next.length cn, .slice Ag (Cir.toCz a).gates.length cg, .slice Ao (Cir.toCz a).outs.length co] 31)
  have P1 := PCells.boxed w (Cir.toCz a).ins (.slice An (Cir.toCz a).next.length cn) (.slice Ag (Cir.toCz a).gates.length cg) (.slice Ao (Cir.toCz a).outs.length co) 31
  obtain ⟨W1, hW1⟩ : ∃ W1, w.alloc (.cells #[.int .i64 (Cir.toCz a).ins, .slice An (Cir.toCz a).next.length cn, .slice Ag (Cir.toCz a).gates.length cg, .slice Ao (Cir.toCz a).outs.length co] 31) = W1 := ⟨_, rfl⟩
  rw [hW1] at hb1 P1
  have hb2 := bel_new W1 (.cells #[.int .i64 (Cir.toCz b).ins, .slice Bn (Cir.toCz b).next.length dn, .slice Bg (Cir.toCz b).gates.length dg, .slice Bo (Cir.toCz b).outs.length d_o] 31)
  have P2 := PCells.boxed W1 (Cir.toCz b).ins (.slice Bn (Cir.toCz b).next.length dn) (.slice Bg (Cir.toCz b).gates.length dg) (.slice Bo (Cir.toCz b).outs.length d_o) 31
  have P12 := P1.below hb2
  have HB2 := Lib.hid (hb1.trans (hb2.mono hb1.size))
  have HSI : Hid (∀ w', Below w.heap.size w w' → Calls Try.prog 82 #[.agg #[.int .i64 (Cir.toCz a).ins, .slice An (Cir.toCz a).next.length cn, .slice Ag (Cir.toCz a).gates.length cg, .slice Ao (Cir.toCz a).outs.length co], .agg #[.int .i64 (Cir.toCz b).ins, .slice Bn (Cir.toCz b).next.length dn, .slice Bg (Cir.toCz b).gates.length dg, .slice Bo (Cir.toCz b).outs.length d_o]] w' fun e w'' => e = .returned (.bool true) ∧ Below w'.heap.size w' w'') := Lib.hid fun w' hb' => sameInterface_any _ _ a b w' (H1.out.below hb') (H2.out.below hb') ha hb hs
  have HFD : Hid (∀ w', Below w.heap.size w w' → Calls Try.prog 83 #[.agg #[.int .i64 (Cir.toCz a).ins, .slice An (Cir.toCz a).next.length cn, .slice Ag (Cir.toCz a).gates.length cg, .slice Ao (Cir.toCz a).outs.length co], .agg #[.int .i64 (Cir.toCz b).ins, .slice Bn (Cir.toCz b).next.length dn, .slice Bg (Cir.toCz b).gates.length dg, .slice Bo (Cir.toCz b).outs.length d_o]] w' fun e w'' => e = .returned (.agg #[.bool false, .slice none 0 0, .slice none 0 0]) ∧ Below w'.heap.size w' w'') := Lib.hid fun w' hb' => findDiff_any _ _ a b w' (H1.out.below hb') (H2.out.below hb') ha hb hs
  have C1 := Lib.hid P12
  have C2 := Lib.hid P2
  obtain ⟨z1, p0, p1, p2, p3⟩ := P12
  obtain ⟨z2, q0, q1, q2, q3⟩ := P2
  clear h h2 ha hb hs H1 H2 hb1 hb2 P1
  go_enter Try.func31, Try.ntmps31
  go_wp2_with fail
  clear z1 p0 p1 p2 p3 z2 q0 q1 q2 q3
  generalize W1.alloc (.cells #[.int .i64 (Cir.toCz b).ins, .slice Bn (Cir.toCz b).next.length dn, .slice Bg (Cir.toCz b).gates.length dg, .slice Bo (Cir.toCz b).outs.length d_o] 31) = W2 at *
  refine (HSI.out W2 HB2.out).mono ?_
  rintro e w3 ⟨rfl, hb3⟩
  have HB3 := Lib.hid (HB2.out.trans (hb3.mono HB2.out.size))
  obtain ⟨z1, p0, p1, p2, p3⟩ := C1.out.below hb3
  obtain ⟨z2, q0, q1, q2, q3⟩ := C2.out.below hb3
  clear hb3
  go_wp2_with fail
  refine (HFD.out w3 HB3.out).mono ?_
  rintro e w4 ⟨rfl, hb4⟩
  have HB4 := Lib.hid (HB3.out.trans (hb4.mono HB3.out.size))
  have hf := ce_field0 false none none 0 0 0 0 w4
  clear hb4 z1 p0 p1 p2 p3 z2 q0 q1 q2 q3
  go_wp2_with fail
  go_ret
  exact ⟨rfl, HB4.out⟩
end Go.Proofs.Ytlbfejdbfhgifaa

namespace Go.Proofs.Ytlbfejdbfhgifaa
open Go.RowKit
set_option maxRecDepth 100000
/-! Hazards, by the program. -/
theorem append_haz {w : World} {ops : Array Oper} {rest : List Oper} {o : Oper} {a : Act} {Q : Exit → Act → World → Prop} (hgd : o.guard = none) (s x : Operand)
    (ho : o.op = .call { callee := .builtin .append, args := #[s, x], argTypes := #[27, 27] })
    (base : Nat) (v : Value) (n : Nat) (xs : List Value) (hs : a.eval s = v) (hown : w.ownsRow base 57 3 v n xs) (sv : Value) (m : Nat) (news : List Value) (hx : a.eval x = sv) (hr : Row w 3 sv m news) (h1 : ∀ u ∈ news, u.oneCell' = true)
    (h63 : n + m ≤ 10000000) (hbase : base ≤ w.heap.size)
    (h : ∀ v' w', w'.ownsRow base 57 3 v' (n + m) (xs ++ news) → w.grownBy w' v.ownBlock → (v'.ownBlock = v.ownBlock ∨ v'.ownBlock = some w.heap.size) → wpList Try.prog ops Q rest (a.put o.dst v') w') : wpList Try.prog ops Q (o :: rest) a w := by
  obtain ⟨i, hi, hz0, hz1, hz2⟩ := info_parts info_haz
  exact wpList_append_at hgd s x 27 ho base 57 i _ 3 24 Try.underlying27 hi hz0 hz1 hz2 rfl (by decide) v n xs hs hown sv m news hx hr h1 (by unfold maxLen; omega) (by omega) hbase h
theorem Only.aftH {E F : Nat → Prop} {a b c : World} (h : Only E a b) (h' : Only F b c) (hF : ∀ g, F g → a.heap.size ≤ g ∨ E g) : Only E a c :=
  ⟨h'.os.trans h.os, h'.tape.trans h.tape, h'.output.trans h.output, Nat.le_trans h.size h'.size, fun k hk hn => (h'.block k (Nat.lt_of_lt_of_le hk h.size) (fun hf => by
    rcases hF k hf with h1 | h1
    · omega
    · exact hn h1)).trans (h.block k hk hn)⟩
def OwnHaz (xs : List (Nat × Nat × Nat)) (w : World) (e : Ending) (w' : World) : Prop := ∃ v, e = .returned v ∧ w'.ownsRow w.heap.size 57 3 v xs.length (trips xs) ∧ Below w.heap.size w w'
namespace Cir
theorem tbits_terns (x n : Nat) : tbits x n = terns (bits x n) := rfl
theorem hzV_length (d : Ci) (x k : Nat) : (hzV d x k).length = nvars d := by
  unfold hzV
  refine tvals_length d ?_ ?_
  · rw [List.length_set, tbits_terns, terns_length, bits_length]
  · rw [tbits_terns, terns_length, bits_length]
theorem hzV_le (d : Ci) (x k : Nat) : ∀ t ∈ hzV d x k, t ≤ 2 := by
  unfold hzV
  refine tvals_le d (terns_le _) fun t ht => ?_
  rcases List.mem_or_eq_of_mem_set ht with h | h
  · exact terns_le _ t h
  · omega
theorem hzO_no {d : Ci} {x k o : Nat} (h : hz d x k o = false) : hzO d x k (o + 1) = hzO d x k o := by
  rw [hzO, h]; simp
theorem hzO_yes {d : Ci} {x k o : Nat} (h : hz d x k o = true) : hzO d x k (o + 1) = hzO d x k o ++ [(x, x + 2 ^ k, o)] := by
  rw [hzO, h]; simp
theorem hzK_skip {d : Ci} {x k : Nat} (h : x.testBit k = true) : hzK d x (k + 1) = hzK d x k := by
  rw [hzK, h]; simp
theorem hzK_all {d : Ci} {x k : Nat} (h : x.testBit k = false) : hzK d x (k + 1) = hzK d x k ++ hzO d x k d.outs.length := by
  rw [hzK, h]; simp
theorem outsA_get {d : Ci} {x o : Nat} (ho : o < d.outs.length) : (outsA d x)[o]? = some ((outsA d x).getD o false) := by
  rw [List.getD_eq_getElem?_getD, List.getElem?_eq_getElem (by rw [outsA_length]; exact ho)]
  rfl
theorem pow_small {k : Nat} (hk : k < 4) : 2 ^ k ≤ 8 := Nat.pow_le_pow_right (show 0 < 2 by decide) (show k ≤ 3 by omega)
end Cir
theorem bit_and (x k : Nat) (hx : x ≤ 1000000) : bits .and .i64 ((x / 2 ^ k : Nat) : Int) 1 = ((x / 2 ^ k % 2 : Nat) : Int) ∧ (((x / 2 ^ k % 2 : Nat) : Int) == 1) = x.testBit k ∧ (x : Int) / 2 ^ k = ((x / 2 ^ k : Nat) : Int) := by
  have hy : x / 2 ^ k ≤ 1000000 := Nat.le_trans (Nat.div_le_self _ _) hx
  refine ⟨?_, ?_, ?_⟩
  · have := i64_and_nat (x / 2 ^ k) 1 (by omega) (by omega)
    rw [Nat.and_one_is_mod] at this
    exact this
  · rw [Nat.testBit_eq_decide_div_mod_eq, Bool.eq_iff_iff, beq_iff_eq, decide_eq_true_iff]
    omega
  · rw [Int.natCast_ediv, two_pow]
set_option maxHeartbeats 16000000 in
theorem implHaz_ok (v : Value) (d : Ci) (w : World) (h : CircAt w v (Cir.toCz d)) (hd : Cir.Ok d) (hv : Cir.valid (Cir.toCz d) = true) :
    Calls Try.prog 13 #[v] w (OwnHaz (Cir.hazards d) w) := by
  have l1 := hd.ins
  have l2 := hd.nexts
  have l3 := hd.gatess
  have l4 := hd.outss
  have HC := Lib.hid h
  obtain ⟨vn, vg, vo, rfl, r1, r2, r3⟩ := h
  obtain ⟨Ao, co, rfl, hco, hcom⟩ := NatsAt.shape (xs := d.outs) r3
  have hins : (Cir.toCz d).ins = (d.ins : Int) := rfl
  have HP := Lib.hid (PCirc.boxed (c := Cir.toCz d) 31 r1 r2 r3)
  rw [hins] at HC HP ⊢
  have B0 := Lib.hid (bel_new w (.cells #[.int .i64 d.ins, vn, vg, .slice Ao d.outs.length co] 31))
  have PC := Lib.hid (PCells.boxed w d.ins vn vg (.slice Ao d.outs.length co) 31)
  have hsz : (w.alloc (.cells #[.int .i64 d.ins, vn, vg, .slice Ao d.outs.length co] 31)).heap.size = w.heap.size + 1 := by simp
  obtain ⟨z, p0, p1, p2, p3⟩ := PC.out
  have HC0 := Lib.hid (HC.out.below B0.out)
  have HV := Lib.hid (implValid_any _ _ _ HC0.out)
  rw [hv] at HV
  have HO := Lib.hid (show NatsAt (w.alloc (.cells #[.int .i64 d.ins, vn, vg, .slice Ao d.outs.length co] 31)) (.slice Ao d.outs.length co) d.outs from Row.below r3 B0.out)
  have Hd := Lib.hid hd
  obtain ⟨M, hM⟩ : ∃ M : Nat, M = 2 ^ (d.ins + d.next.length) := ⟨_, rfl⟩
  have hM128 : M ≤ 128 := by rw [hM]; exact Nat.pow_le_pow_right (show 0 < 2 by decide) (show _ ≤ 7 by omega)
  have HA : Hid (∀ w', Below (w.alloc (.cells #[.int .i64 d.ins, vn, vg, .slice Ao d.outs.length co] 31)).heap.size (w.alloc (.cells #[.int .i64 d.ins, vn, vg, .slice Ao d.outs.length co] 31)) w' → Calls Try.prog 48 #[.pointer (some ⟨w.heap.size, 0, none⟩)] w' fun e w'' => e = .returned (.int .i64 (M : Nat)) ∧ Below w'.heap.size w' w'') := Lib.hid fun w' hb => by
    rw [hM]
    exact assignments_any _ _ (d.ins + d.next.length) w' (HP.out.below hb) (by rw [toCz_next]; show (d.ins : Int) + _ = _; omega) (by omega)
  have HH : Hid (Cir.hazards d = Cir.hzX d M) := Lib.hid (by rw [hM]; rfl)
  have HLX := Lib.hid (fun x => Cir.hzX_len d hd x)
  have HLK := Lib.hid (fun x k => Cir.hzK_len d hd x k)
  rw [HH.out]
  clear r1 r2 r3 hd hins hv HC HC0 hco hcom hM HH
  go_enter Try.func13, Try.ntmps13
  go_wp2_with fail
  generalize w.alloc (.cells #[.int .i64 d.ins, vn, vg, .slice Ao d.outs.length co] 31) = W at *
  refine HV.out.mono ?_
  rintro e w1 ⟨rfl, hb1⟩
  have Hb1 := Lib.hid hb1
  have z1 := hb1.size
  clear hb1 p0 p1 p2 p3 z HV
  obtain ⟨z, p0, p1, p2, p3⟩ := PC.out.below Hb1.out
  go_wp2_with fail
  refine (HA.out _ Hb1.out).mono ?_
  rintro e w2 ⟨rfl, hb2⟩
  have Hb2 := Lib.hid (Hb1.out.trans (hb2.mono z1))
  have z2 := Nat.le_trans z1 hb2.size
  clear hb2 p0 p1 p2 p3 z HA Hb1 z1
  obtain ⟨z, p0, p1, p2, p3⟩ := PC.out.below Hb2.out
  go_wp2_with fail
  clear z p0 p1 p2 p3
  go_loopw [3, 17] (fun v i wr => ∃ (vv : Value) (x : Nat), vv = v ∧ i = .int .i64 x ∧ x ≤ M ∧ Hid (wr.ownsRow W.heap.size 57 3 v (Cir.hzX d x).length (trips (Cir.hzX d x))) ∧ Below W.heap.size W wr) (fun _ i _ => M - (intOf i).toNat)
  case atStart => exact ⟨_, 0, rfl, rfl, Nat.zero_le _, Lib.hid (World.ownsRow_nil _ _ _ _), Hb2.out⟩
  case round =>
    obtain ⟨vv, x, hvv, rfl, hx, Hl, hb⟩ := hrel
    subst hvv
    clear Hb2 z2
    have Hb := Lib.hid hb
    have zb := hb.size
    have PCr := Lib.hid (PC.out.below hb)
    clear hb
    obtain ⟨z, p0, p1, p2, p3⟩ := PCr.out
    by_cases hlx : x < M
    · have hdx : decide (x < M) = true := decide_eq_true hlx
      have HX1 : Hid (Cir.hzX d (x + 1) = Cir.hzX d x ++ Cir.hzK d x d.ins) := Lib.hid rfl
      have hX := HLX.out x
      obtain ⟨X, hXe⟩ : ∃ X, Cir.hzX d x = X := ⟨_, rfl⟩
      have Hl0 : Hid (wr.ownsRow W.heap.size 57 3 vv (X ++ Cir.hzK d x 0).length (trips (X ++ Cir.hzK d x 0))) := Lib.hid (by rw [← hXe]; show wr.ownsRow _ _ _ _ (Cir.hzX d x ++ []).length _; rw [List.append_nil]; rw [show Cir.hzX d x ++ Cir.hzK d x 0 = Cir.hzX d x from List.append_nil _]; exact Hl.out)
      rw [hXe] at HX1 hX
      clear Hl hXe
      go_wp2_with fail
      clear z p0 p1 p2 p3
      go_loopw [3, 22] (fun v i wr => ∃ (vv : Value) (k : Nat), vv = v ∧ i = .int .i64 k ∧ k ≤ d.ins ∧ Hid (wr.ownsRow W.heap.size 57 3 v (X ++ Cir.hzK d x k).length (trips (X ++ Cir.hzK d x k))) ∧ Below W.heap.size W wr) (fun _ i _ => d.ins - (intOf i).toNat)
      case atStart => exact ⟨_, 0, rfl, rfl, Nat.zero_le _, Hl0, Hb.out⟩
      case round =>
        obtain ⟨vv, k, hvv, rfl, hk, Hl, hb⟩ := hrel
        subst hvv
        clear Hl0 PCr Hb zb
        have Hb := Lib.hid hb
        have zb := hb.size
        have PCr := Lib.hid (PC.out.below hb)
        clear hb
        by_cases hlk : k < d.ins
        · have hdk : decide (k < d.ins) = true := decide_eq_true hlk
          obtain ⟨g1, g2, g3⟩ := bit_and x k (by omega)
          have Hor := Lib.hid (fun h => Cir.or_bit (x := x) (k := k) (by omega) (by omega) h)
          have hK := HLK.out x k
          have HKs := Lib.hid (fun h => Cir.hzK_skip (d := d) (x := x) (k := k) h)
          have HKa := Lib.hid (fun h => Cir.hzK_all (d := d) (x := x) (k := k) h)
          generalize x / 2 ^ k = y at g1 g2 g3
          generalize y % 2 = r at g1 g2
          cases hbit : x.testBit k
          · have HKn := Lib.hid (HKa.out hbit)
            have horN := Hor.out hbit
            rw [hbit] at g2
            have hp8 := Cir.pow_small (k := k) (by omega)
            obtain ⟨p, hp⟩ : ∃ p, 2 ^ k = p := ⟨_, rfl⟩
            have hpI : (2 : Int) ^ k = (p : Int) := by rw [← hp]; exact two_pow k
            rw [hpI] at g3
            rw [hp] at horN hp8
            have hwp := IntWalk.i64_in (p : Int) (by omega)
            have hor : bits .or .i64 (x : Int) (p : Int) = ((x + p : Nat) : Int) := by
              have := i64_or_nat x p (by omega) (by omega)
              rw [horN] at this
              exact this
            clear HKs HKa Hor hbit horN
            have HPk := Lib.hid (HP.out.below Hb.out)
            obtain ⟨Wk, hWk⟩ : ∃ Wk, Wk = wr := ⟨_, rfl⟩
            subst hWk
            go_wp2_with fail
            refine (inputBits_any _ _ d.ins x _ HPk.out rfl (by omega) (by omega)).mono ?_
            rintro e w2 ⟨v2, rfl, hown2, hb2⟩
            have Ho2 := Lib.hid (ownBools_at hown2)
            have Hb2 := Lib.hid hb2
            have z2 := hb2.size
            clear hown2 hb2
            go_wp2_with fail
            refine (ternaryOf_any _ _ _ Ho2.out (by rw [Cir.bits_length]; omega)).mono ?_
            rintro e w3 ⟨v3, rfl, hown3, hb3⟩
            have hlen3 : (nats (Cir.terns (Cir.bits x d.ins))).length = d.ins := by rw [nats_length, Cir.terns_length, Cir.bits_length]
            rw [hlen3] at hown3
            have Hb3 := Lib.hid (Hb2.out.trans (hb3.mono z2))
            have z3 := Nat.le_trans z2 hb3.size
            obtain ⟨g3b, c3, hv3, hg3b, hg3l, -⟩ := own_open hown3 (by omega)
            subst hv3
            obtain ⟨u3, _, hs3, hf3⟩ := own_slot hown3 (j := k) (by omega)
            have Ho3 := Lib.hid (hown3.stored k (.int .i64 2)).1
            have HT3 : Hid ((ints (nats (Cir.terns (Cir.bits x d.ins)))).set k (.int .i64 2) = nints ((Cir.tbits x d.ins).set k 2)) := Lib.hid (by
              unfold nints ints nats Cir.tbits Cir.terns
              simp [List.map_set])
            have hge : Wk.heap.size ≤ g3b := by omega
            clear hown3 hb3 hlen3 Ho2
            go_wp2_with fail
            have Hb4 := Lib.hid (Hb3.out.setCell (p := ⟨g3b, k, none⟩) hge (.int .i64 2))
            have z4 := Hb4.out.size
            have Ho4 := Lib.hid (show NatsAt (w3.setCell ⟨g3b, k, none⟩ (.int .i64 2)) (.slice (some ⟨g3b, 0, none⟩) d.ins c3) ((Cir.tbits x d.ins).set k 2) by
              have := Ho3.out
              rw [HT3.out] at this
              exact nats_own this (by rw [List.length_set]; unfold Cir.tbits; rw [List.length_map, Cir.bits_length]))
            clear Ho3 HT3 hs3 hf3 Hb2 Hb3
            generalize w3.setCell ⟨g3b, k, none⟩ (.int .i64 2) = w4 at *
            refine (latchBits_any _ _ d.ins d.next.length x _ (HPk.out.below Hb4.out) rfl (toCz_next d) (by omega) (by omega) (by omega)).mono ?_
            rintro e w5 ⟨v5, rfl, hown5, hb5⟩
            have Ho5 := Lib.hid (ownBools_at hown5)
            have Ho45 := Lib.hid (Row.below Ho4.out hb5)
            have Hb5 := Lib.hid (Hb4.out.trans (hb5.mono z4))
            have z5 := Nat.le_trans z4 hb5.size
            clear hown5 hb5 Ho4
            go_wp2_with fail
            refine (ternaryOf_any _ _ _ Ho5.out (by rw [Cir.bits_length]; omega)).mono ?_
            rintro e w6 ⟨v6, rfl, hown6, hb6⟩
            have Ho6 := Lib.hid (show NatsAt w6 v6 (Cir.tbits (x / 2 ^ d.ins) d.next.length) from Row.of_own hown6)
            have Ho46 := Lib.hid (Row.below Ho45.out hb6)
            have Hb6 := Lib.hid (Hb5.out.trans (hb6.mono z5))
            have z6 := Nat.le_trans z5 hb6.size
            clear hown6 hb6 Ho45 Ho5
            go_wp2_with fail
            refine (evalTernary_any _ d v6 _ (Cir.tbits (x / 2 ^ d.ins) d.next.length) ((Cir.tbits x d.ins).set k 2) _ (HPk.out.below Hb6.out) Hd.out Ho6.out Ho46.out (by rw [List.length_set]; unfold Cir.tbits; rw [List.length_map, Cir.bits_length]) (by unfold Cir.tbits; rw [List.length_map, Cir.bits_length]) (Cir.terns_le _) (fun t ht => by
              rcases List.mem_or_eq_of_mem_set ht with h | h
              · exact Cir.terns_le _ t h
              · omega)).mono ?_
            rintro e w7 ⟨v7, rfl, hown7, hb7⟩
            have Ho7 := Lib.hid (show RowIn (From Wk.heap.size) w7 1 v7 (nats (Cir.hzV d x k)).length (ints (nats (Cir.hzV d x k))) from (RowIn.of_own hown7).mono fun g hg => Nat.le_trans z6 hg.1)
            have Hb7 := Lib.hid (Hb6.out.trans (hb7.mono z6))
            have z7 := Nat.le_trans z6 hb7.size
            clear hown7 hb7 Ho46 Ho6
            go_wp2_with fail
            refine (outsAt_any _ d x _ (HPk.out.below Hb7.out) Hd.out (by omega)).mono ?_
            rintro e w8 ⟨⟨v8, rfl, ho8⟩, hb8⟩
            have Ho8 := Lib.hid (ho8.mono (F' := From Wk.heap.size) fun g hg => Nat.le_trans z7 hg)
            have Ho78 := Lib.hid (Ho7.out.below hb8)
            have Hb8 := Lib.hid (Hb7.out.trans (hb8.mono z7))
            have z8 := Nat.le_trans z7 hb8.size
            clear ho8 hb8 Ho7
            go_wp2_with fail
            refine (outsAt_any _ d (x + p) _ (HPk.out.below Hb8.out) Hd.out (by omega)).mono ?_
            rintro e w9 ⟨⟨v9, rfl, ho9⟩, hb9⟩
            have HA := Lib.hid (Ho8.out.below hb9)
            have HB := Lib.hid (ho9.mono (F' := From Wk.heap.size) fun g hg => Nat.le_trans z8 hg)
            have HT := Lib.hid (Ho78.out.below hb9)
            have Hb9 := Lib.hid (Hb8.out.trans (hb9.mono z8))
            have z9 := Nat.le_trans z8 hb9.size
            clear ho9 hb9 Ho8 Ho78 Hb8 Hb7 Hb6 Hb5 Hb4 z8 z7 z6 z5 z4 z3 z2
            have PC9 := Lib.hid (PCr.out.below Hb9.out)
            have HbW := Lib.hid (Hb.out.trans (Hb9.out.mono zb))
            have HO9 := Lib.hid ((RowIn.of_row (show Row W 1 (.slice Ao d.outs.length co) (nats d.outs).length (ints (nats d.outs)) from HO.out)).below HbW.out)
            have HP0 : Hid (∀ g, vv.ownBlock = some g → W.heap.size ≤ g ∧ (g < Wk.heap.size ∨ w9.heap.size ≤ g)) := Lib.hid fun g hg => ⟨(Hl.out.lt g hg).1, .inl (Hl.out.lt g hg).2⟩
            obtain ⟨z, p0, p1, p2, p3⟩ := PC9.out
            have hvl := Cir.hzV_length d x k
            have hvle := Lib.hid (Cir.hzV_le d x k)
            have hnv : Cir.nvars d ≤ 22 := by unfold Cir.nvars Cir.nfirst; omega
            obtain ⟨n0, hn0⟩ : ∃ n0, (X ++ Cir.hzK d x k).length = n0 := ⟨_, rfl⟩
            have hn0b : n0 ≤ 12 * x + 3 * k := by rw [← hn0, List.length_append]; omega
            have Hl0 : Hid (w9.ownsRow W.heap.size 57 3 vv ((X ++ Cir.hzK d x k) ++ Cir.hzO d x k 0).length (trips ((X ++ Cir.hzK d x k) ++ Cir.hzO d x k 0))) := Lib.hid (by
              rw [show (X ++ Cir.hzK d x k) ++ Cir.hzO d x k 0 = X ++ Cir.hzK d x k from List.append_nil _]
              exact own_below Hl.out Hb9.out)
            have HKn2 : Hid (X ++ Cir.hzK d x (k + 1) = (X ++ Cir.hzK d x k) ++ Cir.hzO d x k d.outs.length) := Lib.hid (by rw [HKn.out, List.append_assoc])
            have HZ : Hid (∀ o, Cir.hz d x k o = ((Cir.outsA d x).getD o false == (Cir.outsA d (x + p)).getD o false && Cir.tlit (Cir.hzV d x k) (d.outs.getD o 0) == 2)) := Lib.hid (fun o => by rw [← hp]; rfl)
            have HY : Hid (∀ o, Cir.hz d x k o = true → Cir.hzO d x k (o + 1) = Cir.hzO d x k o ++ [(x, x + p, o)]) := Lib.hid (fun o h => by rw [← hp]; exact Cir.hzO_yes h)
            have HNo : Hid (∀ o, Cir.hz d x k o = false → Cir.hzO d x k (o + 1) = Cir.hzO d x k o) := Lib.hid (fun o h => Cir.hzO_no h)
            have HLO := Lib.hid (fun o => Cir.hzO_len d x k o)
            generalize X ++ Cir.hzK d x k = Y at *
            generalize Cir.hzV d x k = V at *
            have HAl := Lib.hid (fun o (ho : o < d.outs.length) => Cir.outsA_get (d := d) (x := x) ho)
            have HBl := Lib.hid (fun o (ho : o < d.outs.length) => Cir.outsA_get (d := d) (x := x + p) ho)
            have hLA := Cir.outsA_length d x
            have hLB := Cir.outsA_length d (x + p)
            generalize Cir.outsA d x = OA at *
            generalize Cir.outsA d (x + p) = OB at *
            obtain ⟨A7, c7, e7, -, -⟩ := NatsAt.shape (xs := V) HT.out.1
            subst e7
            clear g1 g2 g3 hpI hwp hor hp hp8 HKn hK HPk hdk
            go_wp2_with fail
            clear z p0 p1 p2 p3
            go_loopw [3, 52] (fun v i wr => ∃ (vv : Value) (o : Nat), vv = v ∧ i = .int .i64 o ∧ o ≤ d.outs.length ∧ Hid (wr.ownsRow W.heap.size 57 3 v (Y ++ Cir.hzO d x k o).length (trips (Y ++ Cir.hzO d x k o))) ∧ Hid (∀ g, v.ownBlock = some g → W.heap.size ≤ g ∧ (g < Wk.heap.size ∨ w9.heap.size ≤ g)) ∧ Only (fun g => W.heap.size ≤ g ∧ g < Wk.heap.size) w9 wr) (fun _ i _ => d.outs.length - (intOf i).toNat)
            case atStart => exact ⟨_, 0, rfl, rfl, Nat.zero_le _, Hl0, HP0, Only.refl _ _⟩
            case round =>
              obtain ⟨uu, o, huu, rfl, ho, Hu, HP, hb⟩ := hrel
              subst huu
              clear Hl0
              have Hbo := Lib.hid hb
              have zo := hb.size
              clear hb
              by_cases hlo : o < d.outs.length
              · have hdo : decide (o < d.outs.length) = true := decide_eq_true hlo
                obtain ⟨bA, oA, cA, eA, hbA, hcA⟩ := boolsAt_cell (HA.out.only Hbo.out (fun g h e => Nat.lt_irrefl _ (Nat.lt_of_lt_of_le e.2 h))).1 (HAl.out o hlo)
                obtain ⟨bB, oB, cB, eB, hbB, hcB⟩ := boolsAt_cell (HB.out.only Hbo.out (fun g h e => Nat.lt_irrefl _ (Nat.lt_of_lt_of_le e.2 h))).1 (HBl.out o hlo)
                rw [hLA] at eA
                rw [hLB] at eB
                subst eA eB
                obtain ⟨b', o', l, rfl, hbl', hx0, hs0⟩ := nats_cell (nats_row (show NatsAt _ (.slice Ao d.outs.length co) d.outs from (HO9.out.only Hbo.out (fun g h e => Nat.lt_irrefl _ (Nat.lt_of_lt_of_le h e.1))).1)) rfl hlo
                have hl2 := Hd.out.out l (List.mem_of_getElem? hx0.out)
                have hgl : d.outs.getD o 0 = l := by rw [List.getD_eq_getElem?_getD, hx0.out]; rfl
                have HZo := Lib.hid (HZ.out o)
                rw [hgl] at HZo
                have hlO := HLO.out o
                have hlen : (Y ++ Cir.hzO d x k o).length ≤ n0 + 3 := by rw [List.length_append]; omega
                have ht2 := Cir.tlit_le hvle.out l
                have HTr := Lib.hid (show NatsAt wr (.slice A7 V.length c7) V from (HT.out.only Hbo.out (fun g h e => Nat.lt_irrefl _ (Nat.lt_of_lt_of_le e.2 h))).1)
                have ga := gw_cell hcA hbA
                have gb := gw_cell hcB hbB
                have gs := gw_cell hs0 hbl'
                have HTC : Hid (∀ n : GW wr, Calls Try.prog 54 #[.slice A7 (Cir.nvars d) c7, .int .i64 (l : Nat)] (gw n) fun e w' => e = .returned (.int .i64 (Cir.tlit V l : Nat)) ∧ gw n = w') := Lib.hid fun n => (by rw [← hvl]; exact ternaryLit_any _ V l (gw n) (Row.below HTr.out (gw_below n)) (by rw [hvl]; exact hl2) (by omega) hvle.out)
                obtain ⟨T, hTe⟩ : ∃ T, Cir.tlit V l = T := ⟨_, rfl⟩
                rw [hTe] at HTC HZo ht2
                clear hTe
                have HYo := Lib.hid (HY.out o)
                have HNoo := Lib.hid (HNo.out o)
                obtain ⟨ba, hba⟩ : ∃ ba, OA.getD o false = ba := ⟨_, rfl⟩
                rw [hba] at hcA ga HZo
                clear hba
                obtain ⟨bb, hbb⟩ : ∃ bb, OB.getD o false = bb := ⟨_, rfl⟩
                rw [hbb] at hcB gb HZo
                clear hbb
                clear hx0 hgl hl2 HZ HY HNo hlO
                rcases (Bool.eq_false_or_eq_true (ba == bb)).symm with hab | hab
                · have HR := Lib.hid (HNoo.out (hz_no1 HZo.out hab))
                  clear HYo HNoo HZo HTC
                  go_wp2_with fail
                  refine wp_region_grow (by kernel_rfl) (by kernel_rfl) ?_
                  repeat (go_big_quiet_step ((fail)))
                  refine wpQuiet_nil ?_
                  intro _ hw'
                  obtain ⟨nq, hw''⟩ := hw'
                  subst hw''
                  have hgq := gw_below nq
                  generalize gw nq = wq at *
                  clear nq
                  have Hb10 := Lib.hid (Hbo.out.trans (Only.of_below _ hgq))
                  have Hu10 := Lib.hid (own_below Hu.out hgq)
                  clear hgq ga gb gs hcA hcB hs0
                  go_wp2_with fail
                  go_roundw
                  case rel => exact ⟨_, o + 1, rfl, by go_num, by omega, Lib.hid (by rw [HR.out]; exact Hu10.out), HP, Hb10.out⟩
                  case measure => simp [intOf] <;> omega
                · by_cases hT : T = 2
                  · have HR := Lib.hid (HYo.out (hz_yes HZo.out hab (by rw [hT]; rfl)))
                    subst hT
                    clear HYo HNoo HZo
                    go_wp2_with fail
                    refine wp_region_grow (by kernel_rfl) (by kernel_rfl) ?_
                    repeat (go_big_quiet_step ((go_at_call 54; exact grow_same (HTC.out _))))
                    refine wpQuiet_nil ?_
                    intro _ hw'
                    obtain ⟨nq, hw''⟩ := hw'
                    subst hw''
                    have hgq := gw_below nq
                    generalize gw nq = wq at *
                    clear nq
                    have Hb10 := Lib.hid (Hbo.out.trans (Only.of_below _ hgq))
                    have Hu10 := Lib.hid (own_below Hu.out hgq)
                    have z10 := Nat.le_trans zo hgq.size
                    clear hgq ga gb gs hcA hcB hs0 HTC
                    have Hlit := Lib.hid (Row.of_own (World.ownsRow_lit (base := wq.heap.size) (e := 57) (size := 3) wq #[.int .i64 x, .int .i64 ((x + p : Nat) : Int), .int .i64 o] 1 (Nat.le_refl _) (by unfold maxLen; omega) rfl))
                    have HRt : Hid (trips (Y ++ Cir.hzO d x k (o + 1)) = trips (Y ++ Cir.hzO d x k o) ++ [.int .i64 x, .int .i64 ((x + p : Nat) : Int), .int .i64 o]) := Lib.hid (by rw [HR.out]; exact trips_snoc' _ _ _)
                    have HRl : Hid ((Y ++ Cir.hzO d x k (o + 1)).length = (Y ++ Cir.hzO d x k o).length + 1) := Lib.hid (by rw [HR.out]; exact len_snoc' _ _ _)
                    clear HR
                    obtain ⟨TY, hTY⟩ : ∃ TY, trips (Y ++ Cir.hzO d x k o) = TY := ⟨_, rfl⟩
                    rw [hTY] at HRt Hu10
                    clear hTY
                    obtain ⟨nY, hnY⟩ : ∃ nY, (Y ++ Cir.hzO d x k o).length = nY := ⟨_, rfl⟩
                    rw [hnY] at HRl Hu10 hlen
                    clear hnY
                    have hWq : W.heap.size ≤ wq.heap.size := by omega
                    go_wp2_with (at_builtin; refine append_haz rfl (.tmp 72) (.tmp 77) rfl W.heap.size _ nY TY rfl (Hu10.out.alloc _) _ 1 _ rfl Hlit.out (by simp [Value.oneCell']) (by omega) (by simp; omega) ?_; intro v7 w7 hown7 hg7 hat7; have Ho7 := Lib.hid hown7; have Hg7 := Lib.hid hg7; have Hat7 := Lib.hid hat7; clear hown7 hg7 hat7)
                    go_roundw
                    case rel => exact ⟨_, o + 1, rfl, by go_num, by omega, Lib.hid (by rw [HRt.out, HRl.out]; exact Ho7.out), Lib.hid (fun g hg => by
                      rcases Hat7.out with h | h
                      · exact HP.out g (h ▸ hg)
                      · rw [h] at hg
                        have h1 := Option.some.inj hg
                        rw [World.size_alloc] at h1
                        exact ⟨by omega, .inr (by omega)⟩), (Hb10.out.trans (Only.of_below _ (bel_new _ _))).aftH (Only.grown Hg7.out fun g hg => hg) (fun g hg => (HP.out g hg).2.elim (fun h => .inr ⟨(HP.out g hg).1, h⟩) .inl)⟩
                    case measure => simp [intOf] <;> omega
                  · have hT2 : (T == 2) = false := by simpa using hT
                    have hT3 : ((T : Int) == 2) = false := by simp; omega
                    have HR := Lib.hid (HNoo.out (hz_no2 HZo.out hT2))
                    clear HYo HNoo HZo hT hT2
                    go_wp2_with fail
                    refine wp_region_grow (by kernel_rfl) (by kernel_rfl) ?_
                    repeat (go_big_quiet_step ((go_at_call 54; exact grow_same (HTC.out _))))
                    refine wpQuiet_nil ?_
                    intro _ hw'
                    obtain ⟨nq, hw''⟩ := hw'
                    subst hw''
                    have hgq := gw_below nq
                    generalize gw nq = wq at *
                    clear nq
                    have Hb10 := Lib.hid (Hbo.out.trans (Only.of_below _ hgq))
                    have Hu10 := Lib.hid (own_below Hu.out hgq)
                    clear hgq ga gb gs hcA hcB hs0 HTC
                    go_wp2_with fail
                    go_roundw
                    case rel => exact ⟨_, o + 1, rfl, by go_num, by omega, Lib.hid (by rw [HR.out]; exact Hu10.out), HP, Hb10.out⟩
                    case measure => simp [intOf] <;> omega
              · obtain rfl : o = d.outs.length := by omega
                have hdo : decide (d.outs.length < d.outs.length) = false := decide_eq_false (by omega)
                go_wp2_with fail
                go_roundw
                case rel => exact ⟨_, k + 1, rfl, by go_num, by omega, Lib.hid (by rw [HKn2.out]; exact Hu.out), Only.below HbW.out Hbo.out HbW.out.size (fun k hk => hk.1)⟩
                case measure => simp [intOf] <;> omega
          · have HKn := Lib.hid (HKs.out hbit)
            rw [hbit] at g2
            clear HKs HKa Hor hbit
            go_wp2_with fail
            go_roundw
            case rel => exact ⟨_, k + 1, rfl, by go_num, by omega, Lib.hid (by rw [HKn.out]; exact Hl.out), Hb.out⟩
            case measure => simp [intOf] <;> omega
        · obtain rfl : k = d.ins := by omega
          have hdk : decide (d.ins < d.ins) = false := decide_eq_false (by omega)
          go_wp2_with fail
          go_roundw
          case rel => exact ⟨_, x + 1, rfl, by go_num, by omega, Lib.hid (by rw [HX1.out]; exact Hl.out), Hb.out⟩
          case measure => simp [intOf] <;> omega
    · obtain rfl : x = M := by omega
      have hdx : decide (x < x) = false := decide_eq_false (by omega)
      go_wp2_with fail
      go_ret
      exact ⟨_, rfl, own_mono Hl.out (by omega), B0.out.trans (Hb.out.mono B0.out.size)⟩
theorem implHaz_no (v : Value) (c : Cz) (w : World) (h : CircAt w v c) (hv : Cir.valid c = false) :
    Calls Try.prog 13 #[v] w (OwnHaz [] w) := by
  have HC := Lib.hid h
  obtain ⟨vn, vg, vo, rfl, r1, r2, r3⟩ := h
  have B0 := Lib.hid (bel_new w (.cells #[.int .i64 c.ins, vn, vg, vo] 31))
  obtain ⟨z, p0, p1, p2, p3⟩ := PCells.boxed w c.ins vn vg vo 31
  have HV := Lib.hid (implValid_any _ _ _ (HC.out.below B0.out))
  rw [hv] at HV
  clear r1 r2 r3 hv HC
  go_enter Try.func13, Try.ntmps13
  go_wp2_with fail
  refine HV.out.mono ?_
  rintro e w1 ⟨rfl, hb1⟩
  have B1 := Lib.hid (B0.out.trans (hb1.mono B0.out.size))
  clear hb1
  go_wp2_with fail
  go_ret
  exact ⟨_, rfl, World.ownsRow_nil _ _ _ _, B1.out⟩
def Cir.hazI (c : Cz) : List (Nat × Nat × Nat) := if Cir.valid c then Cir.hazards (Cir.nat c) else []
theorem implHaz_any (v : Value) (c : Cz) (w : World) (h : CircAt w v c) :
    Calls Try.prog 13 #[v] w (OwnHaz (Cir.hazI c) w) := by
  cases hv : Cir.valid c
  · rw [show Cir.hazI c = [] from by unfold Cir.hazI; rw [hv]; rfl]
    exact implHaz_no v c w h hv
  · rw [show Cir.hazI c = Cir.hazards (Cir.nat c) from by unfold Cir.hazI; rw [hv]; rfl]
    obtain ⟨d1, d2⟩ := Cir.nat_ok hv
    exact implHaz_ok v (Cir.nat c) w (by rw [← d1]; exact h) d2 (by rw [← d1]; exact hv)
end Go.Proofs.Ytlbfejdbfhgifaa

namespace Go.Proofs.Ytlbfejdbfhgifaa
open Go.RowKit
set_option maxRecDepth 100000
/-! Reachable, by the program. -/
def Cir.reachI (c : Cz) : List Int := if Cir.valid c then nats (Cir.reach (Cir.nat c)) else []
theorem own_no_map {w : World} {B n size b m : Nat} {e : TypeId} {v : Value} {cs : List Value} {S : Nat → Bool} (h : w.ownsRow B e size v n cs) (hs : SetAt w b m S) : ¬ v.ownBlock = some b := by
  rintro hv
  obtain ⟨D, ⟨es, clock, h1, _⟩, _⟩ := hs
  rcases h.2 with ⟨rfl, _⟩ | ⟨g, cap, cur, rfl, _, h2, _⟩
  · simp [Value.ownBlock] at hv
  · simp [Value.ownBlock] at hv
    subst hv
    rw [h1] at h2
    cases h2
set_option maxHeartbeats 4000000 in
theorem implReach_ok (v : Value) (d : Ci) (w : World) (h : CircAt w v (Cir.toCz d)) (hd : Cir.Ok d) (hv : Cir.valid (Cir.toCz d) = true) :
    Calls Try.prog 85 #[v] w (OwnInts (nats (Cir.reach d)) w) := by
  have l1 := hd.ins
  have l2 := hd.nexts
  have HC := Lib.hid h
  obtain ⟨vn, vg, vo, rfl, r1, r2, r3⟩ := h
  have hins : (Cir.toCz d).ins = (d.ins : Int) := rfl
  have HP := Lib.hid (PCirc.boxed (c := Cir.toCz d) 31 r1 r2 r3)
  rw [hins] at HC HP ⊢
  have B0 := Lib.hid (bel_new w (.cells #[.int .i64 d.ins, vn, vg, vo] 31))
  have hsz : (w.alloc (.cells #[.int .i64 d.ins, vn, vg, vo] 31)).heap.size = w.heap.size + 1 := by simp
  obtain ⟨z, p0, p1, p2, p3⟩ := PCells.boxed w d.ins vn vg vo 31
  have HV := Lib.hid (implValid_any _ _ _ (HC.out.below B0.out))
  rw [hv] at HV
  have Hd := Lib.hid hd
  obtain ⟨M, e, hM⟩ : ∃ M : Nat, (2 : Int) ^ d.ins = (M : Int) ∧ M = 2 ^ d.ins := ⟨2 ^ d.ins, two_pow d.ins, rfl⟩
  have hM16 : M ≤ 16 := by rw [hM]; exact Nat.pow_le_pow_right (show 0 < 2 by decide) l1
  have hwM := IntWalk.i64_in (M : Int) (by omega)
  have HM := Lib.hid hM
  have hmm := @run_makeMap Try.prog
  clear r1 r2 r3 hd hins hM hv HC
  go_enter Try.func85, Try.ntmps85
  go_wp2_with fail
  generalize w.alloc (.cells #[.int .i64 d.ins, vn, vg, vo] 31) = W at *
  refine HV.out.mono ?_
  rintro e w1 ⟨rfl, hb1⟩
  have B1 := Lib.hid (B0.out.trans (hb1.mono B0.out.size))
  have HP1 := Lib.hid (HP.out.below hb1)
  have q0 := (hb1.cell (p := ⟨w.heap.size, 0, none⟩) z).trans p0
  have z1 := hb1.size
  clear hb1 p0 p1 p2 p3 HV HP
  have Hset0 : Hid (SetAt ((w1.alloc (.cells #[.int .i64 0] 3)).alloc (.map #[] 0)) (w1.heap.size + 1) 0 (fun _ => false)) := Lib.hid (by have := setAt_made (w1.alloc (.cells #[.int .i64 0] 3)); rwa [World.size_alloc] at this)
  have Hlit : Hid (((w1.alloc (.cells #[.int .i64 0] 3)).alloc (.map #[] 0)).ownsRow w1.heap.size 3 1 (.slice (some ⟨w1.heap.size, 0, none⟩) 1 1) 1 [.int .i64 0]) := Lib.hid ((World.ownsRow_lit (base := w1.heap.size) (e := 3) (size := 1) w1 #[.int .i64 0] 1 (Nat.le_refl _) (by unfold maxLen; omega) rfl).alloc _)
  have hs1 : (w1.alloc (.cells #[.int .i64 0] 3)).heap.size = w1.heap.size + 1 := by simp
  have Bm : Hid (Below w1.heap.size w1 ((w1.alloc (.cells #[.int .i64 0] 3)).alloc (.map #[] 0))) := Lib.hid (((Below.refl _ _).alloc (Nat.le_refl _) _).alloc (by simp) _)
  go_wp2_with (with_reducible refine wpList_add_set _ rfl (.tmp 13) _ _ (.inr rfl) _ _ _ rfl Hset0.out (by omega) 0 (by omega) rfl rfl ?_; intro w2 hset2 hg2)
  have Hset2 := Lib.hid (hset2.congr (S' := fun x => Cir.memB [0] x) (fun x => by rw [Cir.memB_zero, Bool.false_or]))
  have Ho2 := Lib.hid (own_kept Hlit.out hg2 (fun g hg e => own_no_map Hlit.out Hset0.out (hg.trans e.symm)))
  have B2 := Lib.hid (Bm.out.grown hg2 Bm.out.size (fun q hq => by have := Option.some.inj hq; omega))
  clear hset2 hg2 Hset0 Hlit Bm hmm
  have hR0 : Hid (Cir.reach d = Cir.bfs d (9 - 0) 0 [0]) := Lib.hid rfl
  generalize Cir.reach d = res at *
  go_wp2_with fail
  go_loopw [3, 5] (fun v i wr => ∃ (vv : Value) (k m : Nat) (l : List Nat), vv = v ∧ i = .int .i64 k ∧ k ≤ l.length ∧ l.length ≤ 8 ∧ m ≤ 300 ∧ Hid (Cir.Sts d l) ∧ Hid (res = Cir.bfs d (9 - k) k l) ∧ Hid (wr.ownsRow w1.heap.size 3 1 v l.length (nints l)) ∧ Hid (SetAt wr (w1.heap.size + 1) m (fun x => Cir.memB l x)) ∧ m ≤ 1 + k * 16 ∧ Below w1.heap.size w1 wr) (fun v i _ => 8 - (intOf i).toNat)
  case atStart => exact ⟨_, 0, 1, [0], rfl, rfl, by simp, by simp, by omega, Lib.hid (Cir.Sts.zero d), hR0, Ho2, Lib.hid (Hset2.out.mono (by omega)), by omega, B2.out⟩
  case round =>
    obtain ⟨vv, k, m, l, hvv, rfl, hk, hl8, hm3, Hst, hres, Ho, Hs, hm16, hb⟩ := hrel
    subst hvv
    clear Ho2 Hset2 B2 hR0
    obtain ⟨A, c, rfl, hc, hcm⟩ := NatsAt.shape (own_nats Ho.out)
    unfold maxLen at hcm
    have Hb := Lib.hid hb
    have hzb := hb.size
    have c0 := (hb.cell (p := ⟨w.heap.size, 0, none⟩) (show w.heap.size < w1.heap.size by omega)).trans q0
    clear hb
    by_cases hlt : k < l.length
    · obtain ⟨s, hs⟩ := at_some hlt
      have hs8 : s < 8 := by
        have h1 := Hst.out.lt s (List.mem_of_getElem? hs)
        have h2 : 2 ^ d.next.length ≤ 2 ^ 3 := Nat.pow_le_pow_right (show 0 < 2 by decide) l2
        omega
      have Hstep := Lib.hid (Cir.bfs_step (c := d) (f := 9 - (k + 1)) hs)
      have hf : 9 - k = 9 - (k + 1) + 1 := by omega
      rw [hf] at hres
      have Hgs := Lib.hid hs
      have hdl : decide (k < l.length) = true := decide_eq_true hlt
      clear hs hf
      go_wp2_with fail
      obtain ⟨Wk, hWk⟩ : ∃ Wk, Wk = wr := ⟨_, rfl⟩
      subst hWk
      go_loopw [3, 24] (fun v i wr => ∃ (vv : Value) (j q : Nat), vv = v ∧ i = .int .i64 j ∧ j ≤ M ∧ q ≤ m + j ∧ Hid (wr.ownsRow w1.heap.size 3 1 v (Cir.pushes d s j l).length (nints (Cir.pushes d s j l))) ∧ Hid (SetAt wr (w1.heap.size + 1) q (fun x => Cir.memB (Cir.pushes d s j l) x)) ∧ Below w1.heap.size w1 wr) (fun v i _ => M - (intOf i).toNat)
      case atStart => exact ⟨_, 0, m, rfl, rfl, Nat.zero_le _, by omega, Ho, Hs, Hb.out⟩
      case round =>
        obtain ⟨vv, j, q, hvv, rfl, hj, hq, Ho, Hs, hb⟩ := hrel
        subst hvv
        clear c0
        have Hb := Lib.hid hb
        have hzb := hb.size
        have c0 := (hb.cell (p := ⟨w.heap.size, 0, none⟩) (show w.heap.size < w1.heap.size by omega)).trans q0
        have Hst2 := Lib.hid (Hst.out.pushes s j)
        have hL8 := Hst2.out.len Hd.out
        have Hgj := Lib.hid (Cir.pushes_get (c := d) (s := s) (j := j) Hgs.out)
        have Hsu := Lib.hid (Cir.pushes_succ d s j l)
        by_cases hlj : j < M
        · obtain ⟨L2, hL2⟩ : ∃ L2, Cir.pushes d s (j + 1) l = L2 := ⟨_, rfl⟩
          rw [hL2] at Hsu
          have HL2 := Lib.hid hL2
          clear hL2
          generalize Cir.pushes d s j l = L at *
          obtain ⟨A, c, rfl, hc, hcm⟩ := NatsAt.shape (own_nats Ho.out)
          unfold maxLen at hcm
          have hkL : k < L.length := (List.getElem?_eq_some_iff.1 Hgj.out).1
          obtain ⟨b, o, s', rfl, hbl, hx0, hs0⟩ := nats_cell (nats_row (own_nats Ho.out)) rfl hkL
          obtain rfl : s' = s := Option.some.inj (hx0.out.symm.trans Hgj.out)
          clear hb
          go_wp2_with fail
          refine (cycle_any w.heap.size d s' j _ (HP1.out.below Hb.out) Hd.out (by omega) (by omega)).mono ?_
          rintro e w5 ⟨rfl, hb5⟩
          have Hb5 := Lib.hid (Hb.out.trans (hb5.mono hzb))
          have Ho5 := Lib.hid (own_below Ho.out hb5)
          have Hs5 := Lib.hid (Hs.out.below hb5)
          have hz5 := hb5.size
          have hN8 : Cir.nextOf d s' j < 8 := by
            have h1 := Cir.nextOf_lt d s' j
            have h2 : 2 ^ d.next.length ≤ 2 ^ 3 := Nat.pow_le_pow_right (show 0 < 2 by decide) l2
            omega
          clear hb5 Ho Hs c0 hs0
          generalize Cir.nextOf d s' j = N at *
          generalize Cir.num (Cir.outsOf d s' j) = On at *
          cases hc : Cir.memB L N
          · have HP := Lib.hid (Cir.push_no hc)
            go_wp2_with (first
              | (at_lookup; refine wpList_look_set _ rfl (.tmp 36) (.tmp 37) rfl _ _ _ rfl Hs5.out N (by omega) rfl ?_)
              | (at_mapUpdate; refine wpList_add_set _ rfl (.tmp 40) (.tmp 41) _ (.inl rfl) _ _ _ rfl Hs5.out (by omega) N (by omega) rfl rfl ?_; intro w6 hset6 hg6; have Hset6 := Lib.hid (hset6.congr (S' := fun x => Cir.memB (L ++ [N]) x) (fun x => by rw [Cir.memB_snoc])); have Ho6 := Lib.hid (own_kept Ho5.out hg6 (fun g hg e => own_no_map Ho5.out Hs5.out (hg.trans e.symm))); have Hb6 := Lib.hid (Hb5.out.grown hg6 Hb5.out.size (fun q hq => by have := Option.some.inj hq; omega)); have hz6 := hg6.size; have Hlit := Lib.hid (Row.of_own (World.ownsRow_lit (base := w6.heap.size) (e := 3) (size := 1) w6 #[.int .i64 N] 1 (Nat.le_refl _) (by unfold maxLen; omega) rfl)); clear hset6 hg6)
              | (at_builtin; refine append_ints rfl (.tmp 42) (.tmp 44) rfl w1.heap.size _ L.length (nints L) rfl (Ho6.out.alloc _) _ 1 [.int .i64 N] rfl Hlit.out (by simp [Value.oneCell']) (by omega) (by simp; omega) ?_; intro v7 w7 hown7 hg7 hat7; have Ho7 := Lib.hid hown7; have Hset7 := Lib.hid ((Hset6.out.below (bel_new w6 (.cells #[.int .i64 N] 3))).only (Only.grown (E := fun g => some g = (Value.slice (some ⟨b, o, none⟩) L.length c).ownBlock) hg7 (fun k hk => hk.symm)) (fun hq => own_no_map Ho6.out Hset6.out hq.symm)); have Hg7 := Lib.hid hg7; clear hown7 hg7 hat7))
            go_roundw
            case rel => exact ⟨_, j + 1, q + 1, rfl, by go_num, by omega, by omega, Lib.hid (by rw [HL2.out, Hsu.out, HP.out, nints_snoc, List.length_append]; exact Ho7.out), Lib.hid (by rw [HL2.out, Hsu.out, HP.out]; exact Hset7.out), (Hb6.out.alloc Hb6.out.size _).grown Hg7.out (Hb6.out.alloc Hb6.out.size _).size (own_ge0 Ho6.out)⟩
            case measure => simp [intOf] <;> omega
          · have HP := Lib.hid (Cir.push_yes hc)
            go_wp2_with (first
              | (at_lookup; refine wpList_look_set _ rfl (.tmp 36) (.tmp 37) rfl _ _ _ rfl Hs5.out N (by omega) rfl ?_))
            go_roundw
            case rel => exact ⟨_, j + 1, q, rfl, by go_num, by omega, by omega, Lib.hid (by rw [HL2.out, Hsu.out, HP.out]; exact Ho5.out), Lib.hid (by rw [HL2.out, Hsu.out, HP.out]; exact Hs5.out), Hb5.out⟩
            case measure => simp [intOf] <;> omega
        · obtain rfl : j = M := by omega
          have HMr : Hid (res = Cir.bfs d (9 - (k + 1)) (k + 1) (Cir.pushes d s j l)) := Lib.hid (by rw [hres.out, Hstep.out, HM.out])
          have Hlk := Lib.hid (show k + 1 ≤ (Cir.pushes d s j l).length by have := (List.getElem?_eq_some_iff.1 Hgj.out).1; omega)
          clear hb
          generalize Cir.pushes d s j l = L at *
          go_wp2_with fail
          go_roundw
          case rel => exact ⟨_, k + 1, q, L, rfl, by go_num, Hlk.out, hL8, by omega, Hst2, HMr, Ho, Hs, by omega, Hb.out⟩
          case measure => simp [intOf] <;> omega
    · obtain rfl : k = l.length := by omega
      have hr : res = l := by rw [hres.out, Cir.bfs_end]
      go_wp2_with fail
      go_ret
      exact ⟨_, rfl, by rw [hr, nats_length]; exact own_mono Ho.out (by omega), B1.out.trans (Hb.out.mono B1.out.size)⟩
end Go.Proofs.Ytlbfejdbfhgifaa

namespace Go.Proofs.Ytlbfejdbfhgifaa
open Go.RowKit
set_option maxRecDepth 100000
/-! Reachable, by the reference; both, for all circuits. -/
theorem implReach_any (v : Value) (c : Cz) (w : World) (h : CircAt w v c) :
    Calls Try.prog 85 #[v] w (OwnInts (Cir.reachI c) w) := by
  cases hv : Cir.valid c
  · have HC := Lib.hid h
    obtain ⟨vn, vg, vo, rfl, -⟩ := h
    have B0 := Lib.hid (bel_new w (.cells #[.int .i64 c.ins, vn, vg, vo] 31))
    obtain ⟨z, p0, p1, p2, p3⟩ := PCells.boxed w c.ins vn vg vo 31
    have HV := Lib.hid (implValid_any _ _ _ (HC.out.below B0.out))
    rw [hv] at HV
    have HR : Hid (Cir.reachI c = []) := Lib.hid (by unfold Cir.reachI; rw [hv]; rfl)
    clear hv HC
    go_enter Try.func85, Try.ntmps85
    go_wp2_with fail
    refine HV.out.mono ?_
    rintro e w1 ⟨rfl, hb1⟩
    have B := Lib.hid (B0.out.trans (hb1.mono B0.out.size))
    clear hb1
    go_wp2_with fail
    go_ret
    rw [HR.out]
    exact own_nil _ _ B.out
  · obtain ⟨d1, d2⟩ := Cir.nat_ok hv
    have hr : Cir.reachI c = nats (Cir.reach (Cir.nat c)) := by unfold Cir.reachI; rw [hv]; rfl
    rw [hr]
    exact implReach_ok v (Cir.nat c) w (by rw [← d1]; exact h) d2 (by rw [← d1]; exact hv)
end Go.Proofs.Ytlbfejdbfhgifaa

namespace Go.Proofs.Ytlbfejdbfhgifaa
open Go.RowKit
set_option maxRecDepth 100000
/-! The place of a number in a list. -/
def idxFrom : Nat → List Nat → Nat → Int
  | _, [], _ => -1
  | k, x :: l, n => if x = n then (k : Int) else idxFrom (k + 1) l n
def idxOf (l : List Nat) (n : Nat) : Int := idxFrom 0 l n
theorem idxFrom_drop {l : List Nat} {k x : Nat} (h : l[k]? = some x) (n : Nat) : idxFrom k (l.drop k) n = if x = n then (k : Int) else idxFrom (k + 1) (l.drop (k + 1)) n := by
  obtain ⟨hk, rfl⟩ := List.getElem?_eq_some_iff.1 h
  rw [List.drop_eq_getElem_cons hk, idxFrom]
theorem idxFrom_cases : ∀ (l : List Nat) (k n : Nat), (idxFrom k l n = -1 ∧ n ∉ l) ∨ ∃ i, idxFrom k l n = ((k + i : Nat) : Int) ∧ l[i]? = some n ∧ ∀ j, j < i → l[j]? ≠ some n
  | [], k, n => .inl ⟨rfl, by simp⟩
  | x :: l, k, n => by
    rw [idxFrom]
    by_cases h : x = n
    · subst h
      exact .inr ⟨0, by simp, by simp, fun j hj => by omega⟩
    · rw [if_neg h]
      rcases idxFrom_cases l (k + 1) n with ⟨h1, h2⟩ | ⟨i, h1, h2, h3⟩
      · exact .inl ⟨h1, by simp [Ne.symm h, h2]⟩
      · refine .inr ⟨i + 1, by rw [h1]; congr 1; omega, by simpa using h2, fun j hj => ?_⟩
        cases j with
        | zero => simpa using h
        | succ j => simpa using h3 j (by omega)
theorem idxOf_mem {l : List Nat} {n : Nat} (h : n ∈ l) : ∃ i : Nat, idxOf l n = i ∧ l[i]? = some n ∧ ∀ j, j < i → l[j]? ≠ some n := by
  rcases idxFrom_cases l 0 n with ⟨_, h2⟩ | ⟨i, h1, h2, h3⟩
  · exact absurd h h2
  · exact ⟨i, by unfold idxOf; rw [h1, Nat.zero_add], h2, h3⟩
theorem idxOf_not {l : List Nat} {n : Nat} (h : n ∉ l) : idxOf l n = -1 := by
  rcases idxFrom_cases l 0 n with ⟨h1, _⟩ | ⟨i, _, h2, _⟩
  · exact h1
  · exact absurd (List.mem_of_getElem? h2) h
theorem idxOf_lo (l : List Nat) (n : Nat) : -1 ≤ idxOf l n ∧ idxOf l n < l.length := by
  by_cases h : n ∈ l
  · obtain ⟨i, h1, h2, _⟩ := idxOf_mem h
    have := (List.getElem?_eq_some_iff.1 h2).1
    omega
  · rw [idxOf_not h]; omega
theorem index_any (v : Value) (xs : List Nat) (n : Nat) (w : World) (h : NatsAt w v xs) (hn : n ≤ 1000000) :
    Calls Try.prog 67 #[v, .int .i64 n] w fun e w' => e = .returned (.int .i64 (idxOf xs n)) ∧ w = w' := by
  obtain ⟨A, c, rfl, hc, hcm⟩ := h.shape
  unfold maxLen at hcm
  have H := Lib.hid h
  have h0 : Hid (idxOf xs n = idxFrom 0 (xs.drop 0) n) := Lib.hid rfl
  generalize idxOf xs n = res at h0 ⊢
  clear h
  go_enter Try.func67, Try.ntmps67
  go_wp2_with fail
  go_loop [8] (fun i => ∃ k : Nat, k ≤ xs.length ∧ i = .int .i64 k ∧ Hid (res = idxFrom k (xs.drop k) n)) (fun i => xs.length - (intOf i).toNat)
  case atStart => exact ⟨0, Nat.zero_le _, rfl, h0⟩
  case round =>
    obtain ⟨k, hk, rfl, hres⟩ := hrel
    clear h0
    by_cases hlt : k < xs.length
    · obtain ⟨b, o, x, rfl, hbl, hx, hs1⟩ := nats_cell (nats_row H.out) rfl hlt
      have Hstep := Lib.hid (idxFrom_drop hx.out n)
      by_cases hxn : x = n
      · have hr : res = (k : Int) := by rw [hres.out, Hstep.out, if_pos hxn]
        have hq : ((n : Int) == (x : Int)) = true := by simp [hxn]
        subst hr
        clear hxn
        go_wp2_with fail
        go_ret
        exact ⟨rfl, rfl⟩
      · have Hn : Hid (res = idxFrom (k + 1) (xs.drop (k + 1)) n) := Lib.hid (by rw [hres.out, Hstep.out, if_neg hxn])
        have hq : ((n : Int) == (x : Int)) = false := by simp; omega
        clear hxn
        go_wp2_with fail
        go_round
        case rel => exact ⟨k + 1, by omega, by go_num, Hn⟩
        case measure => simp [intOf] <;> omega
    · have hr : res = -1 := by rw [hres.out, List.drop_eq_nil_of_le (by omega : xs.length ≤ k)]; rfl
      subst hr
      go_wp2_with fail
      go_ret
      exact ⟨rfl, rfl⟩
theorem l29At_any (v : Value) (xs : List Nat) (n : Nat) (w : World) (h : NatsAt w v xs) (hn : n ≤ 1000000) :
    Calls Try.prog 63 #[v, .int .i64 n] w fun e w' => e = .returned (.int .i64 (idxOf xs n)) ∧ w = w' := by
  obtain ⟨A, c, rfl, hc, hcm⟩ := h.shape
  unfold maxLen at hcm
  have H := Lib.hid h
  have h0 : Hid (idxOf xs n = idxFrom 0 (xs.drop 0) n) := Lib.hid rfl
  generalize idxOf xs n = res at h0 ⊢
  clear h
  go_enter Try.func63, Try.ntmps63
  go_wp2_with fail
  go_loop [5] (fun i => ∃ k : Nat, k ≤ xs.length ∧ i = .int .i64 k ∧ Hid (res = idxFrom k (xs.drop k) n)) (fun i => xs.length - (intOf i).toNat)
  case atStart => exact ⟨0, Nat.zero_le _, rfl, h0⟩
  case round =>
    obtain ⟨k, hk, rfl, hres⟩ := hrel
    clear h0
    by_cases hlt : k < xs.length
    · obtain ⟨b, o, x, rfl, hbl, hx, hs1⟩ := nats_cell (nats_row H.out) rfl hlt
      have Hstep := Lib.hid (idxFrom_drop hx.out n)
      by_cases hxn : x = n
      · have hr : res = (k : Int) := by rw [hres.out, Hstep.out, if_pos hxn]
        have hq : ((x : Int) == (n : Int)) = true := by simp [hxn]
        subst hr
        clear hxn
        go_wp2_with fail
        go_ret
        exact ⟨rfl, rfl⟩
      · have Hn : Hid (res = idxFrom (k + 1) (xs.drop (k + 1)) n) := Lib.hid (by rw [hres.out, Hstep.out, if_neg hxn])
        have hq : ((x : Int) == (n : Int)) = false := by simp; omega
        clear hxn
        go_wp2_with fail
        go_round
        case rel => exact ⟨k + 1, by omega, by go_num, Hn⟩
        case measure => simp [intOf] <;> omega
    · have hr : res = -1 := by rw [hres.out, List.drop_eq_nil_of_le (by omega : xs.length ≤ k)]; rfl
      subst hr
      go_wp2_with fail
      go_ret
      exact ⟨rfl, rfl⟩
end Go.Proofs.Ytlbfejdbfhgifaa

namespace Go.Proofs.Ytlbfejdbfhgifaa
open Go.RowKit
set_option maxRecDepth 100000
/-! The rows of a machine, by the program. -/
namespace Cir
def rowN (d : Ci) (s : Nat) : List Nat := (List.range (2 ^ d.ins)).map (nextOf d s)
def rowO (d : Ci) (s : Nat) : List Nat := (List.range (2 ^ d.ins)).map fun x => num (outsOf d s x)
def rowI (d : Ci) (s : Nat) : List Int := (rowN d s).map (idxOf (reach d))
/-- The machine of a circuit. -/
def machN (d : Ci) : Mz := { ins := d.ins, next := (reach d).map (rowI d), out := (reach d).map fun s => nats (rowO d s) }
def machI (c : Cz) : Mz := if valid c then machN (nat c) else { ins := 0, next := [], out := [] }
end Cir
/-- Two rows of the call's own, apart. -/
def OwnTwo (xs ys : List Int) (w : World) (e : Ending) (w' : World) : Prop := ∃ a b, e = .returned (.tuple #[a, b]) ∧ w'.ownsRow w.heap.size 3 1 a xs.length (ints xs) ∧ w'.ownsRow w.heap.size 3 1 b ys.length (ints ys) ∧ Apart a b ∧ Below w.heap.size w w'
set_option maxHeartbeats 8000000 in
theorem stateRows_any (g : Nat) (d : Ci) (s : Nat) (w : World) (h : PCirc w g (Cir.toCz d)) (hd : Cir.Ok d) (hs : s ≤ 1000) :
    Calls Try.prog 86 #[.pointer (some ⟨g, 0, none⟩), .int .i64 s] w (OwnTwo (nats (Cir.rowN d s)) (nats (Cir.rowO d s)) w) := by
  have l1 := hd.ins
  have HP := Lib.hid h
  obtain ⟨vn, vg, vo, hg, c0, c1, c2, c3, r1, r2, r3⟩ := h
  have C0 : Hid (w.cell? ⟨g, 0, none⟩ = some (.int .i64 d.ins)) := Lib.hid c0
  have Hd := Lib.hid hd
  obtain ⟨M, e, hM⟩ : ∃ M : Nat, (2 : Int) ^ d.ins = (M : Int) ∧ M = 2 ^ d.ins := ⟨2 ^ d.ins, two_pow d.ins, rfl⟩
  have hM16 : M ≤ 16 := by rw [hM]; exact Nat.pow_le_pow_right (show 0 < 2 by decide) l1
  have hwM := IntWalk.i64_in (M : Int) (by omega)
  have HM := Lib.hid hM
  have q0 := C0.out
  clear r1 r2 r3 hd hM c0 c1 c2 c3
  go_enter Try.func86, Try.ntmps86
  go_wp2_with fail
  clear q0
  go_loopw [6, 7, 16] (fun v u i wr => ∃ (vv uu : Value) (k : Nat), vv = v ∧ uu = u ∧ k ≤ M ∧ i = .int .i64 k ∧ Hid (wr.ownsRow w.heap.size 3 1 v k (nints ((List.range k).map (Cir.nextOf d s)))) ∧ Hid (wr.ownsRow w.heap.size 3 1 u k (nints ((List.range k).map fun x => Cir.num (Cir.outsOf d s x)))) ∧ Hid (Apart v u) ∧ Below w.heap.size w wr) (fun _ _ i _ => M - (intOf i).toNat)
  case atStart => exact ⟨_, _, 0, rfl, rfl, Nat.zero_le _, rfl, Lib.hid (World.ownsRow_nil _ _ _ _), Lib.hid (World.ownsRow_nil _ _ _ _), Lib.hid (fun g h => by simp [Value.ownBlock] at h), Below.refl _ _⟩
  case round =>
    obtain ⟨vv, uu, k, hvv, huu, hk, rfl, Ho, Hu, Ha, hb⟩ := hrel
    subst hvv huu
    have Hb := Lib.hid hb
    have hzb := hb.size
    clear hb
    by_cases hlt : k < M
    · have HS1 : Hid (nints ((List.range (k + 1)).map (Cir.nextOf d s)) = nints ((List.range k).map (Cir.nextOf d s)) ++ [.int .i64 (Cir.nextOf d s k : Nat)]) := Lib.hid (by rw [List.range_succ, List.map_append, List.map_cons, List.map_nil, nints_snoc])
      have HS2 : Hid (nints ((List.range (k + 1)).map fun x => Cir.num (Cir.outsOf d s x)) = nints ((List.range k).map fun x => Cir.num (Cir.outsOf d s x)) ++ [.int .i64 (Cir.num (Cir.outsOf d s k) : Nat)]) := Lib.hid (by rw [List.range_succ, List.map_append, List.map_cons, List.map_nil, nints_snoc])
      go_wp2_with fail
      refine (cycle_any g d s k _ (HP.out.below Hb.out) Hd.out hs (by omega)).mono ?_
      rintro e w5 ⟨rfl, hb5⟩
      have Hb5 := Lib.hid (Hb.out.trans (hb5.mono hzb))
      have Ho5 := Lib.hid (own_below Ho.out hb5)
      have Hu5 := Lib.hid (own_below Hu.out hb5)
      have hz5 := Nat.le_trans hzb hb5.size
      clear hb5 Ho Hu
      generalize Cir.nextOf d s k = N at *
      generalize Cir.num (Cir.outsOf d s k) = O at *
      have Hlit := Lib.hid (Row.of_own (World.ownsRow_lit (base := w5.heap.size) (e := 3) (size := 1) w5 #[.int .i64 N] 1 (Nat.le_refl _) (by unfold maxLen; omega) rfl))
      go_wp2_with (first
        | (at_builtin; refine append_ints rfl (.tmp 26) (.tmp 28) rfl w.heap.size _ k _ rfl (Ho5.out.alloc _) _ 1 [.int .i64 N] rfl Hlit.out (by simp [Value.oneCell']) (by omega) (by simp; omega) ?_; intro v7 w7 hown7 hg7 hat7; have Ho7 := Lib.hid hown7; have Hat7 := Lib.hid hat7; have Hu7 := Lib.hid (own_kept (Hu5.out.alloc (.cells #[.int .i64 N] 3)) hg7 (fun g h1 h2 => Ha.out g h2 h1)); have Ha7 := Lib.hid (apart_new Ha.out hat7 (fun g hg => by have := ((Hu5.out.alloc (.cells #[.int .i64 N] 3)).lt g hg).2; exact this)); have Hb7 := Lib.hid ((Hb5.out.alloc hz5 _).grown hg7 (Hb5.out.alloc hz5 _).size (own_ge0 Ho5.out)); have Hlit2 := Lib.hid (Row.of_own (World.ownsRow_lit (base := w7.heap.size) (e := 3) (size := 1) w7 #[.int .i64 O] 1 (Nat.le_refl _) (by unfold maxLen; omega) rfl)); have hz7 := (Hb7.out).size; clear hown7 hg7 hat7)
        | (at_builtin; refine append_ints rfl (.tmp 30) (.tmp 32) rfl w.heap.size _ k _ rfl (Hu7.out.alloc _) _ 1 [.int .i64 O] rfl Hlit2.out (by simp [Value.oneCell']) (by omega) (by simp; omega) ?_; intro v8 w8 hown8 hg8 hat8; have Ho8 := Lib.hid (own_kept (Ho7.out.alloc (.cells #[.int .i64 O] 3)) hg8 (fun g h1 h2 => Ha7.out g h1 h2)); have Hu8 := Lib.hid hown8; have Ha8 := Lib.hid ((apart_new (Apart.symm Ha7.out) hat8 (fun g hg => by have := ((Ho7.out.alloc (.cells #[.int .i64 O] 3)).lt g hg).2; exact this)).symm); have Hb8 := Lib.hid ((Hb7.out.alloc hz7 _).grown hg8 (Hb7.out.alloc hz7 _).size (own_ge0 Hu7.out)); clear hown8 hg8 hat8))
      go_roundw
      case rel => exact ⟨_, _, k + 1, rfl, rfl, by omega, by go_num, Lib.hid (by rw [HS1.out]; exact Ho8.out), Lib.hid (by rw [HS2.out]; exact Hu8.out), Ha8, Hb8.out⟩
      case measure => simp [intOf] <;> omega
    · obtain rfl : k = M := by omega
      have hl1 : (nats (Cir.rowN d s)).length = k := by rw [nats_length, Cir.rowN, List.length_map, List.length_range, HM.out]
      have hl2 : (nats (Cir.rowO d s)).length = k := by rw [nats_length, Cir.rowO, List.length_map, List.length_range, HM.out]
      have HF1 : Hid (wr.ownsRow w.heap.size 3 1 vv (nats (Cir.rowN d s)).length (ints (nats (Cir.rowN d s)))) := Lib.hid (by rw [hl1]; have := Ho.out; rw [HM.out] at this ⊢; exact this)
      have HF2 : Hid (wr.ownsRow w.heap.size 3 1 uu (nats (Cir.rowO d s)).length (ints (nats (Cir.rowO d s)))) := Lib.hid (by rw [hl2]; have := Hu.out; rw [HM.out] at this ⊢; exact this)
      clear hl1 hl2
      go_wp2_with fail
      exact bodyPost_ret (v := .tuple #[vv, uu]) (by simp [results, Try.results86, go_sem]) rfl ⟨_, _, rfl, HF1.out, HF2.out, Ha.out, Hb.out⟩
end Go.Proofs.Ytlbfejdbfhgifaa

namespace Go.Proofs.Ytlbfejdbfhgifaa
open Go.RowKit
set_option maxRecDepth 100000
theorem eqMachine_same (v v2 : Value) (m : Mz) (w : World) (h : MachAt w v m) (h2 : MachAt w v2 m) (hl : m.next.length + total m.next + m.out.length + total m.out ≤ 1048576) :
    Calls Try.prog 25 #[v, v2] w fun e w' => e = .returned (.bool true) ∧ Below w.heap.size w w' := by
  obtain ⟨vn, vo, rfl, r1, r2⟩ := h
  obtain ⟨un, uo, rfl, s1, s2⟩ := h2
  have P1 := Lib.hid ((MCells.boxed w m.ins vn vo 43).below (bel_alloc _ (.cells #[.int .i64 m.ins, un, uo] 43)))
  have P2 : Hid (MCells ((w.alloc (.cells #[.int .i64 m.ins, vn, vo] 43)).alloc (.cells #[.int .i64 m.ins, un, uo] 43)) (w.heap.size + 1) m.ins un uo) := Lib.hid (by have := MCells.boxed (w.alloc (.cells #[.int .i64 m.ins, vn, vo] 43)) m.ins un uo 43; simpa using this)
  have B0 : Hid (Below w.heap.size w ((w.alloc (.cells #[.int .i64 m.ins, vn, vo] 43)).alloc (.cells #[.int .i64 m.ins, un, uo] 43))) := Lib.hid (((Below.refl _ _).alloc (Nat.le_refl _) _).alloc (by simp) _)
  have R1 := Lib.hid r1
  have R2 := Lib.hid r2
  have S1 := Lib.hid s1
  have S2 := Lib.hid s2
  clear r1 r2 s1 s2
  have hn : ((m.ins : Int) != m.ins) = false := by simp
  have HL1 : Hid (∀ x ∈ m.next, x.length ≤ 1048576) := Lib.hid fun x hx => Nat.le_trans (total_mem hx) (by omega)
  have HL2 : Hid (∀ x ∈ m.out, x.length ≤ 1048576) := Lib.hid fun x hx => Nat.le_trans (total_mem hx) (by omega)
  go_enter Try.func25, Try.ntmps25
  go_wp2_with fail
  generalize ((w.alloc (.cells #[.int .i64 m.ins, vn, vo] 43)).alloc (.cells #[.int .i64 m.ins, un, uo] 43)) = W at *
  refine (eqIntSS_any vn un _ _ _ (R1.out.below B0.out) (S1.out.below B0.out) HL1.out).mono ?_
  rintro e w1 ⟨rfl, hb1⟩
  rw [show decide (m.next = m.next) = true from decide_eq_true rfl]
  have B1 := Lib.hid (B0.out.trans (hb1.mono B0.out.size))
  obtain ⟨z1, p10, p11, p12⟩ := P1.out.below hb1
  obtain ⟨z2, p20, p21, p22⟩ := P2.out.below hb1
  clear hb1
  go_wp2_with fail
  refine (eqIntSS_any vo uo _ _ _ (R2.out.below B1.out) (S2.out.below B1.out) HL2.out).mono ?_
  rintro e w2 ⟨rfl, hb2⟩
  rw [show decide (m.out = m.out) = true from decide_eq_true rfl]
  have B2 := Lib.hid (B1.out.trans (hb2.mono B1.out.size))
  clear hb2
  go_wp2_with fail
  go_ret
  exact ⟨rfl, B2.out⟩
/-- A machine of the call's own, in blocks from B up to T. -/
def OwnMachE (B T : Nat) (v : Value) (m : Mz) (w : World) : Prop :=
  ∃ vn vo E1 E2, v = .agg #[.int .i64 m.ins, vn, vo] ∧ (∀ g, E1 g → g < T) ∧ (∀ g, E2 g → g < T) ∧ (∀ g, E1 g → ¬ E2 g) ∧ OwnIntSE B E1 w vn m.next ∧ OwnIntSE B E2 w vo m.out
theorem OwnMachE.at {B T : Nat} {v : Value} {m : Mz} {w : World} (h : OwnMachE B T v m w) : MachAt w v m := by
  obtain ⟨vn, vo, E1, E2, hv, _, _, _, h1, h2⟩ := h
  exact ⟨vn, vo, hv, OwnSE.at h1, OwnSE.at h2⟩
theorem OwnMachE.only {X : Nat → Prop} {B T : Nat} {v : Value} {m : Mz} {w w' : World} (h : OwnMachE B T v m w) (ho : Only X w w') (hE : ∀ g, B ≤ g → g < T → ¬ X g) : OwnMachE B T v m w' := by
  obtain ⟨vn, vo, E1, E2, hv, e1, e2, e3, h1, h2⟩ := h
  exact ⟨vn, vo, E1, E2, hv, e1, e2, e3, OwnSE.only h1 ho (fun g hb he => hE g hb (e1 g he)), OwnSE.only h2 ho (fun g hb he => hE g hb (e2 g he))⟩
/-- A machine of which all cells of the rows hold numbers that go on from k. -/
def RunMach (B T : Nat) (i : Int) (v : Value) (ns os : List Nat) (k : Nat) (w : World) : Prop :=
  ∃ vn vo E1 E2, v = .agg #[.int .i64 i, vn, vo] ∧ (∀ g, E1 g → g < T) ∧ (∀ g, E2 g → g < T) ∧ OwnVS B E1 w vn (runs k ns) ∧ OwnVS B E2 w vo (runs (k + ns.sum) os)
theorem RunMach.only {X : Nat → Prop} {B T : Nat} {i : Int} {v : Value} {ns os : List Nat} {k : Nat} {w w' : World} (h : RunMach B T i v ns os k w) (ho : Only X w w') (hE : ∀ g, B ≤ g → g < T → ¬ X g) : RunMach B T i v ns os k w' := by
  obtain ⟨vn, vo, E1, E2, hv, e1, e2, h1, h2⟩ := h
  exact ⟨vn, vo, E1, E2, hv, e1, e2, OwnSE.only h1 ho (fun g hb he => hE g hb (e1 g he)), OwnSE.only h2 ho (fun g hb he => hE g hb (e2 g he))⟩
theorem total_map {α : Type} (xss : List (List α)) : total xss = (xss.map List.length).sum := rfl
set_option maxHeartbeats 4000000 in
theorem markMachine_any (B T : Nat) (v : Value) (m : Mz) (k : Nat) (w : World) (h : OwnMachE B T v m w) (hl : m.next.length + total m.next + m.out.length + total m.out ≤ 1048576) (hk : k ≤ 1000000) (hT : T ≤ w.heap.size) :
    Calls Try.prog 26 #[v, .int .i64 k] w fun e w' => e = .returned (.int .i64 ((k + total m.next + total m.out : Nat) : Int)) ∧ RunMach B T m.ins v (m.next.map List.length) (m.out.map List.length) k w' ∧ Only (fun g => B ≤ g ∧ g < T) w w' := by
  obtain ⟨vn, vo, E1, E2, rfl, e1, e2, e3, r1, r2⟩ := h
  have hb0 := bel_alloc w (.cells #[.int .i64 m.ins, vn, vo] 43)
  have R1 := Lib.hid (OwnIntSE.raw (OwnSE.below r1 hb0))
  have R2 := Lib.hid (OwnIntSE.raw (OwnSE.below r2 hb0))
  have P := Lib.hid (MCells.boxed w m.ins vn vo 43)
  have B0 := Lib.hid hb0
  have l1 : ((m.next.map ints).map List.length) = m.next.map List.length := by simp [ints_length, Function.comp_def]
  have l2 : ((m.out.map ints).map List.length) = m.out.map List.length := by simp [ints_length, Function.comp_def]
  have L1 := Lib.hid l1
  have L2 := Lib.hid l2
  have tN : (m.next.map List.length).sum = total m.next := rfl
  have tO : (m.out.map List.length).sum = total m.out := rfl
  have TN := Lib.hid tN
  have TO := Lib.hid tO
  have z0 : w.heap.size < (w.alloc (.cells #[.int .i64 m.ins, vn, vo] 43)).heap.size := by simp
  clear r1 r2 hb0 l1 l2 tN tO
  go_enter Try.func26, Try.ntmps26
  go_wp2_with fail
  generalize w.alloc (.cells #[.int .i64 m.ins, vn, vo] 43) = W at *
  refine (markIntSS_any B E1 vn k _ _ _ R1.out L1.out (by rw [List.length_map]; omega) (by rw [TN.out]; omega) (by omega)).mono ?_
  rintro e w1 ⟨rfl, ho1, hon1⟩
  rw [TN.out]
  have Ho1 := Lib.hid ho1
  have Hon1 := Lib.hid hon1
  have R2' := Lib.hid (OwnSE.only R2.out hon1 (fun g h1 h2 h3 => e3 g h3.2 h2))
  obtain ⟨z, p0, p1, p2⟩ := P.out
  have q2 := (World.cell?_of_block (a := ⟨w.heap.size, 2, none⟩) (hon1.block w.heap.size z (fun h => by have := e1 _ h.2; omega))).trans p2
  clear ho1 hon1 p0 p1 p2 R1 R2
  go_wp2_with fail
  refine (markIntSS_any B E2 vo (k + total m.next) _ _ _ R2'.out L2.out (by rw [List.length_map]; omega) (by rw [TO.out]; omega) (by omega)).mono ?_
  rintro e w2 ⟨rfl, ho2, hon2⟩
  rw [TO.out]
  have Ho12 := Lib.hid (OwnSE.only Ho1.out hon2 (fun g h1 h2 h3 => e3 g h2 h3.2))
  have Ho2 := Lib.hid ho2
  have Hon2 := Lib.hid hon2
  clear ho2 hon2 Ho1
  go_wp2_with fail
  go_ret
  refine ⟨rfl, ⟨_, _, E1, E2, rfl, e1, e2, Ho12.out, by rw [TN.out]; exact Ho2.out⟩, ?_⟩
  exact (Only.of_below _ B0.out).trans ((Hon1.out.mono fun g h => ⟨h.1, e1 g h.2⟩).trans (Hon2.out.mono fun g h => ⟨h.1, e2 g h.2⟩))
theorem heldMachine_any (B T : Nat) (i : Int) (v : Value) (ns os : List Nat) (k : Nat) (w : World) (h : RunMach B T i v ns os k w) (hl : ns.length + ns.sum + os.length + os.sum ≤ 1048576) (hk : k ≤ 1000000) :
    Calls Try.prog 27 #[v, .int .i64 k] w fun e w' => e = .returned (.int .i64 ((k + ns.sum + os.sum : Nat) : Int)) ∧ Below w.heap.size w w' := by
  obtain ⟨vn, vo, E1, E2, rfl, e1, e2, r1, r2⟩ := h
  have hb0 := bel_alloc w (.cells #[.int .i64 i, vn, vo] 43)
  have R1 := Lib.hid (OwnSE.at (OwnSE.below r1 hb0))
  have R2 := Lib.hid (OwnSE.at (OwnSE.below r2 hb0))
  have B0 := Lib.hid hb0
  have h1 : ¬ (((k + ns.sum : Nat) : Int) < 0) := by omega
  have h2 : ¬ (((k + ns.sum + os.sum : Nat) : Int) < 0) := by omega
  clear r1 r2 hb0
  go_enter Try.func27, Try.ntmps27
  go_wp2_with fail
  refine (heldIntSS_any vn k ns _ R1.out (by omega) (by omega) (by omega)).mono ?_
  rintro e w' ⟨rfl, rfl⟩
  go_wp2_with fail
  refine (heldIntSS_any vo (k + ns.sum) os _ R2.out (by omega) (by omega) (by omega)).mono ?_
  rintro e w' ⟨rfl, rfl⟩
  go_wp2_with fail
  go_ret
  exact ⟨rfl, B0.out⟩
end Go.Proofs.Ytlbfejdbfhgifaa
