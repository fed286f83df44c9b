import Derived.Test.YtmlcbikljlhhkaaVioB
import Derived.Test.YtmlcbikljlhhkaaGb
namespace Go.Proofs.Ytmlcbikljlhhkaa
open Go.RowKit
set_option maxRecDepth 100000
/-! The search of FindViolation. -/
def Searched (ins : Nat) (r : Option (List Nat)) (w : World) (e : Ending) (w' : World) : Prop :=
  match r with
  | none => e = .returned (.tuple #[.slice none 0 0, .bool false]) ∧ Below w.heap.size w w'
  | some p => ∃ v, e = .returned (.tuple #[v, .bool true]) ∧ OwnBoolSS w.heap.size w'.heap.size w' v (rowsOf ins p) ∧ Below w.heap.size w w'
theorem SSIn.one {F : Nat → Prop} {w : World} {xss : List (List Bool)} {vs : List Value} (h1 : vs.length = xss.length) (h3 : ∀ (i : Nat) (x : List Bool) (u : Value), xss[i]? = some x → vs[i]? = some u → RowIn F w 1 u x.length (bools x)) : ∀ u ∈ vs, u.oneCell' = true := fun u hu => by
  obtain ⟨i, hi, rfl⟩ := List.mem_iff_getElem.1 hu
  obtain ⟨_, A, c, hv, -⟩ := (h3 i _ _ (List.getElem?_eq_getElem (by omega)) (List.getElem?_eq_getElem hi)).1
  rw [hv]; rfl
set_option maxHeartbeats 16000000 in
theorem searchV_any (g go : Nat) (d : Ci) (o : Nat) (w : World) (h : PCirc w g (Cir.toCz d)) (hgo : w.cell? ⟨go, 0, none⟩ = some (.int .i64 o)) (hlt : go < w.heap.size) (hd : Cir.Ok d) (ho : o < d.outs.length) :
    Calls Try.prog 101 #[.int .i64 d.ins, .int .i64 0, .func (.func 102) #[] #[.pointer (some ⟨g, 0, none⟩), .pointer (some ⟨go, 0, none⟩)]] w (Searched d.ins (Cir.viol d o) w) := by
  have l1 := hd.ins
  have l2 := hd.nexts
  have HP := Lib.hid h
  have Hgo := Lib.hid hgo
  have Hd := Lib.hid hd
  have Ho := Lib.hid ho
  obtain ⟨M, e, hM⟩ : ∃ M : Nat, (2 : Int) ^ d.ins = (M : Int) ∧ M = 2 ^ d.ins := ⟨2 ^ d.ins, two_pow d.ins, rfl⟩
  have hM16 : M ≤ 16 := by rw [hM]; exact Nat.pow_le_pow_right (show 0 < 2 by decide) l1
  have hwM := IntWalk.i64_in (M : Int) (by omega)
  have HM := Lib.hid hM
  have hmm := @run_makeMap Try.prog
  have hwins := IntWalk.i64_in (d.ins : Int) (by omega)
  clear h hgo hd ho hM
  have Hset0 : Hid (SetAt (((w.alloc (.cells #[.int .i64 0] 3)).alloc (.cells #[.slice none 0 0] 39)).alloc (.map #[] 0)) (w.heap.size + 1 + 1) 0 (fun _ => false)) := Lib.hid (by have := setAt_made ((w.alloc (.cells #[.int .i64 0] 3)).alloc (.cells #[.slice none 0 0] 39)); rwa [World.size_alloc, World.size_alloc] at this)
  have Hq0 : Hid ((((w.alloc (.cells #[.int .i64 0] 3)).alloc (.cells #[.slice none 0 0] 39)).alloc (.map #[] 0)).ownsRow w.heap.size 3 1 (.slice (some ⟨w.heap.size, 0, none⟩) 1 1) 1 [.int .i64 0]) := Lib.hid (((World.ownsRow_lit (base := w.heap.size) (e := 3) (size := 1) w #[.int .i64 0] 1 (Nat.le_refl _) (by unfold maxLen; omega) rfl).alloc _).alloc _)
  have Hp0 : Hid ((((w.alloc (.cells #[.int .i64 0] 3)).alloc (.cells #[.slice none 0 0] 39)).alloc (.map #[] 0)).ownsRow w.heap.size 39 1 (.slice (some ⟨w.heap.size + 1, 0, none⟩) 1 1) 1 [.slice none 0 0]) := Lib.hid (by
    have := (World.ownsRow_lit (base := w.heap.size) (e := 39) (size := 1) (w.alloc (.cells #[.int .i64 0] 3)) #[.slice none 0 0] 1 (by simp) (by unfold maxLen; omega) rfl).alloc (.map #[] 0)
    rwa [World.size_alloc] at this)
  have hsz : (((w.alloc (.cells #[.int .i64 0] 3)).alloc (.cells #[.slice none 0 0] 39)).alloc (.map #[] 0)).heap.size = w.heap.size + 3 := by simp
  have Bm : Hid (Below w.heap.size w (((w.alloc (.cells #[.int .i64 0] 3)).alloc (.cells #[.slice none 0 0] 39)).alloc (.map #[] 0))) := Lib.hid ((((Below.refl _ _).alloc (Nat.le_refl _) _).alloc (by simp) _).alloc (by simp; omega) _)
  go_enter Try.func101, Try.ntmps101
  go_wp2_with (with_reducible refine wpList_add_set _ rfl (.tmp 22) _ _ (.inr rfl) _ _ _ rfl Hset0.out (by omega) 0 (by omega) rfl rfl ?_; intro w2 hset2 hg2)
  have HV0 : Hid (VB w.heap.size (w.heap.size + 1 + 1) d.ins 1 [(0, [])] (.slice (some ⟨w.heap.size, 0, none⟩) 1 1) (.slice (some ⟨w.heap.size + 1, 0, none⟩) 1 1) [.slice none 0 0] (fun _ => False) w2) := Lib.hid (by
    have hz2 := hg2.size
    refine ⟨own_kept Hq0.out hg2 (fun g h1 h2 => ?_), own_kept Hp0.out hg2 (fun g h1 h2 => ?_), hset2.congr (fun x => by rw [show Cir.vsts [(0, [])] = [0] from rfl, Cir.memB_zero, Bool.false_or]), fun i s x u h1 h2 => ?_, fun g hg => hg.elim, fun g h1 h2 => ?_, ?_, ?_⟩
    · have := Option.some.inj h1; have := Option.some.inj h2; simp only at *; omega
    · have := Option.some.inj h1; have := Option.some.inj h2; simp only at *; omega
    · cases i with
      | zero =>
        obtain ⟨rfl, rfl⟩ := Prod.mk.inj (Option.some.inj h1)
        obtain rfl := Option.some.inj h2
        exact SSIn.nil _ _ _
      | succ i => simp at h1
    · have := Option.some.inj h1; have := Option.some.inj h2; simp only at *; omega
    · intro h1; have := Option.some.inj h1; simp only at *; omega
    · intro h1; have := Option.some.inj h1; simp only at *; omega)
  have B2 := Lib.hid (Bm.out.grown hg2 Bm.out.size (fun q hq => by have := Option.some.inj hq; omega))
  have z2 := hg2.size
  rw [hsz] at z2
  clear hset2 hg2 Hset0 Hq0 Hp0 Bm hmm hsz
  have hR0 : Hid (Cir.viol d o = Cir.vbfs d o (9 - 0) 0 [(0, [])]) := Lib.hid rfl
  generalize Cir.viol d o = res at *
  go_wp2_with fail
  go_loopw [8, 9, 11] (fun vq vp i wr => ∃ (q p : Value) (k m : Nat) (l : List (Nat × List Nat)) (pv : List Value) (F : Nat → Prop), q = vq ∧ p = vp ∧ i = .int .i64 k ∧ k ≤ l.length ∧ 1 ≤ l.length ∧ l.length ≤ 8 ∧ m ≤ 1 + k * 16 ∧ Hid (Cir.Vs d l) ∧ Hid (res = Cir.vbfs d o (9 - k) k l) ∧ Hid (VB w.heap.size (w.heap.size + 1 + 1) d.ins m l vq vp pv F wr) ∧ Below w.heap.size w wr) (fun _ _ i _ => 8 - (intOf i).toNat)
  case atStart => exact ⟨_, _, 0, 1, [(0, [])], _, _, rfl, rfl, rfl, by simp, by simp, by simp, by omega, Lib.hid (Cir.Vs.zero d), hR0, HV0, B2.out⟩
  case round =>
    obtain ⟨vq, vp, k, m, l, pv, F, hq, hp, rfl, hk, hpos, hl8, hm16, Hvs, hres, HV, hb⟩ := hrel
    subst hq hp
    clear HV0 B2 hR0
    have Hb := Lib.hid hb
    have hzb := hb.size
    clear hb
    by_cases hlt2 : k < l.length
    · obtain ⟨⟨s, p⟩, hs⟩ := at_some hlt2
      have Hgs := Lib.hid hs
      have hf : 9 - k = 9 - (k + 1) + 1 := by omega
      rw [hf] at hres
      have hdl : decide (k < l.length) = true := decide_eq_true hlt2
      obtain ⟨gq, cq, hvq, hgq, hgq2, hcq, hcqm⟩ := own_open HV.out.q (by omega)
      subst hvq
      unfold maxLen at hcqm
      clear hs hf
      go_wp2_with fail
      obtain ⟨Wk, hWk⟩ : ∃ Wk, Wk = wr := ⟨_, rfl⟩
      subst hWk
      go_loopw [8, 9, 33] (fun vq2 vp2 i2 wr2 => ∃ (q2 p2 : Value) (j m2 : Nat) (pv2 : List Value) (F2 : Nat → Prop), q2 = vq2 ∧ p2 = vp2 ∧ i2 = .int .i64 j ∧ j ≤ M ∧ m2 ≤ m + j ∧ Hid (∀ y, y < j → Cir.bad d o s y = false) ∧ Hid (VB w.heap.size (w.heap.size + 1 + 1) d.ins m2 (Cir.vpushes d s p j l) vq2 vp2 pv2 F2 wr2) ∧ Below w.heap.size w wr2) (fun _ _ i _ => M - (intOf i).toNat)
      case atStart => exact ⟨_, _, 0, m, pv, F, rfl, rfl, rfl, Nat.zero_le _, by omega, Lib.hid (fun y hy => by omega), HV, Hb.out⟩
      case round =>
        obtain ⟨q2, p2, j, m2, pv2, F2, hq2, hp2, rfl, hj, hm2, Hnb, HV2, hb2⟩ := hrel
        subst hq2 hp2
        have Hb2 := Lib.hid hb2
        have hzb2 := hb2.size
        clear HV hb2
        have Hvs2 := Lib.hid (Hvs.out.pushes Hgs.out j (by rw [← HM.out]; exact hj))
        have hL8 := Hvs2.out.size Hd.out
        have Hgj := Lib.hid (Cir.vpushes_get (c := d) (s := s) (p := p) (j := j) Hgs.out)
        have Hsu := Lib.hid (Cir.vpushes_succ d s p j l)
        have hkL := (List.getElem?_eq_some_iff.1 Hgj.out).1
        by_cases hlj : j < M
        · obtain ⟨L2, hL2⟩ : ∃ L2, Cir.vpushes d s p (j + 1) l = L2 := ⟨_, rfl⟩
          rw [hL2] at Hsu
          have HL2 := Lib.hid hL2
          clear hL2
          generalize Cir.vpushes d s p j l = L at *
          obtain ⟨gq, cq, hvq, hgq, hgq2, hcq, hcqm⟩ := own_open HV2.out.q (by omega)
          subst hvq
          obtain ⟨gp, cp, hvp, hgp, hgp2, hcp, hcpm⟩ := own_open HV2.out.p (by omega)
          subst hvp
          unfold maxLen at hcqm hcpm
          obtain ⟨u0, hu0, hd0, hf0⟩ := own_slot HV2.out.q (j := k) (by omega)
          have hu0' : u0 = .int .i64 (s : Int) := by
            have h1 := Cir.vsts_get Hgj.out
            have h2 : (nints (Cir.vsts L))[k]? = some (.int .i64 (s : Int)) := by unfold nints ints nats; rw [List.map_map, List.getElem?_map, h1]; rfl
            exact Option.some.inj (hu0.symm.trans h2)
          subst hu0'
          obtain ⟨u1, hu1, hd1, hf1⟩ := own_slot HV2.out.p (j := k) (by omega)
          have HS := Lib.hid (HV2.out.r k s p u1 Hgj.out hu1)
          have hs8 : s < 8 := by
            have h1 := Hvs2.out.sts.lt s (List.mem_of_getElem? (Cir.vsts_get Hgj.out))
            have h2 : 2 ^ d.next.length ≤ 2 ^ 3 := Nat.pow_le_pow_right (show 0 < 2 by decide) l2
            omega
          have hN8 : Cir.nextOf d s j < 8 := by
            have h1 := Cir.nextOf_lt d s j
            have h2 : 2 ^ d.next.length ≤ 2 ^ 3 := Nat.pow_le_pow_right (show 0 < 2 by decide) l2
            omega
          have hp8 := Hvs2.out.len k s p Hgj.out
          clear hu0 hu1 hf0 hf1
          go_wp2_with fail
          refine (viClo_any g go d o s j _ (HP.out.below Hb2.out) ((Hb2.out.cell (p := ⟨go, 0, none⟩) hlt).trans Hgo.out) (Nat.lt_of_lt_of_le hlt hzb2) Hd.out (by omega) (by omega) Ho.out).mono ?_
          rintro e w5 ⟨rfl, hb5⟩
          have HV5 := Lib.hid (HV2.out.below hb5)
          have HS5 := Lib.hid (HS.out.below hb5)
          have Hb5 := Lib.hid (Hb2.out.trans (hb5.mono hzb2))
          have hz5 := hb5.size
          have c5 := (hb5.cell (p := ⟨gp, k, none⟩) hgp2).trans hd1
          obtain ⟨Ap, np, hvu, hcu, hcum⟩ := HS5.out.at.shape
          subst hvu
          rw [rowsOf_length] at hcu
          unfold maxLen at hcum
          obtain ⟨vs5, hvl5, hrow5, hel5⟩ := HS5.out
          rw [rowsOf_length] at hvl5
          have One5 := Lib.hid (SSIn.one (by rw [rowsOf_length]; exact hvl5) hel5)
          have Row5 : Hid (Row w5 1 (.slice Ap (rowsOf d.ins p).length np) p.length vs5) := Lib.hid (by have := hrow5.1; rwa [rowsOf_length] at this ⊢)
          have Hrow5 := Lib.hid hrow5
          have Hel5 := Lib.hid hel5
          clear hrow5 hel5
          obtain ⟨N, hNe⟩ : ∃ N, Cir.nextOf d s j = N := ⟨_, rfl⟩
          rw [hNe] at hN8 Hsu
          have HNe := Lib.hid hNe
          clear hb5 hd0 hd1 HV2 HS
          rw [hNe]
          clear hNe
          cases hbad : Cir.bad d o s j
          · have Hnb2 : Hid (∀ y, y < j + 1 → Cir.bad d o s y = false) := Lib.hid (fun y hy => by
              rcases Nat.lt_or_ge y j with h | h
              · exact Hnb.out y h
              · obtain rfl : y = j := by omega
                exact hbad)
            clear hbad Hnb
            cases hc : Cir.memB (Cir.vsts L) N
            · have HPu := Lib.hid (Cir.vpush_no (p := p ++ [j]) hc)
              have hlk := run_look_set HV5.out.s N (by omega)
              rw [hc] at hlk
              go_wp2_with fail
              refine (cloneSS_any _ p.length _ _ (by have := Row5.out; exact this) One5.out (by omega)).mono ?_
              rintro e w6 ⟨v6, rfl, ho6, hb6⟩
              have hz6 := hb6.size
              have Ho6 := Lib.hid ho6
              have Hb6 := Lib.hid hb6
              clear ho6 hb6
              go_wp2_with fail
              refine (bitsOf_any j d.ins _ (by omega) (by omega)).mono ?_
              rintro e w7 ⟨v7, rfl, ho7, hb7⟩
              have hz7 := hb7.size
              have Ho6b := Lib.hid (own_below Ho6.out hb7)
              have Hb7 := Lib.hid (Hb6.out.trans (hb7.mono hz6))
              have Ho7 := Lib.hid (own_mono ho7 hz6)
              have Hge7 := Lib.hid (own_ge0 ho7)
              obtain ⟨A7, c7, hv7⟩ := slice_of_own Ho7.out
              subst hv7
              have Hlit := Lib.hid (Row.of_own (World.ownsRow_lit (base := w7.heap.size) (e := 78) (size := 1) w7 #[.slice A7 (Cir.bits j d.ins).length c7] 1 (Nat.le_refl _) (by unfold maxLen; omega) rfl))
              clear ho7 hb7
              go_wp2_with (first | (at_builtin; refine append_rows rfl (.tmp 57) (.tmp 61) rfl w5.heap.size _ p.length _ rfl (Ho6b.out.alloc _) _ 1 [.slice A7 (Cir.bits j d.ins).length c7] rfl Hlit.out (by simp [Value.oneCell']) (by omega) (by simp; omega) ?_; intro v8 w8 hown8 hg8 hat8; obtain ⟨A8, c8, hv8⟩ := slice_of_own hown8; subst hv8; have Hp8 := Lib.hid hown8; have Hg8 := Lib.hid hg8; have hz8 := hg8.size; rw [World.size_alloc] at hz8; have Ho8 := Lib.hid (own_kept (Ho7.out.alloc (.cells #[.slice A7 (Cir.bits j d.ins).length c7] 78)) hg8 (fun g h1 h2 => by have h3 := Hge7.out g h1; have h4 := (Ho6.out.lt g h2).2; omega)); have Hb8 := Lib.hid ((Hb7.out.alloc (Nat.le_trans hz6 hz7) _).grown hg8 (by simp; omega) (own_ge0 Ho6b.out)); clear hown8 hg8 hat8) | (at_mapUpdate; refine Stop.out ?_))
              have HS8 : Hid (SSIn bools (fun g => F2 g ∨ (w5.heap.size ≤ g ∧ g < w8.heap.size)) w8 (.slice A8 (p.length + 1) c8) (rowsOf d.ins (p ++ [j]))) := Lib.hid (by
                rw [rowsOf_snoc]
                exact SSIn.snoc (by rw [rowsOf_length]; exact hvl5) (fun i x u hx hu => (Hel5.out i x u hx hu).below Hb8.out) Ho8.out (by rw [rowsOf_length]; exact Hp8.out))
              have HV8 := Lib.hid (HV5.out.below Hb8.out)
              have HF8 : Hid (∀ g, (F2 g ∨ (w5.heap.size ≤ g ∧ g < w8.heap.size)) → g < w8.heap.size ∧ (Value.slice (some ⟨gq, 0, none⟩) L.length cq).ownBlock ≠ some g ∧ (Value.slice (some ⟨gp, 0, none⟩) L.length cp).ownBlock ≠ some g ∧ g ≠ w.heap.size + 1 + 1) := Lib.hid (fun g hg => by
                rcases hg with hg | hg
                · exact HV8.out.f g hg
                · have h3 := HV5.out.s.lt
                  refine ⟨hg.2, fun h => ?_, fun h => ?_, by omega⟩
                  · have h2 := (HV5.out.q.lt g h).2; omega
                  · have h2 := (HV5.out.p.lt g h).2; omega)
              have Hb58 := Lib.hid (Hb5.out.trans (Hb8.out.mono (by omega)))
              refine ⟨?_⟩
              have hz58 := Hb8.out.size
              clear Ho6 Ho6b Ho7 Hge7 Hlit Hp8 Ho8 Hg8 HV5 HS5 Row5 Hrow5 Hel5 One5 Hb6 Hb7 hz6 hz7
              go_wp2_with (first
                | (at_mapUpdate; refine wpList_add_set _ rfl (.tmp 77) (.tmp 78) _ (.inl rfl) _ _ _ rfl HV8.out.s (by omega) N (by omega) rfl rfl ?_; intro w9 hset9 hg9; have Hset9 := Lib.hid hset9; have Hg9 := Lib.hid hg9; have hz9 := hg9.size; have Hq9 := Lib.hid (own_kept HV8.out.q hg9 (fun g h1 h2 => HV8.out.am.1 (h1.trans h2.symm))); have Hp9 := Lib.hid (own_kept HV8.out.p hg9 (fun g h1 h2 => HV8.out.am.2 (h1.trans h2.symm))); have Hl9 := Lib.hid (Row.of_own (World.ownsRow_lit (base := w9.heap.size) (e := 3) (size := 1) w9 #[.int .i64 N] 1 (Nat.le_refl _) (by unfold maxLen; omega) rfl)); clear hset9 hg9)
                | (at_builtin; refine append_ints rfl (.tmp 79) (.tmp 81) rfl w.heap.size _ L.length (nints (Cir.vsts L)) rfl (Hq9.out.alloc _) _ 1 [.int .i64 N] rfl Hl9.out (by simp [Value.oneCell']) (by omega) (by simp; omega) ?_; intro va wa howna hga hata; obtain ⟨Aa, ca, hva⟩ := slice_of_own howna; subst hva; have Hqa := Lib.hid howna; have Hga := Lib.hid hga; have Hata := Lib.hid hata; have hza := hga.size; rw [World.size_alloc] at hza; have Hpa := Lib.hid (own_kept (Hp9.out.alloc (.cells #[.int .i64 N] 3)) hga (fun g h1 h2 => HV8.out.a g h2 h1)); have Hla := Lib.hid (Row.of_own (World.ownsRow_lit (base := wa.heap.size) (e := 39) (size := 1) wa #[.slice A8 (p.length + 1) c8] 1 (Nat.le_refl _) (by unfold maxLen; omega) rfl)); clear howna hga hata)
                | (at_builtin; refine append_paths rfl (.tmp 83) (.tmp 85) rfl w.heap.size _ L.length pv2 rfl (Hpa.out.alloc _) _ 1 [.slice A8 (p.length + 1) c8] rfl Hla.out (by simp [Value.oneCell']) (by omega) (by simp; omega) ?_; intro vb wb hownb hgb hatb; obtain ⟨Ab, cb, hvb⟩ := slice_of_own hownb; subst hvb; have Hpb := Lib.hid hownb; have Hgb := Lib.hid hgb; have Hatb := Lib.hid hatb; clear hownb hgb hatb))
              go_roundw
              case rel => exact ⟨_, _, j + 1, m2 + 1, pv2 ++ [.slice A8 (p.length + 1) c8], _, rfl, rfl, by go_num, by omega, by omega, Hnb2, Lib.hid (by rw [HL2.out, Hsu.out, HPu.out]; exact HV8.out.push HS8.out (fun g h => .inl h) HF8.out Hset9.out Hg9.out Hqa.out Hga.out Hata.out Hpb.out Hgb.out Hatb.out), by
                have b1 := Hb58.out.grown Hg9.out Hb58.out.size (fun q hq => by have := Option.some.inj hq; omega)
                have b2 := (b1.alloc b1.size (.cells #[.int .i64 N] 3)).grown Hga.out (b1.alloc b1.size _).size (own_ge0 Hq9.out)
                exact (b2.alloc b2.size (.cells #[.slice A8 (p.length + 1) c8] 39)).grown Hgb.out (b2.alloc b2.size _).size (own_ge0 Hpa.out)⟩
              case measure => simp [intOf] <;> omega
            · have HPu := Lib.hid (Cir.vpush_yes (p := p ++ [j]) hc)
              have hlk := run_look_set HV5.out.s N (by omega)
              rw [hc] at hlk
              go_wp2_with fail
              go_roundw
              case rel => exact ⟨_, _, j + 1, m2, pv2, F2, rfl, rfl, by go_num, by omega, by omega, Hnb2, Lib.hid (by rw [HL2.out, Hsu.out, HPu.out]; exact HV5.out), Hb5.out⟩
              case measure => simp [intOf] <;> omega
          · have Hf := Lib.hid (Cir.vfind_some (M := 2 ^ d.ins) (by rw [← HM.out]; exact hlj) hbad Hnb.out)
            clear hbad Hnb
            have Hr : res = some (p ++ [j]) := by rw [hres.out]; exact Cir.vbfs_hit Hgs.out Hf.out
            clear hres
            subst Hr
            go_wp2_with fail
            refine (cloneSS_any _ p.length _ _ (by have := Row5.out; exact this) One5.out (by omega)).mono ?_
            rintro e w6 ⟨v6, rfl, ho6, hb6⟩
            have hz6 := hb6.size
            have Ho6 := Lib.hid ho6
            have Hb6 := Lib.hid hb6
            clear ho6 hb6
            go_wp2_with fail
            refine (bitsOf_any j d.ins _ (by omega) (by omega)).mono ?_
            rintro e w7 ⟨v7, rfl, ho7, hb7⟩
            have hz7 := hb7.size
            have Ho6b := Lib.hid (own_below Ho6.out hb7)
            have Hb7 := Lib.hid (Hb6.out.trans (hb7.mono hz6))
            have Ho7 := Lib.hid (own_mono ho7 hz6)
            have Hge7 := Lib.hid (own_ge0 ho7)
            obtain ⟨A7, c7, hv7⟩ := slice_of_own Ho7.out
            subst hv7
            have Hlit := Lib.hid (Row.of_own (World.ownsRow_lit (base := w7.heap.size) (e := 78) (size := 1) w7 #[.slice A7 (Cir.bits j d.ins).length c7] 1 (Nat.le_refl _) (by unfold maxLen; omega) rfl))
            clear ho7 hb7
            go_wp2_with (at_builtin; refine append_rows rfl (.tmp 57) (.tmp 61) rfl w5.heap.size _ p.length _ rfl (Ho6b.out.alloc _) _ 1 [.slice A7 (Cir.bits j d.ins).length c7] rfl Hlit.out (by simp [Value.oneCell']) (by omega) (by simp; omega) ?_; intro v8 w8 hown8 hg8 hat8; obtain ⟨A8, c8, hv8⟩ := slice_of_own hown8; subst hv8; have Hp8 := Lib.hid hown8; have Hg8 := Lib.hid hg8; have hz8 := hg8.size; rw [World.size_alloc] at hz8; have Ho8 := Lib.hid (own_kept (Ho7.out.alloc (.cells #[.slice A7 (Cir.bits j d.ins).length c7] 78)) hg8 (fun g h1 h2 => by have h3 := Hge7.out g h1; have h4 := (Ho6.out.lt g h2).2; omega)); have Hb8 := Lib.hid ((Hb7.out.alloc (Nat.le_trans hz6 hz7) _).grown hg8 (by simp; omega) (own_ge0 Ho6b.out)); clear hown8 hg8 hat8)
            have HS8 : Hid (SSIn bools (fun g => F2 g ∨ (w5.heap.size ≤ g ∧ g < w8.heap.size)) w8 (.slice A8 (p.length + 1) c8) (rowsOf d.ins (p ++ [j]))) := Lib.hid (by
              rw [rowsOf_snoc]
              exact SSIn.snoc (by rw [rowsOf_length]; exact hvl5) (fun i x u hx hu => (Hel5.out i x u hx hu).below Hb8.out) Ho8.out (by rw [rowsOf_length]; exact Hp8.out))
            have HV8 := Lib.hid (HV5.out.below Hb8.out)
            have HF8 : Hid (∀ g, (F2 g ∨ (w5.heap.size ≤ g ∧ g < w8.heap.size)) → g < w8.heap.size ∧ (Value.slice (some ⟨gq, 0, none⟩) L.length cq).ownBlock ≠ some g ∧ (Value.slice (some ⟨gp, 0, none⟩) L.length cp).ownBlock ≠ some g ∧ g ≠ w.heap.size + 1 + 1) := Lib.hid (fun g hg => by
              rcases hg with hg | hg
              · exact HV8.out.f g hg
              · have h3 := HV5.out.s.lt
                refine ⟨hg.2, fun h => ?_, fun h => ?_, by omega⟩
                · have h2 := (HV5.out.q.lt g h).2; omega
                · have h2 := (HV5.out.p.lt g h).2; omega)
            have Hb58 := Lib.hid (Hb5.out.trans (Hb8.out.mono (by omega)))
            have hz58 := Hb8.out.size
            have hlp : (rowsOf d.ins (p ++ [j])).length = p.length + 1 := by rw [rowsOf_length, List.length_append, List.length_singleton]
            have HSS : Hid (SSAt bools w8 (.slice A8 (p.length + 1) c8) (rowsOf d.ins (p ++ [j]))) := Lib.hid HS8.out.at
            have Hbits : Hid (∀ x ∈ rowsOf d.ins (p ++ [j]), x.length = d.ins) := Lib.hid (fun x hx => by
              unfold rowsOf at hx
              obtain ⟨y, _, rfl⟩ := List.mem_map.1 hx
              exact Cir.bits_length _ _)
            generalize hRe : rowsOf d.ins (p ++ [j]) = R at *
            have HRe := Lib.hid hRe
            clear hRe
            clear Ho6 Ho6b Ho7 Hge7 Hlit Hp8 Ho8 Hg8 HV5 HS5 Row5 Hrow5 Hel5 One5 Hb6 Hb7 hz6 hz7 HS8 HV8 HF8 Hf
            obtain ⟨Wz, hWz⟩ : ∃ Wz, Wz = w8 := ⟨_, rfl⟩
            subst hWz
            go_loopw [16, 66] (fun v i wr3 => ∃ (vv : Value) (q : Nat), vv = v ∧ i = .int .i64 q ∧ q ≤ p.length + 1 ∧ Hid (OwnSE bools 78 4 Wz.heap.size (fun g => g < wr3.heap.size) wr3 v (R.take q)) ∧ Below Wz.heap.size Wz wr3) (fun _ i _ => p.length + 1 - (intOf i).toNat)
            case atStart => exact ⟨_, 0, rfl, rfl, Nat.zero_le _, Lib.hid (OwnSE.nil _ _ _ _ _ _), Below.refl _ _⟩
            case round =>
              obtain ⟨vv, q, hvv, rfl, hq, HO, hb3⟩ := hrel
              subst hvv
              have Hb3 := Lib.hid hb3
              have hz3 := hb3.size
              by_cases hlq : q < p.length + 1
              · obtain ⟨x, hx⟩ := at_some (show q < R.length by omega)
                obtain ⟨b, o', Bx, mx, hAx, hbl, hc1, hm1, hm2, hrx⟩ := ss_open HSS.out hb3 hx
                cases hAx
                have hxl : x.length ≤ 1000 := by have := Hbits.out x (List.mem_of_getElem? hx); omega
                have HSn : Hid (R.take (q + 1) = R.take q ++ [x]) := Lib.hid (take_snoc hx)
                have Hrx := Lib.hid hrx
                have HtL : Hid ((R.take q).length = q) := Lib.hid (by rw [List.length_take]; omega)
                clear hb3 hrx hx
                generalize R.take q = Rq at *
                go_wp2_with fail
                refine (cloneB_any _ x.length _ _ Hrx.out (bools_one x) (by omega)).mono ?_
                rintro e wc ⟨vc, rfl, hoc, hbc⟩
                have hzc := hbc.size
                have HOc := Lib.hid (OwnSE.below HO.out hbc)
                have Hoc := Lib.hid (own_mono hoc hz3)
                have Hgec := Lib.hid (own_ge0 hoc)
                have Hbc := Lib.hid (Hb3.out.trans (hbc.mono hz3))
                obtain ⟨Ac, cc, hvc⟩ := slice_of_own hoc
                subst hvc
                have Hlc := Lib.hid (Row.of_own (World.ownsRow_lit (base := wc.heap.size) (e := 78) (size := 1) wc #[.slice Ac x.length cc] 1 (Nat.le_refl _) (by unfold maxLen; omega) rfl))
                have hHOl := HOc.out.below (bel_new wc (.cells #[.slice Ac x.length cc] 78))
                obtain ⟨us, q1, q2, q3, q4, q5, q6, q7⟩ := hHOl
                rw [HtL.out] at q2
                have Q2 := Lib.hid q2
                have Q := Lib.hid (And.intro q1 (And.intro q3 (And.intro q4 (And.intro q5 (And.intro q6 q7)))))
                have Hol := Lib.hid (Hoc.out.alloc (.cells #[.slice Ac x.length cc] 78))
                clear hoc hbc HO HOc q1 q2 q3 q4 q5 q6 q7
                go_wp2_with (at_builtin; refine append_rows rfl (.tmp 70) (.tmp 73) rfl Wz.heap.size _ q us rfl Q2.out _ 1 [.slice Ac x.length cc] rfl Hlc.out (by simp [Value.oneCell']) (by omega) (by simp; omega) ?_; intro v9 w9 hown9 hg9 hat9; have HSE := Lib.hid (se_append Q.out.1 Q.out.2.1 Q.out.2.2.1 Q.out.2.2.2.1 Q.out.2.2.2.2.1 Q.out.2.2.2.2.2 Hol.out (fun g h1 h2 => by have := Hgec.out g h1; omega) (by rw [HtL.out]; exact hown9) hg9 hat9); have Hg9 := Lib.hid hg9; have hz9 := hg9.size; rw [World.size_alloc] at hz9; have Hol9 := Lib.hid (fun g h => (Hol.out.lt g h).2); have Hown9 := Lib.hid hown9; clear hown9 hg9 hat9)
                go_roundw
                case rel => exact ⟨_, q + 1, rfl, by go_num, by omega, Lib.hid (by
                  rw [HSn.out]
                  refine HSE.out.mono (Nat.le_refl _) (fun g hg => ?_)
                  rcases hg with hg | hg | hg
                  · omega
                  · have h := Hol9.out g hg; rw [World.size_alloc] at h; omega
                  · exact (Hown9.out.lt g hg).2), (Hbc.out.alloc Hbc.out.size _).grown Hg9.out (Hbc.out.alloc Hbc.out.size _).size (own_ge0 Q2.out)⟩
                case measure => simp [intOf] <;> omega
              · obtain rfl : q = p.length + 1 := by omega
                have HOf : Hid (OwnSE bools 78 4 w.heap.size (fun g => g < wr.heap.size) wr vv R) := Lib.hid (by
                  have := HO.out
                  rw [List.take_of_length_le (by omega)] at this
                  exact this.mono (by omega) (fun g h => h))
                clear hb3
                go_wp2_with fail
                exact bodyPost_ret (v := .tuple #[vv, .bool true]) (by simp [results, Try.results101, go_sem]) rfl ⟨_, rfl, by rw [HRe.out]; exact HOf.out, Hb58.out.trans (Hb3.out.mono (by omega))⟩
        · obtain rfl : j = M := by omega
          have Hf := Lib.hid (Cir.vfind_none (M := 2 ^ d.ins) (by rw [← HM.out]; exact Hnb.out))
          have HMr : Hid (res = Cir.vbfs d o (9 - (k + 1)) (k + 1) (Cir.vpushes d s p j l)) := Lib.hid (by rw [hres.out, Cir.vbfs_step Hgs.out Hf.out, HM.out])
          clear Hnb
          generalize Cir.vpushes d s p j l = L at *
          go_wp2_with fail
          go_roundw
          case rel => exact ⟨_, _, k + 1, m2, L, pv2, F2, rfl, rfl, by go_num, by omega, by omega, hL8, by omega, Hvs2, HMr, HV2, Hb2.out⟩
          case measure => simp [intOf] <;> omega
    · obtain rfl : k = l.length := by omega
      have hr : res = none := by rw [hres.out, Cir.vbfs_end]
      obtain ⟨gq, cq, hvq, hgq, hgq2, hcq, hcqm⟩ := own_open HV.out.q (by have := hpos; omega)
      subst hvq
      unfold maxLen at hcqm
      subst hr
      go_wp2_with fail
      exact bodyPost_ret (v := .tuple #[.slice none 0 0, .bool false]) (by simp [results, Try.results101, go_sem]) rfl ⟨rfl, Hb.out⟩
end Go.Proofs.Ytmlcbikljlhhkaa
