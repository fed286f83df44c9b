import Derived.Test.YtmlcbikljlhhkaaTernA
import Derived.Test.YtmlcbikljlhhkaaGf
namespace Go.Proofs.Ytmlcbikljlhhkaa
open Go.RowKit
set_option maxRecDepth 100000
/-! Ternary simulation: the values of all variables, by the program. -/
theorem tlit_append {A B : List Nat} {l : Nat} (h : l / 2 < A.length) : Cir.tlit (A ++ B) l = Cir.tlit A l := by
  unfold Cir.tlit
  rw [List.getD_eq_getElem?_getD, List.getD_eq_getElem?_getD, List.getElem?_append_left h]
set_option maxHeartbeats 8000000 in
theorem evalTernary_any (g : Nat) (d : Ci) (vs vi : Value) (st inp : List Nat) (w : World) (h : PCirc w g (Cir.toCz d)) (hd : Cir.Ok d) (hs : NatsAt w vs st) (hi : NatsAt w vi inp) (h1 : inp.length = d.ins) (h2 : st.length = d.next.length) (t1 : ∀ x ∈ st, x ≤ 2) (t2 : ∀ x ∈ inp, x ≤ 2) :
    Calls Try.prog 75 #[.pointer (some ⟨g, 0, none⟩), vs, vi] w (OwnInts (nats (Cir.tvals d st inp)) w) := by
  have s1 := hd.ins
  have s2 := hd.nexts
  have s3 := hd.gatess
  have HGt := Lib.hid hd.gate
  have hnl : (Cir.toCz d).next.length = d.next.length := List.length_map _
  have hgl : (Cir.toCz d).gates.length = d.gates.length := List.length_map _
  obtain ⟨n, hn⟩ : ∃ n, n = Cir.nvars d := ⟨_, rfl⟩
  have hnd : n = 1 + d.ins + d.next.length + d.gates.length := hn
  have HV := vars_any g _ w h (by show (0 : Int) ≤ (d.ins : Int); omega) (by show (d.ins : Int) ≤ 100; omega) (by omega) (by omega)
  rw [Cir.vars_toCz, ← hn] at HV
  have Hv := Lib.hid HV
  have Hs := Lib.hid hs
  have Hi := Lib.hid hi
  have Hp := Lib.hid h
  have T1 := Lib.hid t1
  have T2 := Lib.hid t2
  clear t1 t2
  obtain ⟨As, cs, hvs, hcs, hcms⟩ := Row.shape hs
  obtain ⟨Ai, ci, hvi, hci, hcmi⟩ := Row.shape hi
  subst hvs hvi
  have hmk := run_make_row' (P := Try.prog) 22 3 (.int .i64 0) 8 Try.underlying22 info_int rfl .i64 .i64 n (by omega) (by omega)
  obtain ⟨m, hm⟩ : ∃ m, m = n := ⟨_, rfl⟩
  have Hnd : Hid (m = 1 + d.ins + d.next.length + d.gates.length) := Lib.hid (hm.trans hnd)
  have b1 : 1 ≤ n := by omega
  have b2 : n ≤ 22 := by omega
  have b3 : 1 + d.ins ≤ n := by omega
  have b4 : 1 + d.ins + d.next.length ≤ n := by omega
  have Hm := Lib.hid hm
  have HB3 : Hid (1 + d.ins + d.next.length ≤ m) := Lib.hid (by omega)
  rw [nats_length inp, h1] at hci Hi ⊢
  rw [nats_length st, h2] at hcs Hs ⊢
  have H1 := Lib.hid h1
  have H2 := Lib.hid h2
  have hww : IntKind.i64.wrap (1 + (d.ins : Int)) = 1 + d.ins := IntWalk.i64_in _ (by omega)
  obtain ⟨vn, vg, vo, hg, c0, c1, c2, c3, r1, r2, r3⟩ := Hp.out
  have C0 : Hid (w.cell? ⟨g, 0, none⟩ = some (.int .i64 d.ins)) := Lib.hid c0
  obtain ⟨Ag, cg, hvg, hcg, hcmg⟩ := Row.shape r2
  rw [hgl] at hvg
  subst hvg
  rw [hgl] at hcg
  have C2 := Lib.hid c2
  have R2 : Hid (Row w 2 (.slice Ag d.gates.length cg) d.gates.length (cubes (Cir.toCz d).gates)) := Lib.hid (by have := r2; unfold CubesAt at this; rwa [hgl] at this)
  have Hgl := Lib.hid hgl
  have SZ : (Try.prog.info? 3).map (·.size) = some 1 := by
    have := info_int
    cases hi : Try.prog.info? 3 with
    | none => rw [hi] at this; cases this
    | some i => rw [hi] at this; simp at this; simp [this]
  clear r1 r2 r3 c0 c1 c2 c3
  clear HV h hs hi hnl hgl hn hnd h1 h2 hm hd
  go_enter Try.func75, Try.ntmps75
  go_wp2_with fail
  refine Hv.out.mono ?_
  rintro e w1 ⟨rfl, hb1⟩
  have hZ : Hid ((w1.alloc (.cells (madeCells #[Value.int .i64 0] n) 3)).heap[w1.heap.size]? = some (.cells (nints (List.replicate m 0)).toArray 3 (0, 0))) := Lib.hid (by
    rw [heap_alloc_new, made_one, Hm.out]
    rw [nints_rep])
  have B1 : Hid (Below w.heap.size w (w1.alloc (.cells (madeCells #[Value.int .i64 0] n) 3))) := Lib.hid (hb1.alloc hb1.size _)
  have hz1 := hb1.size
  have c0 : (w1.alloc (.cells (madeCells #[Value.int .i64 0] n) 3)).cell? ⟨g, 0, none⟩ = some (.int .i64 d.ins) := (B1.out.cell (p := ⟨g, 0, none⟩) hg).trans C0.out
  generalize hW2 : w1.alloc (.cells (madeCells #[Value.int .i64 0] n) 3) = W2 at *
  clear hb1 Hv
  go_wp2_with (refine stop_slice _ _ _ _ _ rfl ?_)
  refine ⟨?_⟩
  clear hmk
  have hcase : (n = 1 ∧ n = 1 + d.ins) ∨ (n ≠ 1 ∧ n = 1 + d.ins) ∨ (n ≠ 1 ∧ n ≠ 1 + d.ins) := by omega
  have hcase2 : ∃ p q : Prop, Hid ((p → n = 1) ∧ (¬ p → n ≠ 1) ∧ (q → n = 1 + d.ins) ∧ (¬ q → n ≠ 1 + d.ins)) ∧ (((n = 1) = True ∧ (n = 1 + d.ins) = True ∧ p ∧ q) ∨ ((n = 1) = False ∧ (n = 1 + d.ins) = True ∧ ¬ p ∧ q) ∨ ((n = 1) = False ∧ (n = 1 + d.ins) = False ∧ ¬ p ∧ ¬ q)) := by
    refine ⟨n = 1, n = 1 + d.ins, Lib.hid ⟨id, id, id, id⟩, ?_⟩
    rcases hcase with ⟨h, h'⟩ | ⟨h, h'⟩ | ⟨h, h'⟩
    · exact .inl ⟨eq_true h, eq_true h', h, h'⟩
    · exact .inr (.inl ⟨eq_false h, eq_true h', h, h'⟩)
    · exact .inr (.inr ⟨eq_false h, eq_false h', h, h'⟩)
  clear hcase
  obtain ⟨pp, qq, HQ, ⟨hq, hq', hp1, hp2⟩ | ⟨hq, hq', hp1, hp2⟩ | ⟨hq, hq', hp1, hp2⟩⟩ := hcase2
  all_goals have HP := Lib.hid (And.intro hp1 hp2)
  all_goals clear hp1 hp2
  all_goals go_wp2_with (first
    | (refine wpList_copy_splice rfl (.tmp 17) (.tmp 18) 22 22 rfl 3 Try.underlying22 SZ _ _ _ _ _ _ rfl rfl w1.heap.size 1 (nints (List.replicate m 0)) 3 hZ.out (nints inp) ?_ ?_ ?_ (nints_one _) w.heap.size w B1.out hz1 ?_
       · have hb3 := HB3.out; have hmn := Hm.out; obtain ⟨q1, q2, q3, q4⟩ := HQ.out; obtain ⟨r1, r2⟩ := HP.out; simp only [r1, r2, not_true_eq_false, not_false_eq_true, true_implies, false_implies] at q1 q2 q3 q4; rw [nints_length, H1.out]; show d.ins = min _ _; omega
       · intro hp
         have hb3 := HB3.out
         have hmn := Hm.out
         obtain ⟨q1, q2, q3, q4⟩ := HQ.out
         obtain ⟨r1, r2⟩ := HP.out
         simp only [r1, r2, not_true_eq_false, not_false_eq_true, true_implies, false_implies] at q1 q2 q3 q4
         rw [nints_length, H1.out] at hp
         first
           | (exfalso; omega)
           | (refine ⟨by first | rfl | exact if_neg q2, ?_⟩
              obtain ⟨b, o, c', hv, _, _, _, hcell⟩ := Row.open (Row.below Hi.out B1.out) (by rw [nats_length, H1.out]; exact hp)
              injection hv with hv1 hv2 hv3
              refine ⟨⟨b, o, none⟩, hv1, fun j u hu => ?_⟩
              rw [Go.WideShapes.add_plain]
              exact hcell j u hu)
       · rw [nints_length, nints_length, H1.out, List.length_replicate, Hnd.out]; omega
       intro w5 HG5 hB5; have HB5 := Lib.hid hB5; have c5 := (hB5.cell (p := ⟨g, 0, none⟩) hg).trans C0.out; clear hB5 c0)
    | (refine wpList_copy_splice rfl (.tmp 26) (.tmp 27) 22 22 rfl 3 Try.underlying22 SZ _ _ _ _ _ _ rfl rfl w1.heap.size (1 + d.ins) (splice (nints (List.replicate m 0)) 1 (nints inp)) 3 HG5.out (nints st) ?_ ?_ ?_ (nints_one _) w.heap.size w HB5.out hz1 ?_
       · have hb3 := HB3.out; have hmn := Hm.out; obtain ⟨q1, q2, q3, q4⟩ := HQ.out; obtain ⟨r1, r2⟩ := HP.out; simp only [r1, r2, not_true_eq_false, not_false_eq_true, true_implies, false_implies] at q1 q2 q3 q4; rw [nints_length, H2.out]; show d.next.length = min _ _; omega
       · intro hp
         have hb3 := HB3.out
         have hmn := Hm.out
         obtain ⟨q1, q2, q3, q4⟩ := HQ.out
         obtain ⟨r1, r2⟩ := HP.out
         simp only [r1, r2, not_true_eq_false, not_false_eq_true, true_implies, false_implies] at q1 q2 q3 q4
         rw [nints_length, H2.out] at hp
         first
           | (exfalso; omega)
           | (refine ⟨by first | rfl | exact if_neg q4, ?_⟩
              obtain ⟨b, o, c', hv, _, _, _, hcell⟩ := Row.open (Row.below Hs.out HB5.out) (by rw [nats_length, H2.out]; exact hp)
              injection hv with hv1 hv2 hv3
              refine ⟨⟨b, o, none⟩, hv1, fun j u hu => ?_⟩
              rw [Go.WideShapes.add_plain]
              exact hcell j u hu)
       · rw [length_splice _ _ _ (by rw [nints_length, nints_length, H1.out, List.length_replicate, Hnd.out]; omega), nints_length, nints_length, H2.out, List.length_replicate, Hnd.out]; omega
       intro w6 HG6 hB6; have HB6 := Lib.hid hB6; have c6 := (hB6.cell (p := ⟨g, 2, none⟩) hg).trans C2.out; clear hB6 c5 HB5 HG5))
  all_goals
    have hmm := Hm.out
    subst hmm
    have hm22 := b2
    have hnf : Cir.nfirst d ≤ 8 := by unfold Cir.nfirst; omega
    have Hnf : Hid (m = Cir.nfirst d + d.gates.length) := Lib.hid (by rw [Hnd.out]; unfold Cir.nfirst; omega)
    have HE : Hid (∀ k, k ≤ d.gates.length → (Cir.tevalG (d.gates.take k) (0 :: (inp ++ st))).length = Cir.nfirst d + k) := Lib.hid fun k hk => by
      rw [Cir.tevalG_length]
      simp [Cir.nfirst, H1.out, H2.out]
      omega
    have Ho0 : Hid (w6.ownsRow w.heap.size 3 1 (.slice (some ⟨w1.heap.size, 0, none⟩) m m) m (nints (Cir.tevalG (d.gates.take 0) (0 :: (inp ++ st)) ++ List.replicate (d.gates.length - 0) 0))) := Lib.hid (by
      have e0 : Cir.tevalG (d.gates.take 0) (0 :: (inp ++ st)) = 0 :: (inp ++ st) := rfl
      have hb3 := HB3.out
      have hnd := Hnd.out
      have h1 := H1.out
      have h2 := H2.out
      have e1 : nints (List.replicate m 0) = List.replicate m (Value.int .i64 0) := nints_rep m
      have e2 : splice (splice (nints (List.replicate m 0)) 1 (nints inp)) (1 + d.ins) (nints st) = nints (0 :: (inp ++ st) ++ List.replicate (d.gates.length - 0) 0) := by
        rw [e1, splice_two (nints inp) (nints st) (.int .i64 0) m (1 + d.ins) (by rw [nints_length, h1]) (by rw [nints_length, nints_length, h1, h2]; omega), nints_length, nints_length, h1, h2, show m - (1 + d.ins + d.next.length) = d.gates.length - 0 by omega]
        simp [nints, ints, nats]
      rw [e0, ← e2]
      refine own_of_block hz1 HG6.out ?_ (by unfold maxLen; omega)
      rw [e2, nints_length]
      simp [h1, h2]
      omega)
    have HT : Hid (∀ k, ∀ x ∈ Cir.tevalG (d.gates.take k) (0 :: (inp ++ st)), x ≤ 2) := Lib.hid fun k => Cir.tevalG_le _ fun x hx => by
      rcases List.mem_cons.1 hx with rfl | hx
      · omega
      · rcases List.mem_append.1 hx with h | h
        · exact T2.out x h
        · exact T1.out x h
    have HV : Hid (Cir.tevalG (d.gates.take d.gates.length) (0 :: (inp ++ st)) = Cir.tvals d st inp) := Lib.hid (by rw [List.take_length]; rfl)
    have HPf : Hid (∀ w', Below w.heap.size w w' → Calls Try.prog 128 #[.pointer (some ⟨g, 0, none⟩)] w' fun e w'' => e = .returned (.int .i64 (Cir.nfirst d : Nat)) ∧ Below w'.heap.size w' w'') := Lib.hid fun w' hb => by
      have := firstGate_any g _ w' (Hp.out.below hb) (by show (0 : Int) ≤ (d.ins : Int); omega) (by show (d.ins : Int) ≤ 100; omega) (by show (List.map _ _).length ≤ 100; rw [List.length_map]; omega)
      rwa [Cir.first_toCz] at this
    generalize Cir.tvals d st inp = res at *
    generalize Cir.nfirst d = nf at *
    generalize hI0 : (0 :: (inp ++ st)) = I0 at *
    clear hq hq' HQ HP c6 C0 C2 hww HB3 Hnd Hm hZ HG6 H1 H2 B1 Hs Hi Hp
    go_loopw [34] (fun i wr => ∃ k : Nat, k ≤ d.gates.length ∧ i = .int .i64 k ∧ Hid (wr.ownsRow w.heap.size 3 1 (.slice (some ⟨w1.heap.size, 0, none⟩) m m) m (nints (Cir.tevalG (d.gates.take k) I0 ++ List.replicate (d.gates.length - k) 0))) ∧ Below w.heap.size w wr) (fun i _ => d.gates.length - (intOf i).toNat)
    case atStart => exact ⟨0, Nat.zero_le _, rfl, Ho0, HB6.out⟩
    case round =>
      obtain ⟨k, hk, rfl, Ho, hb⟩ := hrel
      clear Ho0 HB6
      by_cases hlt : k < d.gates.length
      · obtain ⟨b, o, x, rfl, hbl, hx, hs1, hs2⟩ := cubes_open R2.out hb Hgl.out.symm (i := k) (by rw [Hgl.out]; exact hlt)
        obtain ⟨gt, hgt⟩ := at_some hlt
        have hxe : x = ((gt.1 : Int), (gt.2 : Int)) := by
          have h1 := hx.out
          unfold Cir.toCz at h1
          simp only [List.getElem?_map, hgt] at h1
          exact (Option.some.inj h1).symm
        subst hxe
        obtain ⟨g1, g2⟩ := HGt.out k gt hgt
        have hEk := HE.out k (by omega)
        have hTk := HT.out k
        have HS := Lib.hid (Cir.tevalG_take_snoc hgt I0)
        have hgv : Cir.tgval (Cir.tevalG (d.gates.take k) I0) gt = Cir.tand (Cir.tlit (Cir.tevalG (d.gates.take k) I0) gt.1) (Cir.tlit (Cir.tevalG (d.gates.take k) I0) gt.2) := rfl
        rw [hgv] at HS
        clear hgv hx hgt
        obtain ⟨E2, hE2⟩ : ∃ E2, Cir.tevalG (d.gates.take (k + 1)) I0 = E2 := ⟨_, rfl⟩
        rw [hE2] at HS
        have HE2 := Lib.hid hE2
        clear hE2
        generalize Cir.tevalG (d.gates.take k) I0 = E at *
        have Hb := Lib.hid hb
        have hz := hb.size
        have hlen : (E ++ List.replicate (d.gates.length - k) 0).length = m := by
          have := Hnf.out
          simp [hEk]
          omega
        have HL := Lib.hid hlen
        have HT0 : Hid (∀ x ∈ E ++ List.replicate (d.gates.length - k) 0, x ≤ 2) := Lib.hid fun x hx => by
          rcases List.mem_append.1 hx with h | h
          · exact hTk x h
          · rw [(List.mem_replicate.1 h).2]; omega
        have hmnf := Hnf.out
        have hkm : nf + k < m := by omega
        have HSet : ∀ u : Nat, Hid ((nints (E ++ List.replicate (d.gates.length - k) 0)).set (nf + k) (.int .i64 (u : Nat)) = nints (E ++ [u] ++ List.replicate (d.gates.length - (k + 1)) 0)) := fun u => Lib.hid (by
          have e : ∀ xs : List Nat, nints xs = xs.map fun x => Value.int .i64 (x : Nat) := fun xs => by unfold nints ints nats; rw [List.map_map]; rfl
          rw [e, e, show d.gates.length - (k + 1) = d.gates.length - k - 1 from by omega, ← set_mid_at E 0 u (d.gates.length - k) (nf + k) hEk.symm (by omega), List.map_set])
        have HA : Hid (∀ G, G < 2 * (nf + k) → Cir.tlit (E ++ List.replicate (d.gates.length - k) 0) G = Cir.tlit E G) := Lib.hid fun G hG => tlit_append (by omega)
        have hl1 := Cir.tlit_le hTk gt.1
        have hl2 := Cir.tlit_le hTk gt.2
        obtain ⟨G1, hG1⟩ : ∃ G1, G1 = gt.1 := ⟨_, rfl⟩
        obtain ⟨G2, hG2⟩ : ∃ G2, G2 = gt.2 := ⟨_, rfl⟩
        rw [← hG1] at g1 HS hs1 hl1
        rw [← hG2] at g2 HS hs2 hl2
        have hwk : IntKind.i64.wrap ((nf : Int) + (k : Int)) = (nf : Int) + (k : Int) := IntWalk.i64_in _ (by omega)
        have hix : ((nf : Int) + (k : Int)).toNat = nf + k := by omega
        obtain ⟨W8, hW8⟩ : ∃ W8, W8 = wr.alloc (.cells #[.int .i64 (G1 : Nat), .int .i64 (G2 : Nat)] 71) := ⟨_, rfl⟩
        have z8 : wr.heap.size < W8.heap.size := by rw [hW8]; simp
        have q0 : W8.cell? ⟨wr.heap.size, 0, none⟩ = some (.int .i64 (G1 : Nat)) := by rw [hW8]; exact World.cell?_alloc_new _ _ _ 0
        have q1 : W8.cell? ⟨wr.heap.size, 1, none⟩ = some (.int .i64 (G2 : Nat)) := by rw [hW8]; exact World.cell?_alloc_new _ _ _ 1
        have HB8 : Hid (Below w.heap.size w W8) := Lib.hid (by rw [hW8]; exact Hb.out.alloc hz _)
        have Ho8 := Lib.hid (own_below Ho.out (show Below wr.heap.size wr W8 by rw [hW8]; exact (Below.refl _ _).alloc (Nat.le_refl _) _))
        have k0 := gw_cell q0 z8
        have k1 := gw_cell q1 z8
        have HC : Hid (∀ (G : Nat) (n : GW W8), G < 2 * (nf + k) → Calls Try.prog 84 #[.slice (some ⟨w1.heap.size, 0, none⟩) m m, .int .i64 (G : Nat)] (gw n) fun e w' => e = .returned (.int .i64 (Cir.tlit E G : Nat)) ∧ gw n = w') := Lib.hid fun G n hG => by
          have := ternaryLit_any (.slice (some ⟨w1.heap.size, 0, none⟩) m m) _ G (gw n) (nats_own (own_below Ho8.out (gw_below n)) HL.out) (by rw [HL.out]; omega) (by omega) HT0.out
          rwa [HA.out G hG] at this
        have hW8' := hW8.symm
        clear hb hG1 hG2 hEk hlen hmnf hTk hW8 q0 q1
        go_wp2_with fail
        refine wp_region_grow (by kernel_rfl) (by kernel_rfl) ?_
        repeat (go_big_quiet_step ((go_at_call 84; exact grow_same (HC.out _ _ (by assumption)))))
        refine wpQuiet_nil ?_
        intro _ hw'
        obtain ⟨nq, hw''⟩ := hw'
        subst hw''
        have hgq := gw_below nq
        generalize gw nq = wq at *
        clear nq
        generalize Cir.tlit E G1 = A1 at *
        generalize Cir.tlit E G2 = A2 at *
        have HB9 := Lib.hid (HB8.out.trans (hgq.mono HB8.out.size))
        have Ho9 := Lib.hid (own_below Ho8.out hgq)
        clear hgq k0 k1 HC hW8' z8
        obtain ⟨u, hu⟩ : ∃ u, u = Cir.tand A1 A2 := ⟨_, rfl⟩
        rw [← hu] at HS
        have HU := Lib.hid hu
        clear hu
        have HPw := Lib.hid (HPf.out _ HB9.out)
        have h9z := HB9.out.size
        clear HPf
        obtain rfl | rfl | rfl : A1 = 0 ∨ A1 = 1 ∨ A1 = 2 := by omega
        all_goals
          obtain rfl | rfl | rfl : A2 = 0 ∨ A2 = 1 ∨ A2 = 2 := by omega
          all_goals
            go_wp2_with fail
            refine HPw.out.mono ?_
            rintro e w9 ⟨rfl, hb9⟩
            have HbA := Lib.hid (HB9.out.trans (hb9.mono h9z))
            have HoA := Lib.hid (own_below Ho9.out hb9)
            obtain ⟨u0, _, hd0, hf0⟩ := own_slot HoA.out (j := nf + k) (by omega)
            have Hst := fun u : Nat => Lib.hid (HoA.out.stored (nf + k) (.int .i64 (u : Nat)))
            have HEe : Hid (nints (E2 ++ List.replicate (d.gates.length - (k + 1)) 0) = nints (E ++ [u] ++ List.replicate (d.gates.length - (k + 1)) 0)) := Lib.hid (by rw [HS.out])
            have huu := HU.out
            unfold Cir.tand at huu
            simp at huu
            subst huu
            clear hb9
            go_wp2_with fail
            go_roundw
            case rel => exact ⟨k + 1, by omega, by go_num, Lib.hid (by rw [HE2.out, HEe.out, ← (HSet _).out]; exact (Hst _).out.1), HbA.out.grown (Hst _).out.2 HbA.out.size (fun q hq => by have := Option.some.inj hq; omega)⟩
            case measure => simp [intOf] <;> omega
      · obtain rfl : k = d.gates.length := by omega
        have HR : Hid (res.length = m ∧ nints (Cir.tevalG (d.gates.take d.gates.length) I0 ++ List.replicate (d.gates.length - d.gates.length) 0) = nints res) := Lib.hid ⟨by rw [← HV.out, HE.out _ (Nat.le_refl _), Hnf.out], by rw [HV.out, Nat.sub_self]; simp⟩
        go_wp2_with fail
        go_ret
        refine ⟨_, rfl, ?_, hb⟩
        rw [nats_length, HR.out.1]
        have := Ho.out
        rw [HR.out.2] at this
        exact this
end Go.Proofs.Ytmlcbikljlhhkaa
