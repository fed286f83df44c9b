import Derived.Test.YtmlcbikljlhhkaaTernC
namespace Go.Proofs.Ytmlcbikljlhhkaa
open Go.RowKit
set_option maxRecDepth 100000
theorem cell_only {E : Nat → Prop} {w w' : World} {g i : Nat} {u : Value} (ho : Only E w w') (hn : ¬ E g) (hl : g < w.heap.size) (h : w.cell? ⟨g, i, none⟩ = some u) : w'.cell? ⟨g, i, none⟩ = some u := cell_on ho hn hl h
set_option maxHeartbeats 16000000 in
theorem specEvalT_ok (v vs vi : Value) (d : Ci) (st inp : List Nat) (w : World) (h : CircAt w v (Cir.toCz d)) (hd : Cir.Ok d) (hv : Cir.valid (Cir.toCz d) = true) (hs : NatsAt w vs st) (hi : NatsAt w vi inp) (h1 : inp.length = d.ins) (h2 : st.length = d.next.length) (t1 : ∀ x ∈ st, x ≤ 2) (t2 : ∀ x ∈ inp, x ≤ 2) :
    Calls Try.prog 20 #[v, vs, vi] w (OwnInts (nats (Cir.tvals d st inp)) w) := by
  have l1 := hd.ins
  have l2 := hd.nexts
  have l3 := hd.gatess
  have HG := Lib.hid hd.gate
  have hnl : (Cir.toCz d).next.length = d.next.length := List.length_map _
  have hgl : (Cir.toCz d).gates.length = d.gates.length := List.length_map _
  have HCa := Lib.hid h
  obtain ⟨vn, vg, vo, rfl, r1, r2, r3⟩ := h
  obtain ⟨An, cn, hvn, hcn, hcmn⟩ := r1.shape
  obtain ⟨Ag, cg, hvg, hcg, hcmg⟩ := Row.shape r2
  rw [hnl] at hvn
  rw [hgl] at hvg hcg
  subst hvn hvg
  have hins : (Cir.toCz d).ins = (d.ins : Int) := rfl
  rw [hins] at HCa ⊢
  have B0 := Lib.hid (bel_al w (.cells #[.int .i64 d.ins, .slice An d.next.length cn, .slice Ag d.gates.length cg, vo] 30))
  have PC := Lib.hid (PCells.boxed w d.ins (.slice An d.next.length cn) (.slice Ag d.gates.length cg) vo 30)
  have R2 : Hid (Row w 2 (.slice Ag d.gates.length cg) d.gates.length (cubes (Cir.toCz d).gates)) := Lib.hid (by have := r2; unfold CubesAt at this; rwa [hgl] at this)
  have HV : Hid (Calls Try.prog 59 #[.agg #[.int .i64 d.ins, .slice An d.next.length cn, .slice Ag d.gates.length cg, vo]] (w.alloc (.cells #[.int .i64 d.ins, .slice An d.next.length cn, .slice Ag d.gates.length cg, vo] 30)) fun e w' => e = .returned (.bool true) ∧ Below (w.alloc (.cells #[.int .i64 d.ins, .slice An d.next.length cn, .slice Ag d.gates.length cg, vo] 30)).heap.size (w.alloc (.cells #[.int .i64 d.ins, .slice An d.next.length cn, .slice Ag d.gates.length cg, vo] 30)) w') := Lib.hid (by
    have := specValid_any _ _ _ (HCa.out.below B0.out)
    rwa [hv] at this)
  have a1 : (nats st).all Cir.tern = true := by
    rw [List.all_eq_true]
    intro x hx
    obtain ⟨y, hy, rfl⟩ := List.mem_map.1 hx
    have := t1 y hy
    exact decide_eq_true (by simp; omega)
  have a2 : (nats inp).all Cir.tern = true := by
    rw [List.all_eq_true]
    intro x hx
    obtain ⟨y, hy, rfl⟩ := List.mem_map.1 hx
    have := t2 y hy
    exact decide_eq_true (by simp; omega)
  have HO1 : Hid (∀ w', Below w.heap.size w w' → Calls Try.prog 71 #[vs, .int .i64 d.next.length] w' fun e w'' => e = .returned (.bool true) ∧ w' = w'') := Lib.hid fun w' hb => by
    have := l27Ok_any vs (nats st) d.next.length w' (Row.below hs hb)
    rwa [a1, nats_length, h2, decide_eq_true rfl] at this
  have HO2 : Hid (∀ w', Below w.heap.size w w' → Calls Try.prog 71 #[vi, .int .i64 d.ins] w' fun e w'' => e = .returned (.bool true) ∧ w' = w'') := Lib.hid fun w' hb => by
    have := l27Ok_any vi (nats inp) d.ins w' (Row.below hi hb)
    rwa [a2, nats_length, h1, decide_eq_true rfl] at this
  have Hs := Lib.hid hs
  have Hi := Lib.hid hi
  have HE : Hid (∀ k, k ≤ d.gates.length → (Cir.tevalG (d.gates.take k) (0 :: (inp ++ st))).length = Cir.nfirst d + k) := Lib.hid fun k hk => by
    rw [Cir.tevalG_length]
    simp [Cir.nfirst, h1, h2]
    omega
  have HT : Hid (∀ k, ∀ x ∈ Cir.tevalG (d.gates.take k) (0 :: (inp ++ st)), x ≤ 2) := Lib.hid fun k => Cir.tevalG_le _ fun x hx => by
    rcases List.mem_cons.1 hx with rfl | hx
    · omega
    · rcases List.mem_append.1 hx with h | h
      · exact t2 x h
      · exact t1 x h
  have hnf : Cir.nfirst d ≤ 8 := by unfold Cir.nfirst; omega
  have HVV : Hid (Cir.tevalG (d.gates.take d.gates.length) (0 :: (inp ++ st)) = Cir.tvals d st inp) := Lib.hid (by rw [List.take_length]; rfl)
  have HI0 : Hid (nints (0 :: (inp ++ st)) = [.int .i64 0] ++ nints inp ++ nints st ∧ (0 :: (inp ++ st)).length = 1 + inp.length + st.length) := Lib.hid (by simp [nints, ints, nats]; omega)
  have hi4 : inp.length ≤ 4 := by omega
  have hs3 : st.length ≤ 3 := by omega
  generalize Cir.tvals d st inp = res at *
  generalize Cir.nfirst d = nf at *
  generalize (0 :: (inp ++ st)) = I0 at *
  generalize hW : w.alloc (.cells #[.int .i64 d.ins, .slice An d.next.length cn, .slice Ag d.gates.length cg, vo] 30) = W at *
  obtain ⟨z, p0, p1, p2, p3⟩ := PC.out
  clear r1 r2 r3 hs hi h1 h2 t1 t2 a1 a2 hv hd hnl HCa hins
  obtain ⟨i0, hi0, hz0, hz1, hz2⟩ := info_parts info_int
  go_enter Try.func20, Try.ntmps20
  go_wp2_with fail
  refine HV.out.mono ?_
  rintro e w1 ⟨rfl, hb1⟩
  have B1 := Lib.hid (B0.out.trans (hb1.mono B0.out.size))
  have PC1 := Lib.hid (PC.out.below hb1)
  clear z p0 p1 p2 p3 hb1 PC
  obtain ⟨z, p0, p1, p2, p3⟩ := PC1.out
  go_wp2_with fail
  refine (HO1.out _ B1.out).mono ?_
  rintro e w' ⟨rfl, rfl⟩
  go_wp2_with fail
  refine (HO2.out _ B1.out).mono ?_
  rintro e w' ⟨rfl, rfl⟩
  have hzw : w.heap.size + 1 ≤ w1.heap.size := by omega
  have Hlit : Hid ((w1.alloc (.cells #[.int .i64 0] 3)).ownsRow (w.heap.size + 1) 3 1 (.slice (some ⟨w1.heap.size, 0, none⟩) 1 1) 1 [.int .i64 0]) := Lib.hid (World.ownsRow_lit (base := w.heap.size + 1) (e := 3) (size := 1) w1 #[.int .i64 0] 1 hzw (by unfold maxLen; omega) rfl)
  have Bl := Lib.hid (B1.out.alloc B1.out.size (.cells #[.int .i64 0] 3))
  have PCl := Lib.hid (cells_alloc PC1.out (.cells #[.int .i64 0] 3))
  clear HO1 HO2 HV hW p0 p1 p2 p3 z
  go_wp2_with (first
    | (at_builtin; refine append_ints rfl (.tmp 28) (.tmp 29) rfl (w.heap.size + 1) _ 1 [.int .i64 0] rfl Hlit.out _ inp.length (nints inp) rfl (by have := Row.below Hi.out Bl.out; rwa [nats_length] at this) (nints_one _) (by omega) (by simp; omega) ?_; intro v5 w5 hown5 hg5 hat5; have Ho5 := Lib.hid hown5; have P5 := Lib.hid (PCl.out.grown hg5 (own_ne Hlit.out (by omega))); have B5 := Lib.hid (Bl.out.grown hg5 Bl.out.size (fun q hq => by have := (Hlit.out.lt q hq).1; omega)); have z5 := hg5.size; clear hown5 hg5 hat5)
    | (at_builtin; refine append_ints rfl (.tmp 31) (.tmp 32) rfl (w.heap.size + 1) _ (1 + inp.length) ([Value.int .i64 0] ++ nints inp) rfl Ho5.out _ st.length (nints st) rfl (by have := Row.below Hs.out B5.out; rwa [nats_length] at this) (nints_one _) (by omega) (by simp at z5; omega) ?_; intro v6 w6 hown6 hg6 hat6; have Ho6 := Lib.hid hown6; have P6 := Lib.hid (P5.out.grown hg6 (own_ne Ho5.out (by omega))); have B6 := Lib.hid (B5.out.grown hg6 B5.out.size (fun q hq => by have := (Ho5.out.lt q hq).1; omega)); clear hown6 hg6 hat6))
  go_loopw [7, 8] (fun v i wr => ∃ (vv : Value) (k : Nat), vv = v ∧ k ≤ d.gates.length ∧ i = .int .i64 k ∧ Hid (wr.ownsRow (w.heap.size + 1) 3 1 v (nf + k) (nints (Cir.tevalG (d.gates.take k) I0))) ∧ Hid (PCells wr w.heap.size d.ins (.slice An d.next.length cn) (.slice Ag d.gates.length cg) vo) ∧ Below w.heap.size w wr) (fun _ i _ => d.gates.length - (intOf i).toNat)
  case atStart =>
    refine ⟨_, 0, rfl, Nat.zero_le _, rfl, Lib.hid ?_, P6, B6.out⟩
    have := Ho6.out
    have e : Cir.tevalG (d.gates.take 0) I0 = I0 := rfl
    have hl0 := HE.out 0 (Nat.zero_le _)
    rw [e] at hl0
    rw [e, HI0.out.1, ← hl0, HI0.out.2]
    exact this
  case round =>
    obtain ⟨vv, k, hvv, hk, rfl, Ho, P, hb⟩ := hrel
    subst hvv
    by_cases hlt : k < d.gates.length
    · obtain ⟨b, o, x, rfl, hbl, hx, hs1, hs2⟩ := cubes_open R2.out hb hgl.symm (i := k) (by omega)
      obtain ⟨gt, hgt⟩ := at_some hlt
      have hxe : x = ((gt.1 : Int), (gt.2 : Int)) := by
        have h1 := hx.out
        unfold Cir.toCz at h1
        simp only [List.getElem?_map, hgt] at h1
        exact (Option.some.inj h1).symm
      subst hxe
      obtain ⟨g1, g2⟩ := HG.out k gt hgt
      have hEk := HE.out k (by omega)
      have hTk := HT.out k
      have HS : Hid (nints (Cir.tevalG (d.gates.take (k + 1)) I0) = nints (Cir.tevalG (d.gates.take k) I0) ++ [.int .i64 (Cir.tand (Cir.tlit (Cir.tevalG (d.gates.take k) I0) gt.1) (Cir.tlit (Cir.tevalG (d.gates.take k) I0) gt.2) : Nat)]) := Lib.hid (by rw [Cir.tevalG_take_snoc hgt, nints_append]; rfl)
      clear hx hgt
      obtain ⟨E2, hE2⟩ : ∃ E2, Cir.tevalG (d.gates.take (k + 1)) I0 = E2 := ⟨_, rfl⟩
      rw [hE2] at HS
      have HE2 := Lib.hid hE2
      clear hE2
      generalize Cir.tevalG (d.gates.take k) I0 = E at *
      have Hb := Lib.hid hb
      have hzr := hb.size
      have hl1 := Cir.tlit_le hTk gt.1
      have hl2 := Cir.tlit_le hTk gt.2
      obtain ⟨G1, hG1⟩ : ∃ G1, G1 = gt.1 := ⟨_, rfl⟩
      obtain ⟨G2, hG2⟩ : ∃ G2, G2 = gt.2 := ⟨_, rfl⟩
      rw [← hG1] at g1 HS hs1 hl1
      rw [← hG2] at g2 HS hs2 hl2
      have HTk := Lib.hid hTk
      have HEk := Lib.hid hEk
      obtain ⟨z, p0, p1, p2, p3⟩ := P.out
      have hNb : ¬ (vv.ownBlock = some b) := fun e => by have := (Ho.out.lt _ e).1; omega
      have hNg : ¬ (vv.ownBlock = some w.heap.size) := fun e => by have := (Ho.out.lt _ e).1; omega
      have HR : Hid (∀ w', w'.ownsRow (w.heap.size + 1) 3 1 vv (nf + k) (nints E) → NatsAt w' vv E) := Lib.hid fun w' h => nats_own h hEk
      clear hb hG1 hG2 hEk hTk
      go_wp2_with fail
      have hO := fun ops a => appRS_ok (Pg := Try.prog) (ops := ops) (a := a) (news := [.int .i64 (Cir.tand (Cir.tlit E G1) (Cir.tlit E G2) : Nat)]) (d := 19) Ho.out
      refine wp_region_rs (appRS Try.prog _ wr _ (w.heap.size + 1) 3 1 vv (nf + k) (nints E) [.int .i64 (Cir.tand (Cir.tlit E G1) (Cir.tlit E G2) : Nat)] 19) (hO _ _) (by kernel_rfl) (by kernel_rfl) (by kernel_rfl) (Nat.le_of_ble_eq_true rfl) trivial Ho.out ?_
      have HGS : ∀ w', Only (fun g => vv.ownBlock = some g) wr w' → w'.cell? ⟨w.heap.size, 2, none⟩ = some (.slice (some ⟨b, o, none⟩) d.gates.length cg) := fun w' ho => cell_only ho hNg z p2
      have HB1 : ∀ w', Only (fun g => vv.ownBlock = some g) wr w' → w'.cell? ⟨b, o + k * 2, none⟩ = some (.int .i64 (G1 : Nat)) := fun w' ho => cell_only ho hNb (by omega) hs1
      have HB2 : ∀ w', Only (fun g => vv.ownBlock = some g) wr w' → w'.cell? ⟨b, o + k * 2 + 1, none⟩ = some (.int .i64 (G2 : Nat)) := fun w' ho => cell_only ho hNb (by omega) hs2
      refine rs_old (hO _ _) (.inl (Nat.ne_of_beq_eq_false rfl)) _ (.inl rfl) _ rfl rfl ?_
      refine rs_old (hO _ _) (.inl (Nat.ne_of_beq_eq_false rfl)) _ (.inl rfl) _ rfl rfl ?_
      refine rs_look (hO _ _) (.inl (Nat.ne_of_beq_eq_false rfl)) (TEq (.pointer (some ⟨w.heap.size, 2, none⟩))) (stb_eq _ _) (fun ρ w' ho hK => by
        obtain ⟨h0, -⟩ := hK
        have h0' : ρ (.tmp 3) = .pointer (some ⟨w.heap.size, 0, none⟩) := h0
        refine ⟨_, ?_, rfl⟩
        go_simp) ?_
      refine rs_look (hO _ _) (.inl (Nat.ne_of_beq_eq_false rfl)) (TEq (.slice (some ⟨b, o, none⟩) d.gates.length cg)) (stb_eq _ _) (fun ρ w' ho hK => by
        obtain ⟨h0, -⟩ := hK
        have h0' : ρ (.tmp 43) = .pointer (some ⟨w.heap.size, 2, none⟩) := h0
        have q := HGS w' ho
        refine ⟨_, ?_, rfl⟩
        go_simp) ?_
      refine rs_old (hO _ _) (.inl (Nat.ne_of_beq_eq_false rfl)) _ (.inl rfl) _ rfl rfl ?_
      refine rs_look (hO _ _) (.inl (Nat.ne_of_beq_eq_false rfl)) (TEq (.pointer (some ⟨b, o + k * 2, none⟩))) (stb_eq _ _) (fun ρ w' ho hK => by
        obtain ⟨h0, h1, -⟩ := hK
        have h0' : ρ (.tmp 44) = .slice (some ⟨b, o, none⟩) d.gates.length cg := h0
        have h1' : ρ (.tmp 45) = .int .i64 (k : Nat) := h1
        refine ⟨_, ?_, rfl⟩
        go_simp) ?_
      refine rs_look (hO _ _) (.inl (Nat.ne_of_beq_eq_false rfl)) (TEq (.pointer (some ⟨b, o + k * 2, none⟩))) (stb_eq _ _) (fun ρ w' ho hK => by
        obtain ⟨h0, -⟩ := hK
        have h0' : ρ (.tmp 46) = .pointer (some ⟨b, o + k * 2, none⟩) := h0
        refine ⟨_, ?_, rfl⟩
        go_simp) ?_
      refine rs_look (hO _ _) (.inl (Nat.ne_of_beq_eq_false rfl)) (TEq (.int .i64 (G1 : Nat))) (stb_eq _ _) (fun ρ w' ho hK => by
        obtain ⟨h0, -⟩ := hK
        have h0' : ρ (.tmp 47) = .pointer (some ⟨b, o + k * 2, none⟩) := h0
        have q := HB1 w' ho
        refine ⟨_, ?_, rfl⟩
        go_simp) ?_
      refine rs_call_before (hO _ _) (Nat.ne_of_beq_eq_false rfl) (by kernel_rfl) (TEq (.int .i64 (Cir.tlit E G1 : Nat))) (stb_eq _ _) 73 _ _ rfl (fun ρ w' ho hJ hK => by
        obtain ⟨hf, h0, h1, -⟩ := hK
        have hf' : ρ (.func 73) = .func (.func 73) #[] #[] := hf
        have h0' : ρ (.tmp 42) = vv := h0
        have h1' : ρ (.tmp 48) = .int .i64 (G1 : Nat) := h1
        refine ⟨#[vv, .int .i64 (G1 : Nat)], ?_, ?_⟩
        · go_simp
        · refine (l27Lit_any vv E G1 w' (HR.out w' hJ) (by rw [HEk.out]; exact g1) (by omega) HTk.out).mono ?_
          rintro e w2 ⟨rfl, rfl⟩
          exact ⟨_, rfl, rfl, Below.refl _ _⟩) ?_
      refine rs_old (hO _ _) (.inl (Nat.ne_of_beq_eq_false rfl)) _ (.inl rfl) _ rfl rfl ?_
      refine rs_look (hO _ _) (.inl (Nat.ne_of_beq_eq_false rfl)) (TEq (.pointer (some ⟨w.heap.size, 2, none⟩))) (stb_eq _ _) (fun ρ w' ho hK => by
        obtain ⟨h0, -⟩ := hK
        have h0' : ρ (.tmp 3) = .pointer (some ⟨w.heap.size, 0, none⟩) := h0
        refine ⟨_, ?_, rfl⟩
        go_simp) ?_
      refine rs_look (hO _ _) (.inl (Nat.ne_of_beq_eq_false rfl)) (TEq (.slice (some ⟨b, o, none⟩) d.gates.length cg)) (stb_eq _ _) (fun ρ w' ho hK => by
        obtain ⟨h0, -⟩ := hK
        have h0' : ρ (.tmp 51) = .pointer (some ⟨w.heap.size, 2, none⟩) := h0
        have q := HGS w' ho
        refine ⟨_, ?_, rfl⟩
        go_simp) ?_
      refine rs_old (hO _ _) (.inl (Nat.ne_of_beq_eq_false rfl)) _ (.inl rfl) _ rfl rfl ?_
      refine rs_look (hO _ _) (.inl (Nat.ne_of_beq_eq_false rfl)) (TEq (.pointer (some ⟨b, o + k * 2, none⟩))) (stb_eq _ _) (fun ρ w' ho hK => by
        obtain ⟨h0, h1, -⟩ := hK
        have h0' : ρ (.tmp 52) = .slice (some ⟨b, o, none⟩) d.gates.length cg := h0
        have h1' : ρ (.tmp 53) = .int .i64 (k : Nat) := h1
        refine ⟨_, ?_, rfl⟩
        go_simp) ?_
      refine rs_look (hO _ _) (.inl (Nat.ne_of_beq_eq_false rfl)) (TEq (.pointer (some ⟨b, o + k * 2 + 1, none⟩))) (stb_eq _ _) (fun ρ w' ho hK => by
        obtain ⟨h0, -⟩ := hK
        have h0' : ρ (.tmp 54) = .pointer (some ⟨b, o + k * 2, none⟩) := h0
        refine ⟨_, ?_, rfl⟩
        go_simp) ?_
      refine rs_look (hO _ _) (.inl (Nat.ne_of_beq_eq_false rfl)) (TEq (.int .i64 (G2 : Nat))) (stb_eq _ _) (fun ρ w' ho hK => by
        obtain ⟨h0, -⟩ := hK
        have h0' : ρ (.tmp 55) = .pointer (some ⟨b, o + k * 2 + 1, none⟩) := h0
        have q := HB2 w' ho
        refine ⟨_, ?_, rfl⟩
        go_simp) ?_
      refine rs_call_before (hO _ _) (Nat.ne_of_beq_eq_false rfl) (by kernel_rfl) (TEq (.int .i64 (Cir.tlit E G2 : Nat))) (stb_eq _ _) 73 _ _ rfl (fun ρ w' ho hJ hK => by
        obtain ⟨hf, h0, h1, -⟩ := hK
        have hf' : ρ (.func 73) = .func (.func 73) #[] #[] := hf
        have h0' : ρ (.tmp 50) = vv := h0
        have h1' : ρ (.tmp 56) = .int .i64 (G2 : Nat) := h1
        refine ⟨#[vv, .int .i64 (G2 : Nat)], ?_, ?_⟩
        · go_simp
        · refine (l27Lit_any vv E G2 w' (HR.out w' hJ) (by rw [HEk.out]; exact g2) (by omega) HTk.out).mono ?_
          rintro e w2 ⟨rfl, rfl⟩
          exact ⟨_, rfl, rfl, Below.refl _ _⟩) ?_
      refine rs_call (hO _ _) (.inl (Nat.ne_of_beq_eq_false rfl)) (TEq (.int .i64 (Cir.tand (Cir.tlit E G1) (Cir.tlit E G2) : Nat))) (stb_eq _ _) 72 _ _ rfl (fun ρ w' ho hK => by
        obtain ⟨hf, h0, h1, -⟩ := hK
        have hf' : ρ (.func 72) = .func (.func 72) #[] #[] := hf
        have h0' : ρ (.tmp 49) = .int .i64 (Cir.tlit E G1 : Nat) := h0
        have h1' : ρ (.tmp 57) = .int .i64 (Cir.tlit E G2 : Nat) := h1
        refine ⟨#[.int .i64 (Cir.tlit E G1 : Nat), .int .i64 (Cir.tlit E G2 : Nat)], ?_, ?_⟩
        · go_simp
        · refine (l27And_any _ _ w' hl1 hl2).mono ?_
          rintro e w2 ⟨rfl, rfl⟩
          exact ⟨_, rfl, rfl, Below.refl _ _⟩) ?_
      refine rs_build1 (hO _ _) (.inl (Nat.ne_of_beq_eq_false rfl)) 1 [.int .i64 (Cir.tand (Cir.tlit E G1) (Cir.tlit E G2) : Nat)] 3 rfl (fun ρ w' ho hK => by
        obtain ⟨h1, -⟩ := hK
        have h1' : ρ (.tmp 58) = .int .i64 (Cir.tand (Cir.tlit E G1) (Cir.tlit E G2) : Nat) := h1
        go_simp) ?_
      refine rs_append1 rfl (w.heap.size + 1) 3 22 1 vv (nf + k) (nints E) _ rfl rfl (fun g hg => hg) (show w.heap.size + 1 ≤ wr.heap.size by omega) _ _ rfl _ _ rfl rfl rfl rfl i0 _ 8 Try.underlying22 hi0 hz0 hz1 hz2 rfl (by decide) (by omega) (by decide) (by simp [Value.oneCell']) ?_
      refine rs_same (hO _ _) (.inl (Nat.ne_of_beq_eq_false rfl)) _ _ (.inr rfl) rfl _ rfl ?_
      intro f w9 k9 hk9 hI9 ht9 hcp9
      have hfe : f 20 = f 19 := (hcp9 20 _ 60 19 rfl rfl rfl rfl).2
      have hown9 : w9.ownsRow (w.heap.size + 1) 3 1 (f 19) (nf + k + 1) (nints E ++ [.int .i64 (Cir.tand (Cir.tlit E G1) (Cir.tlit E G2) : Nat)]) := hI9.2.2
      have Ho9 := Lib.hid hown9
      have hon : Only (fun g => vv.ownBlock = some g) wr w9 := hI9.2.1
      have HB9 : Hid (Below w.heap.size w w9) := Lib.hid (Only.below Hb.out hon hzr (fun g hg => by have := (Ho.out.lt g hg).1; omega))
      have P9 : Hid (PCells w9 w.heap.size d.ins (.slice An d.next.length cn) (.slice (some ⟨b, o, none⟩) d.gates.length cg) vo) := Lib.hid ⟨Nat.lt_of_lt_of_le z hon.size, cell_only hon hNg z p0, cell_only hon hNg z p1, cell_only hon hNg z p2, cell_only hon hNg z p3⟩
      simp only [putAll, hfe, Nat.zero_add, Nat.reduceAdd, Act.put, List.setIfInBounds_toArray, List.set_cons_succ, List.set_cons_zero]
      generalize f 19 = v9 at *
      generalize f 0 = z0, f 1 = z1, f 2 = z2, f 3 = z3, f 4 = z4, f 5 = z5, f 6 = z6, f 7 = z7, f 8 = z8, f 9 = z9, f 10 = z10, f 11 = z11, f 12 = z12, f 13 = z13, f 14 = z14, f 15 = z15, f 16 = z16, f 17 = z17, f 18 = z18
      clear hI9 ht9 hcp9 hk9 hfe hown9 hon HGS HB1 HB2 hO p0 p1 p2 p3
      go_wp2_with fail
      go_roundw
      case rel => exact ⟨v9, k + 1, rfl, by omega, by go_num, Lib.hid (by rw [HE2.out, HS.out]; exact Ho9.out), P9, HB9.out⟩
      case measure => simp [intOf] <;> omega
    · obtain rfl : k = d.gates.length := by omega
      obtain ⟨z, p0, p1, p2, p3⟩ := P.out
      have HLn := Lib.hid (HE.out d.gates.length (Nat.le_refl _))
      go_wp2_with fail
      go_ret
      refine ⟨_, rfl, ?_, hb⟩
      rw [nats_length, ← HVV.out, HLn.out]
      exact own_mono Ho.out (by omega)
set_option maxHeartbeats 8000000 in
theorem specEvalT_any (v vs vi : Value) (c : Cz) (st inp : List Int) (w : World) (h : CircAt w v c) (hs : IntsAt w vs st) (hi : IntsAt w vi inp) :
    Calls Try.prog 20 #[v, vs, vi] w (OwnInts (Cir.evalT c st inp) w) := by
  cases hok : Cir.evalOk c st inp
  · rw [Cir.evalT_no hok]
    obtain ⟨vn, vg, vo, rfl, r1, r2, r3⟩ := h
    obtain ⟨An, cn, hvn, hcn, hcmn⟩ := r1.shape
    subst hvn
    have B0 := Lib.hid (bel_al w (.cells #[.int .i64 c.ins, .slice An c.next.length cn, vg, vo] 30))
    obtain ⟨z, p0, p1, p2, p3⟩ := PCells.boxed w c.ins (.slice An c.next.length cn) vg vo 30
    have HC : Hid (CircAt (w.alloc (.cells #[.int .i64 c.ins, .slice An c.next.length cn, vg, vo] 30)) (.agg #[.int .i64 c.ins, .slice An c.next.length cn, vg, vo]) c) := Lib.hid (CircAt.below ⟨_, _, _, rfl, r1, r2, r3⟩ B0.out)
    generalize hW : w.alloc (.cells #[.int .i64 c.ins, .slice An c.next.length cn, vg, vo] 30) = W at *
    have HV := Lib.hid (specValid_any _ c _ HC.out)
    have HO1 := Lib.hid fun w' (hb : Below w.heap.size w w') => l27Ok_any vs st c.next.length w' (Row.below hs hb)
    have HO2 := Lib.hid fun w' (hb : Below w.heap.size w w') => l27Ok_any vi inp c.ins w' (Row.below hi hb)
    clear r1 r2 r3 hs hi HC
    have hcs : Cir.valid c = false ∨ (Cir.valid c = true ∧ (st.all Cir.tern && decide ((st.length : Int) = c.next.length)) = false) ∨ (Cir.valid c = true ∧ (st.all Cir.tern && decide ((st.length : Int) = c.next.length)) = true ∧ (inp.all Cir.tern && decide ((inp.length : Int) = c.ins)) = false) := by
      unfold Cir.evalOk at hok
      have e : decide ((st.length : Int) = c.next.length) = decide (st.length = c.next.length) := decide_eq_decide.2 (by omega)
      rw [e]
      revert hok
      cases Cir.valid c <;> cases decide (st.length = c.next.length) <;> cases decide ((inp.length : Int) = c.ins) <;> cases st.all Cir.tern <;> cases inp.all Cir.tern <;> simp
    rcases hcs with h1 | ⟨h1, h2⟩ | ⟨h1, h2, h3⟩
    · rw [h1] at HV
      clear h1 hok
      go_enter Try.func20, Try.ntmps20
      go_wp2_with fail
      refine HV.out.mono ?_
      rintro e w1 ⟨rfl, hb1⟩
      have B1 := Lib.hid (B0.out.trans (hb1.mono B0.out.size))
      clear hb1
      go_wp2_with fail
      go_ret
      exact own_lit0 w w1 B1.out 3
    · rw [h1] at HV
      rw [h2] at HO1
      clear h1 h2 hok
      go_enter Try.func20, Try.ntmps20
      go_wp2_with fail
      refine HV.out.mono ?_
      rintro e w1 ⟨rfl, hb1⟩
      have B1 := Lib.hid (B0.out.trans (hb1.mono B0.out.size))
      have k0 := (hb1.cell (p := ⟨w.heap.size, 0, none⟩) z).trans p0
      have k1 := (hb1.cell (p := ⟨w.heap.size, 1, none⟩) z).trans p1
      clear hb1 p0 p1 p2 p3
      go_wp2_with fail
      refine (HO1.out _ B1.out).mono ?_
      rintro e w' ⟨rfl, rfl⟩
      go_wp2_with fail
      go_ret
      exact own_lit0 w w1 B1.out 3
    · rw [h1] at HV
      rw [h2] at HO1
      rw [h3] at HO2
      clear h1 h2 h3 hok
      go_enter Try.func20, Try.ntmps20
      go_wp2_with fail
      refine HV.out.mono ?_
      rintro e w1 ⟨rfl, hb1⟩
      have B1 := Lib.hid (B0.out.trans (hb1.mono B0.out.size))
      have k0 := (hb1.cell (p := ⟨w.heap.size, 0, none⟩) z).trans p0
      have k1 := (hb1.cell (p := ⟨w.heap.size, 1, none⟩) z).trans p1
      clear hb1 p0 p1 p2 p3
      go_wp2_with fail
      refine (HO1.out _ B1.out).mono ?_
      rintro e w' ⟨rfl, rfl⟩
      go_wp2_with fail
      refine (HO2.out _ B1.out).mono ?_
      rintro e w' ⟨rfl, rfl⟩
      go_wp2_with fail
      go_ret
      exact own_lit0 w w1 B1.out 3
  · have hk := hok
    unfold Cir.evalOk at hk
    simp only [Bool.and_eq_true, decide_eq_true_eq] at hk
    obtain ⟨hv, k1, k2, k3, k4⟩ := hk
    obtain ⟨d1, d2⟩ := Cir.nat_ok hv
    obtain ⟨n1, m1⟩ := Cir.tern_nats k3
    obtain ⟨n2, m2⟩ := Cir.tern_nats k4
    have hR : Cir.evalT c st inp = nats (Cir.tvals (Cir.nat c) (st.map Int.toNat) (inp.map Int.toNat)) := by unfold Cir.evalT; rw [if_pos hok]
    rw [hR]
    refine specEvalT_ok v vs vi (Cir.nat c) _ _ w (by rw [← d1]; exact h) d2 (by rw [← d1]; exact hv) (by unfold NatsAt; rw [← n1]; exact hs) (by unfold NatsAt; rw [← n2]; exact hi) ?_ ?_ m1 m2
    · rw [List.length_map]
      have e : (Cir.nat c).ins = c.ins.toNat := rfl
      omega
    · rw [List.length_map]
      have e : (Cir.nat c).next.length = c.next.length := List.length_map _
      rw [e]
      exact k1
end Go.Proofs.Ytmlcbikljlhhkaa
