import Derived.Test.YtdgminjbgjbamaaS08
import Derived.Test.YtdgminjbgjbamaaS07
import Derived.Laws.BytesArg
import Derived.Test.YtdgminjbgjbamaaS03
import Derived.Test.YtdgminjbgjbamaaS06
import Derived.Test.YtdgminjbgjbamaaS02
import Derived.BigRegion
import Derived.Deep.Cut
import Derived.Great.BuildSlice
set_option linter.unusedVariables false
set_option linter.unusedSimpArgs false
namespace Go.Proofs.Ytdgminjbgjbamaa
open Go.RowKit Go.Maps
set_option maxRecDepth 100000
set_option maxHeartbeats 8000000
/-! The optimized circuit, by the program. -/
section
variable {S : RS} {Fin : List Ty → Prop} {o : Oper} {l : List Oper} {i : Nat} {τs : List Ty}
/-- A call that writes to blocks of its own. -/
theorem rs_callW (hd : i = S.d) {R0 R1 : World → Prop} (hJ : S.J = JStep R0 R1) (hrd : S.rd = none) (T : Ty) (hT : Stb S.E T) (f : FuncId) (args : Array Operand) (at_ : Array TypeId) (ho : o.op = .call { callee := .value (.func f), args := args, argTypes := at_ })
    (h : ∀ ρ w, Only S.E S.w0 w → R0 w → Known S.ops (tys τs) S.a0 ρ w i (.func f :: args.toList) → ∃ vs, (execOp ρ o).run S.P w = .ok (.enter f vs) w ∧ Calls S.P f vs w fun e w' => ∃ v, e = .returned v ∧ T w' v ∧ R1 w' ∧ Only S.E w w')
    (rest : RSeq S Fin l (i + 1) (T :: τs)) : RSeq S Fin (o :: l) i τs := by
  intro _
  refine ⟨T, hT, fun k ov ρ w hk hI hov hK => ?_, rest⟩
  obtain rfl := hov (by rw [hd]; exact ancB_self _ _ _)
  have h0 : R0 w := by have := hI.2.2; rw [hJ] at this; exact this
  have he : o.op.operands.toList = .func f :: args.toList := by rw [ho]; simp [Op.operands, Call.operands]
  rw [he] at hK
  obtain ⟨vs, h1, h2⟩ := h ρ w hI.2.1 h0 hK
  unfold Good
  rw [h1]
  refine h2.mono ?_
  rintro e w' ⟨v, rfl, h3, h4, h5⟩
  refine ⟨h3, ⟨?_, hI.2.1.trans h5, ?_⟩, h5⟩
  · rw [hrd]; trivial
  · rw [if_pos hd, hJ]
    exact h4
end
def TBld (B0 F : Nat) : Ty := fun w v => ∃ b E B, v = .pointer (some ⟨b, 0, none⟩) ∧ B0 ≤ B ∧ BldAt B b F [] E w
theorem stb_bld (B0 F : Nat) : Stb (fun _ => False) (TBld B0 F) := fun _ _ _ ⟨b, E, B, h1, h2, h3⟩ ho => ⟨b, E, B, h1, h2, h3.below (only_below ho)⟩
theorem optimize_any (g : Nat) (d : Ci) (w : World) (h : PCirc w g (Cir.toCz d)) (hd : Cir.Ok d) :
    Calls Try.prog 43 #[.pointer (some ⟨g, 0, none⟩)] w fun e w' => (∃ v, e = .returned v ∧ CircOwn 0 w' v (Cir.toCz (Cir.optI d))) ∧ Below w.heap.size w w' := by
  have s1 := hd.ins
  have s2 := hd.nexts
  have s3 := hd.gatess
  have s4 := hd.outss
  have Hp := Lib.hid h
  have Hd := Lib.hid hd
  have hcl := Cir.reached_closed hd
  have hIn : ∀ k, k ≤ d.gates.length → (Cir.optGo (Cir.nfirst d) (Cir.reached d) d.gates k).2.length = Cir.nfirst d + k ∧ (Cir.optGo (Cir.nfirst d) (Cir.reached d) d.gates k).1.length ≤ k ∧ ∀ l ∈ (Cir.optGo (Cir.nfirst d) (Cir.reached d) d.gates k).2, l < 2 * (Cir.nfirst d + (Cir.optGo (Cir.nfirst d) (Cir.reached d) d.gates k).1.length) := fun k hk => ⟨(Cir.opt_inv hd hcl k hk).len, (Cir.opt_inv hd hcl k hk).glen, (Cir.opt_inv hd hcl k hk).lt⟩
  have HIn := Lib.hid hIn
  obtain ⟨n, hn⟩ : ∃ n, n = Cir.nvars d := ⟨_, rfl⟩
  have hnf : Cir.nfirst d ≤ 8 := by unfold Cir.nfirst; omega
  have hnn : n = Cir.nfirst d + d.gates.length := hn
  have hnu : n ≤ 22 := by omega
  have hFe : 1 + d.ins + d.next.length = Cir.nfirst d := rfl
  have HRe : Hid (∀ w', Below w.heap.size w w' → Calls Try.prog 90 #[.pointer (some ⟨g, 0, none⟩)] w' (OwnBools (Cir.reached d) w')) := Lib.hid fun w' hb => reached_any g d w' (Hp.out.below hb) hd
  have HOl : Hid (∀ w', Below w.heap.size w w' → Calls Try.prog 91 #[.pointer (some ⟨g, 0, none⟩)] w' (OwnInts ((Cir.ownL (Cir.nfirst d)).map Int.ofNat) w')) := Lib.hid fun w' hb => ownLits_any g d w' (Hp.out.below hb) hd
  have HPf : Hid (∀ w', Below w.heap.size w w' → Calls Try.prog 61 #[.pointer (some ⟨g, 0, none⟩)] w' fun e w'' => e = .returned (.int .i64 (Cir.nfirst d : Nat)) ∧ Below w'.heap.size w' w'') := Lib.hid fun w' hb => by
    have := firstGate_any g _ w' (Hp.out.below hb) (by show (0 : Int) ≤ (d.ins : Int); omega) (by show (d.ins : Int) ≤ 100; omega) (by show (List.map _ _).length ≤ 100; rw [List.length_map]; omega)
    rwa [Cir.first_toCz] at this
  have HNb : Hid (∀ w', Calls Try.prog 71 #[.int .i64 (d.ins : Int), .int .i64 (d.next.length : Int)] w' fun e w'' => ∃ b E, e = .returned (.pointer (some ⟨b, 0, none⟩)) ∧ BldAt w'.heap.size b (Cir.nfirst d) [] E w'' ∧ Below w'.heap.size w' w'') := Lib.hid fun w' => by
    have := newBld_any d.ins d.next.length w' (by omega) (by omega)
    rwa [hFe] at this
  have hRl := Cir.reached_length d
  rw [← hn] at hRl
  have HRes : Hid (Cir.optI d = Cir.prune (Cir.built d (Cir.reached d)) (Cir.reached (Cir.built d (Cir.reached d)))) := Lib.hid rfl
  have HOkB := Lib.hid (Cir.built_ok hd hcl)
  have HBe : Hid (Cir.built d (Cir.reached d) = ⟨d.ins, d.next.map (Cir.useX (Cir.optGo (Cir.nfirst d) (Cir.reached d) d.gates d.gates.length).2), (Cir.optGo (Cir.nfirst d) (Cir.reached d) d.gates d.gates.length).1.reverse, d.outs.map (Cir.useX (Cir.optGo (Cir.nfirst d) (Cir.reached d) d.gates d.gates.length).2)⟩) := Lib.hid rfl
  have HN : Hid ((∀ l ∈ d.next, l < 2 * n) ∧ ∀ l ∈ d.outs, l < 2 * n) := Lib.hid ⟨fun l hl => by rw [hn]; exact hd.next l hl, fun l hl => by rw [hn]; exact hd.out l hl⟩
  have hF0 := Cir.nfirst_pos d
  have HGt := Lib.hid hd.gate
  have hgl : (Cir.toCz d).gates.length = d.gates.length := List.length_map _
  have hnl : (Cir.toCz d).next.length = d.next.length := List.length_map _
  generalize Cir.reached d = keep at *
  clear hIn hcl
  generalize Cir.nfirst d = F at *
  have Hnn := Lib.hid hnn
  have hFn : F ≤ n := by omega
  obtain ⟨vn, vg, vo, hg, c0, c1, c2, c3, r1, r2, r3⟩ := h
  obtain ⟨An, cn, hvn, hcn, hcmn⟩ := Row.shape r1
  rw [hnl] at hvn hcn
  subst hvn
  obtain ⟨Ag, cg, hvg, hcg, hcmg⟩ := Row.shape r2
  rw [hgl] at hvg
  subst hvg
  rw [hgl] at hcg
  have c0' : w.cell? ⟨g, 0, none⟩ = some (.int .i64 (d.ins : Int)) := c0
  have C0 := Lib.hid c0'
  have C1 := Lib.hid c1
  have C2 := Lib.hid c2
  have R2 : Hid (Row w 2 (.slice Ag d.gates.length cg) d.gates.length (cubes (Cir.toCz d).gates)) := Lib.hid (by have := r2; unfold CubesAt at this; rwa [hgl] at this)
  have Hgl := Lib.hid hgl
  have hbR := bel_new w (.cells #[.int .i64 0, .slice none 0 0, .slice none 0 0, .slice none 0 0] 26)
  have hR0 := heap_alloc_new w (.cells #[.int .i64 0, .slice none 0 0, .slice none 0 0, .slice none 0 0] 26)
  have hzR : (w.alloc (.cells #[.int .i64 0, .slice none 0 0, .slice none 0 0, .slice none 0 0] 26)).heap.size = w.heap.size + 1 := by simp
  clear hd hn hnn r1 r2 r3 c0 c0' c1 c2 c3 hnl hgl hFe
  go_enter Try.func43, Try.ntmps43
  go_wp2_with fail
  generalize w.alloc (.cells #[.int .i64 0, .slice none 0 0, .slice none 0 0, .slice none 0 0] 26) = W0 at *
  obtain ⟨gR, hgR⟩ : ∃ gR, gR = w.heap.size := ⟨_, rfl⟩
  rw [← hgR] at hR0 ⊢
  rw [hgR]
  refine (HRe.out W0 hbR).mono ?_
  rw [← hgR]
  rintro e w1 ⟨vk, rfl, hok, hb1⟩
  have hwR : w.heap.size ≤ gR := by omega
  have hwz : w.heap.size ≤ W0.heap.size := by omega
  have hgRz : gR < W0.heap.size := by omega
  rw [hRl] at hok
  obtain ⟨gk, ck, hvk, hgk1, hgk2, -, -⟩ := own_open hok (by omega)
  subst hvk
  have HB1 := Lib.hid (hbR.trans (hb1.mono hwz))
  have hR1 := (hb1.block gR hgRz).trans hR0
  have HR1 := Lib.hid hR1
  have Hok1 := Lib.hid hok
  have hz1 := hb1.size
  have Hkl := Lib.hid hRl
  clear hb1 hbR hR0 hok hgR hzR HRe hRl hR1
  go_wp2_with fail
  refine wp_region_rs (quietRS Try.prog _ w1 _) quietRS_ok (by kernel_rfl) (by kernel_rfl) (by kernel_rfl) (Nat.le_of_ble_eq_true rfl) trivial trivial ?_
  refine rs_old quietRS_ok quiet_any _ (.inl rfl) _ rfl rfl ?_
  apply rs_eq quietRS_ok quiet_any
  · intro ρ w' ho hK
    have ho : Only _ w1 w' := ho
    obtain ⟨h0, -⟩ := hK
    have h0' : ρ (.tmp 12) = _ := h0
    go_simp
    try exact rfl
  apply rs_eq quietRS_ok quiet_any
  · intro ρ w' ho hK
    have ho : Only _ w1 w' := ho
    obtain ⟨h0, -⟩ := hK
    have h0' : ρ (.tmp 13) = _ := h0
    go_simp
    try exact rfl
  apply rs_eq quietRS_ok quiet_any
  · intro ρ w' ho hK
    have ho : Only _ w1 w' := ho
    obtain ⟨h0, -⟩ := hK
    have h0' : ρ (.tmp 14) = _ := h0
    have hb := HB1.out.trans ((only_below ho).mono HB1.out.size)
    have q0 := (hb.cell (p := ⟨g, 0, none⟩) hg).trans C0.out
    have q1 := (hb.cell (p := ⟨g, 1, none⟩) hg).trans C1.out
    go_simp
    try exact rfl
  refine rs_old quietRS_ok quiet_any _ (.inl rfl) _ rfl rfl ?_
  apply rs_eq quietRS_ok quiet_any
  · intro ρ w' ho hK
    have ho : Only _ w1 w' := ho
    obtain ⟨h0, -⟩ := hK
    have h0' : ρ (.tmp 16) = _ := h0
    go_simp
    try exact rfl
  apply rs_eq quietRS_ok quiet_any
  · intro ρ w' ho hK
    have ho : Only _ w1 w' := ho
    obtain ⟨h0, -⟩ := hK
    have h0' : ρ (.tmp 17) = _ := h0
    go_simp
    try exact rfl
  apply rs_eq quietRS_ok quiet_any
  · intro ρ w' ho hK
    have ho : Only _ w1 w' := ho
    obtain ⟨h0, -⟩ := hK
    have h0' : ρ (.tmp 18) = _ := h0
    have hb := HB1.out.trans ((only_below ho).mono HB1.out.size)
    have q0 := (hb.cell (p := ⟨g, 0, none⟩) hg).trans C0.out
    have q1 := (hb.cell (p := ⟨g, 1, none⟩) hg).trans C1.out
    go_simp
    try exact rfl
  apply rs_eq quietRS_ok quiet_any
  · intro ρ w' ho hK
    have ho : Only _ w1 w' := ho
    obtain ⟨h0, -⟩ := hK
    have h0' : ρ (.tmp 19) = _ := h0
    go_simp
    try exact rfl
  refine rs_call quietRS_ok quiet_any (TBld w1.heap.size F) (stb_bld _ _) 71 _ _ rfl (fun ρ w' ho hK => by
    have ho : Only _ w1 w' := ho
    obtain ⟨h0, h1, h2, -⟩ := hK
    have h0' : ρ (.func 71) = .func (.func 71) #[] #[] := h0
    have h1' : ρ (.tmp 15) = _ := h1
    have h2' : ρ (.tmp 20) = _ := h2
    refine ⟨#[ρ (.tmp 15), ρ (.tmp 20)], ?_, ?_⟩
    · go_simp
    · rw [h1', h2']
      refine (HNb.out w').mono ?_
      rintro e w2 ⟨b, E, rfl, hB, hb⟩
      exact ⟨_, rfl, ⟨b, E, _, rfl, ho.size, hB⟩, hb⟩) ?_
  refine rs_same quietRS_ok quiet_any 21 9 (.inr rfl) rfl _ rfl ?_
  intro f w9 k9 hk9 hI9 ht9 hcp9
  have E0 : f 0 = _ := ht9 0 (Nat.le_of_ble_eq_true rfl)
  conv at E0 => rhs; whnf
  have E1 : f 1 = _ := ht9 1 (Nat.le_of_ble_eq_true rfl)
  have E2 : f 2 = _ := ht9 2 (Nat.le_of_ble_eq_true rfl)
  have E3 : f 3 = _ := ht9 3 (Nat.le_of_ble_eq_true rfl)
  have E4 : f 4 = _ := ht9 4 (Nat.le_of_ble_eq_true rfl)
  conv at E4 => rhs; whnf
  have E5 : f 5 = _ := ht9 5 (Nat.le_of_ble_eq_true rfl)
  have E6 : f 6 = _ := ht9 6 (Nat.le_of_ble_eq_true rfl)
  have E7 : f 7 = _ := ht9 7 (Nat.le_of_ble_eq_true rfl)
  have E8 : f 8 = _ := ht9 8 (Nat.le_of_ble_eq_true rfl)
  have E9 : (TBld w1.heap.size F) w9 (f 9) := ht9 9 (Nat.le_of_ble_eq_true rfl)
  have E10 : (TBld w1.heap.size F) w9 (f 10) := ht9 10 (Nat.le_of_ble_eq_true rfl)
  have Ho9 : Only _ w1 w9 := hI9.2.1
  have C10 : f 10 = f 9 := (hcp9 10 _ 21 9 rfl rfl rfl rfl).2
  simp only [putAll, E0, E1, E2, E3, E4, E5, E6, E7, E8, C10, Nat.zero_add, Nat.reduceAdd, Act.put, List.setIfInBounds_toArray, List.set_cons_succ, List.set_cons_zero]
  clear E0 E1 E2 E3 E4 E5 E6 E7 E8
  clear hI9 ht9 hcp9 hk9
  generalize f 9 = r9 at *
  obtain ⟨b, E0, B, e9, hBw, hB2⟩ : ∃ b E B, r9 = .pointer (some ⟨b, 0, none⟩) ∧ w1.heap.size ≤ B ∧ BldAt B b F [] E w9 := E9
  subst e9
  obtain ⟨w2, hw2⟩ : ∃ w2, w2 = w9 := ⟨_, rfl⟩
  subst hw2
  have hb2 := only_below Ho9
  have HB2 := Lib.hid (HB1.out.trans (hb2.mono HB1.out.size))
  have HR2 := Lib.hid ((hb2.block gR (by omega)).trans HR1.out)
  have Hok2 := Lib.hid (own_below Hok1.out hb2)
  have HBl2 := Lib.hid hB2
  have hz2 := hb2.size
  clear hb2 Ho9 hB2 HB1 HR1 Hok1 C10 HNb
  go_wp2_with fail
  refine (HOl.out w2 HB2.out).mono ?_
  rintro e w3 ⟨vl, rfl, hol, hb3⟩
  have hll : ((Cir.ownL F).map Int.ofNat).length = F := by simp [Cir.ownL]
  rw [hll] at hol
  have HB3 := Lib.hid (HB2.out.trans (hb3.mono HB2.out.size))
  have hER : ∀ q, E0 q → B ≤ q ∧ q < w2.heap.size := fun q hq => by obtain ⟨_, _, _, _, h⟩ := HBl2.out; exact h.lo q hq
  have HR3 := Lib.hid ((hb3.block gR (by omega)).trans HR2.out)
  have Hok3 := Lib.hid (own_below Hok2.out hb3)
  have HBl3 := Lib.hid (HBl2.out.below hb3)
  have Hol3 : Hid (w3.ownsRow w2.heap.size 3 1 vl (F + 0) (ints ((Cir.optGo F keep d.gates 0).2.map Int.ofNat))) := Lib.hid hol
  have HA3 : Hid (∀ q, E0 q → vl.ownBlock ≠ some q) := Lib.hid fun q hq e => by have h1 := (hol.lt q e).1; have h2 := (hER q hq).2; omega
  have q2 := (HB3.out.cell (p := ⟨g, 2, none⟩) hg).trans C2.out
  have hz3 := hb3.size
  obtain ⟨BL, hBL⟩ : ∃ BL, BL = w2.heap.size := ⟨_, rfl⟩
  rw [← hBL] at Hol3
  have hBL1 : w1.heap.size ≤ BL := by omega
  have hBLz : BL ≤ w3.heap.size := by omega
  clear hb3 hER hll hol HB2 HR2 Hok2 HBl2 HOl hBL
  go_wp2_with fail
  clear q2
  have hBl3 : BldAt B b F (Cir.optGo F keep d.gates 0).1 E0 w3 := HBl3.out
  go_loopw [5, 29] (fun lv i wr => ∃ (k M : Nat) (E : Nat → Prop) (lv' : Value), lv' = lv ∧ Hid (M = F + k) ∧ k ≤ d.gates.length ∧ i = .int .i64 k ∧ Hid (BldAt B b F (Cir.optGo F keep d.gates k).1 E wr) ∧ Hid (wr.ownsRow BL 3 1 lv M (ints ((Cir.optGo F keep d.gates k).2.map Int.ofNat))) ∧ Hid (∀ q, E q → lv.ownBlock ≠ some q) ∧ Hid (wr.heap[gR]? = some (.cells #[.int .i64 0, .slice none 0 0, .slice none 0 0, .slice none 0 0] 26 (0, 0))) ∧ Hid (wr.ownsRow W0.heap.size 4 1 (.slice (some ⟨gk, 0, none⟩) n ck) n (bools keep)) ∧ BL ≤ wr.heap.size ∧ Hid (Below w.heap.size w wr)) (fun _ i _ => d.gates.length - (intOf i).toNat)
  case atStart => exact ⟨0, F, E0, vl, rfl, Lib.hid rfl, Nat.zero_le _, rfl, Lib.hid hBl3, Hol3, HA3, HR3, Hok3, hBLz, HB3⟩
  case round =>
    obtain ⟨k, M, E, lv', hlv, HM, hk, rfl, HBl, HL, HA, HR, Hok, hzr, Hb⟩ := hrel
    subst hlv
    obtain ⟨gl, cl, hvl, hgl1, hgl2, -, -⟩ := own_open HL.out (by have := HM.out; omega)
    subst hvl
    clear hBl3 HBl3 Hol3 HA3 HR3 Hok3 HB3
    have hgRz := blk_ltB HR.out
    by_cases hlt : k < d.gates.length
    · obtain ⟨bq, o, x, rfl, hbl, hx, hs1, hs2⟩ := cubes_open R2.out Hb.out Hgl.out.symm (i := k) (by rw [Hgl.out]; exact hlt)
      obtain ⟨gt, hgt⟩ := at_some hlt
      have hxe : x = ((gt.1 : Int), (gt.2 : Int)) := by
        have h1 := hx.out
        unfold Cir.toCz at h1
        simp only [List.getElem?_map, hgt] at h1
        exact (Option.some.inj h1).symm
      subst hxe
      obtain ⟨g1, g2⟩ := HGt.out k gt hgt
      have hgD : d.gates.getD k (0, 0) = gt := by rw [List.getD_eq_getElem?_getD, hgt, Option.getD_some]
      have HInk := Lib.hid (HIn.out k (by omega))
      have HSt : Hid (Cir.optGo F keep d.gates (k + 1) = if keep.getD (F + k) false then ((Cir.andB F (Cir.optGo F keep d.gates k).1 (Cir.useX (Cir.optGo F keep d.gates k).2 gt.1) (Cir.useX (Cir.optGo F keep d.gates k).2 gt.2)).2, (Cir.optGo F keep d.gates k).2 ++ [(Cir.andB F (Cir.optGo F keep d.gates k).1 (Cir.useX (Cir.optGo F keep d.gates k).2 gt.1) (Cir.useX (Cir.optGo F keep d.gates k).2 gt.2)).1]) else ((Cir.optGo F keep d.gates k).1, (Cir.optGo F keep d.gates k).2 ++ [0])) := Lib.hid (by rw [Cir.optGo]; unfold Cir.optStep; rw [hgD])
      generalize hpp : Cir.optGo F keep d.gates k = pp at *
      obtain ⟨G, m⟩ := pp
      obtain ⟨x1, hx1⟩ : ∃ x1, x1 = gt.1 := ⟨_, rfl⟩
      obtain ⟨x2, hx2⟩ : ∃ x2, x2 = gt.2 := ⟨_, rfl⟩
      rw [← hx1] at g1 HSt hs1
      rw [← hx2] at g2 HSt hs2
      have hba := bel_new wr (.cells #[.int .i64 (x1 : Int), .int .i64 (x2 : Int)] 72)
      have hg9 := heap_alloc_new wr (.cells #[.int .i64 (x1 : Int), .int .i64 (x2 : Int)] 72)
      have hza : (wr.alloc (.cells #[.int .i64 (x1 : Int), .int .i64 (x2 : Int)] 72)).heap.size = wr.heap.size + 1 := by simp
      have hBa := Hb.out.trans (hba.mono Hb.out.size)
      clear hx hgt hgD hbl hx1 hx2 hpp
      go_wp2_with fail
      refine (HPf.out _ hBa).mono ?_
      rintro e wf ⟨rfl, hb9⟩
      have hb19 := hba.trans (hb9.mono (by omega))
      obtain ⟨gx, hgx⟩ : ∃ gx, gx = wr.heap.size := ⟨_, rfl⟩
      have hg99 := (hb9.block wr.heap.size (by omega)).trans hg9
      rw [← hgx] at hg99 ⊢
      have HG9 := Lib.hid hg99
      have HRa := Lib.hid ((hb19.block gR hgRz).trans HR.out)
      have HBla := Lib.hid (HBl.out.below hb19)
      have HLa := Lib.hid (own_below HL.out hb19)
      have Hoka := Lib.hid (own_below Hok.out hb19)
      have HBa := Lib.hid (Hb.out.trans (hb19.mono Hb.out.size))
      have hz9 := hb19.size
      have hgxE : ∀ q, E q → q < gx := fun q hq => by rw [hgx]; obtain ⟨_, _, _, _, h⟩ := HBl.out; exact (h.lo q hq).2
      have HgxE := Lib.hid hgxE
      have hgxz : gx < wf.heap.size := blk_ltB hg99
      have hFk : F + k < n := by have := Hnn.out; omega
      have hsk : (bools keep)[F + k]? = some (.bool (keep.getD (F + k) false)) := by
        have := Hkl.out
        unfold bools
        rw [List.getElem?_map, List.getElem?_eq_getElem (by omega), List.getD_eq_getElem?_getD, List.getElem?_eq_getElem (by omega)]
        rfl
      obtain ⟨u1, hu1, hd1, hf1⟩ := own_slot Hoka.out (j := F + k) (by omega)
      obtain rfl : u1 = .bool (keep.getD (F + k) false) := Option.some.inj (hu1.symm.trans hsk)
      have hix : ((F : Int) + (k : Int)).toNat = F + k := by omega
      have hwk : IntKind.i64.wrap ((F : Int) + (k : Int)) = (F : Int) + (k : Int) := IntWalk.i64_in _ (by omega)
      clear hu1 hf1 hsk hs1 hs2 hba hg9 hza hBa hb9 hb19 hgx hg99 HR HBl HL Hok Hb hgxE
      cases hfl : keep.getD (F + k) false
      · rw [hfl] at hd1
        rw [hfl, if_neg (by simp)] at HSt
        have hbl := bel_new wf (.cells #[.int .i64 0] 3)
        have hzl : (wf.alloc (.cells #[.int .i64 0] 3)).heap.size = wf.heap.size + 1 := by simp
        have Hlit := Lib.hid (Row.of_own (World.ownsRow_lit (base := wf.heap.size) (e := 3) (size := 1) wf #[.int .i64 0] 1 (Nat.le_refl _) (by unfold maxLen; omega) rfl))
        have HLl := Lib.hid (own_below HLa.out hbl)
        have HBll := Lib.hid (HBla.out.below hbl)
        have HRl := Lib.hid ((hbl.block gR (blk_ltB HRa.out)).trans HRa.out)
        have Hokl := Lib.hid (own_below Hoka.out hbl)
        have HBal := Lib.hid (HBa.out.trans (hbl.mono HBa.out.size))
        generalize hcs : ints (m.map Int.ofNat) = cs at *
        have Hsn : Hid (ints (List.map Int.ofNat (m ++ [0])) = cs ++ [Value.int .i64 0]) := Lib.hid (by rw [← hcs]; unfold ints; rw [List.map_append, List.map_append]; rfl)
        clear hbl hfl HRa HBla HLa Hoka hcs
        go_wp2_with (at_builtin; refine append_ints rfl (.tmp 63) (.tmp 65) rfl BL (.slice (some ⟨gl, 0, none⟩) M cl) M cs rfl HLl.out _ 1 [.int .i64 0] rfl Hlit.out (by simp [Value.oneCell']) (by have := HM.out; omega) (by omega) ?_; intro v4 w4 hown4 hg4 hat4; have Hown4 := Lib.hid hown4; have Hg4 := Lib.hid hg4; have Hat4 := Lib.hid hat4; clear hown4 hg4 hat4)
        have O9 : Only (fun q => (Value.slice (some ⟨gl, 0, none⟩) M cl).ownBlock = some q) _ w4 := Only.grown Hg4.out (fun k hk => hk)
        have hO9 := Lib.hid O9
        have hz4 := O9.size
        clear O9
        go_roundw
        case rel => exact ⟨k + 1, M + 1, E, v4, rfl, Lib.hid (by rw [HM.out]; omega), by omega, by go_num, Lib.hid (by rw [HSt.out]; exact HBll.out.only hO9.out (fun q hq e => HA.out q hq e)), Lib.hid (by rw [HSt.out]; show w4.ownsRow BL 3 1 v4 (M + 1) (ints ((m ++ [0]).map Int.ofNat)); rw [Hsn.out]; exact Hown4.out), Lib.hid (fun q hq e => by
          have h1 := HgxE.out q hq
          rcases Hat4.out with h2 | h2
          · exact HA.out q hq (by rw [← h2]; exact e)
          · rw [h2] at e; have e' := Option.some.inj e; omega), Lib.hid ((hO9.out.block gR (by have := blk_ltB HRl.out; omega) (fun e => by have := Option.some.inj e; simp only at this; omega)).trans HRl.out), Lib.hid (own_only Hokl.out hO9.out (fun q hq e => by have h1 := Option.some.inj hq; have h2 := Option.some.inj e; simp only at h1 h2; omega)), by omega, Lib.hid (Only.below HBal.out hO9.out HBal.out.size (fun q hq => by have := Option.some.inj hq; simp only at this; omega))⟩
        case measure => simp [intOf]; omega
      · rw [hfl] at hd1
        rw [hfl, if_pos rfl] at HSt
        have hml : m.length = F + k := HInk.out.1
        have hGl : G.length ≤ k := HInk.out.2.1
        have y1b := Cir.useX_lt (show 0 < F + G.length by omega) HInk.out.2.2 x1
        have y2b := Cir.useX_lt (show 0 < F + G.length by omega) HInk.out.2.2 x2
        have t1 := tdiv_two x1
        have t2 := tdiv_two x2
        have a1 := and_one_nat x1 (by omega)
        have a2 := and_one_nat x2 (by omega)
        have hmv : ∀ l ∈ m, l ≤ 1000 := fun l hl => by have : l < 2 * (F + G.length) := HInk.out.2.2 l hl; omega
        have m1b := getD_le hmv (x1 / 2)
        have m2b := getD_le hmv (x2 / 2)
        have e1 := i64_xor_nat (m.getD (x1 / 2) 0) (x1 % 2) (by omega) (by omega)
        have e2 := i64_xor_nat (m.getD (x2 / 2) 0) (x2 % 2) (by omega) (by omega)
        have hMk := HM.out
        have q1b : x1 / 2 < M := by omega
        have q2b : x2 / 2 < M := by omega
        have hc1 : (ints (m.map Int.ofNat))[x1 / 2]? = some (.int .i64 ((m.getD (x1 / 2) 0 : Nat) : Int)) := by
          unfold ints
          rw [List.getElem?_map, List.getElem?_map, List.getElem?_eq_getElem (by omega), List.getD_eq_getElem?_getD, List.getElem?_eq_getElem (by omega)]
          rfl
        have hc2 : (ints (m.map Int.ofNat))[x2 / 2]? = some (.int .i64 ((m.getD (x2 / 2) 0 : Nat) : Int)) := by
          unfold ints
          rw [List.getElem?_map, List.getElem?_map, List.getElem?_eq_getElem (by omega), List.getD_eq_getElem?_getD, List.getElem?_eq_getElem (by omega)]
          rfl
        obtain ⟨u2, hu2, hd2, -⟩ := own_slot HLa.out (j := x1 / 2) (by omega)
        obtain rfl : u2 = _ := Option.some.inj (hu2.symm.trans hc1)
        obtain ⟨u3, hu3, hd3, -⟩ := own_slot HLa.out (j := x2 / 2) (by omega)
        obtain rfl : u3 = _ := Option.some.inj (hu3.symm.trans hc2)
        have hU1 : m.getD (x1 / 2) 0 ^^^ (x1 % 2) = Cir.useX m x1 := rfl
        have hU2 : m.getD (x2 / 2) 0 ^^^ (x2 % 2) = Cir.useX m x2 := rfl
        rw [hU1] at e1
        rw [hU2] at e2
        clear hu2 hu3 hc1 hc2 hU1 hU2 hmv
        generalize Cir.useX m x1 = y1 at *
        generalize Cir.useX m x2 = y2 at *
        generalize m.getD (x1 / 2) 0 = m1 at *
        generalize m.getD (x2 / 2) 0 = m2 at *
        have hwq1 : IntKind.i64.wrap ((x1 / 2 : Nat) : Int) = ((x1 / 2 : Nat) : Int) := IntWalk.i64_in _ (by omega)
        have hwq2 : IntKind.i64.wrap ((x2 / 2 : Nat) : Int) = ((x2 / 2 : Nat) : Int) := IntWalk.i64_in _ (by omega)
        generalize x1 / 2 = p1 at *
        generalize x2 / 2 = p2 at *
        generalize x1 % 2 = r1 at *
        generalize x2 % 2 = r2 at *
        have hn1 : ¬ E gx := fun e => by have := HgxE.out gx e; omega
        have hn2 : ¬ E gl := fun e => HA.out gl e rfl
        have hgl3 : gl < wf.heap.size := by omega
        have HAB := Lib.hid (Cir.andB_len F G y1 y2)
        have Hml := Lib.hid hml
        generalize hAB : Cir.andB F G y1 y2 = ab at *
        have HabE := Lib.hid hAB
        obtain ⟨r, G2⟩ := ab
        clear hfl hAB hml hMk
        go_wp2_with fail
        have hOk := fun ops a => stepRS_ok (Pg := Try.prog) (ops := ops) (w := wf) (a := a) (E := E) (R0 := fun w' => BldAt B b F G E w') (R1 := fun w' => ∃ E', BldAt B b F G2 E' w' ∧ (∀ q, E' q → E q ∨ wf.heap.size ≤ q) ∧ ∀ q, E q → E' q) (d := 21) (fun q hq => by have := HgxE.out q hq; omega) (fun w1 w2 h hb => h.below hb) (fun w1 w2 ⟨E', h1, h2, h3⟩ hb => ⟨E', h1.below hb, h2, h3⟩)
        refine wp_region_rs (stepRS Try.prog _ wf _ E _ _ 21) (hOk _ _) (by kernel_rfl) (by kernel_rfl) (by kernel_rfl) (Nat.le_of_ble_eq_true rfl) trivial HBla.out ?_
        refine rs_old (hOk _ _) (.inl (Nat.ne_of_beq_eq_false rfl)) _ (.inl rfl) _ rfl rfl ?_
        refine rs_old (hOk _ _) (.inl (Nat.ne_of_beq_eq_false rfl)) _ (.inl rfl) _ rfl rfl ?_
        apply rs_eq (hOk _ _) (.inl (Nat.ne_of_beq_eq_false rfl))
        · intro ρ w' ho hK
          have ho : Only _ wf w' := ho
          obtain ⟨h0, -⟩ := hK
          have h0' : ρ (.tmp 7) = _ := h0
          go_simp
          try exact rfl
        apply rs_eq (hOk _ _) (.inl (Nat.ne_of_beq_eq_false rfl))
        · intro ρ w' ho hK
          have ho : Only _ wf w' := ho
          obtain ⟨h0, -⟩ := hK
          have h0' : ρ (.tmp 43) = _ := h0
          have k0 := cell_on ho hn1 hgxz (blk_cell HG9.out 0)
          have k1 := cell_on ho hn1 hgxz (blk_cell HG9.out 1)
          have l1 := cell_on ho hn2 hgl3 hd2
          have l2 := cell_on ho hn2 hgl3 hd3
          go_simp
          try exact rfl
        apply rs_eq (hOk _ _) (.inl (Nat.ne_of_beq_eq_false rfl))
        · intro ρ w' ho hK
          have ho : Only _ wf w' := ho
          obtain ⟨h0, h1, -⟩ := hK
          have h0' : ρ (.tmp 44) = _ := h0
          have h1' : ρ (.const (Value.int IntKind.i64 2)) = (Value.int IntKind.i64 2) := h1
          go_simp
          try exact rfl
        apply rs_eq (hOk _ _) (.inl (Nat.ne_of_beq_eq_false rfl))
        · intro ρ w' ho hK
          have ho : Only _ wf w' := ho
          obtain ⟨h0, h1, -⟩ := hK
          have h0' : ρ (.tmp 42) = _ := h0
          have h1' : ρ (.tmp 45) = _ := h1
          go_simp
          try exact rfl
        apply rs_eq (hOk _ _) (.inl (Nat.ne_of_beq_eq_false rfl))
        · intro ρ w' ho hK
          have ho : Only _ wf w' := ho
          obtain ⟨h0, -⟩ := hK
          have h0' : ρ (.tmp 46) = _ := h0
          have k0 := cell_on ho hn1 hgxz (blk_cell HG9.out 0)
          have k1 := cell_on ho hn1 hgxz (blk_cell HG9.out 1)
          have l1 := cell_on ho hn2 hgl3 hd2
          have l2 := cell_on ho hn2 hgl3 hd3
          go_simp
          try exact rfl
        apply rs_eq (hOk _ _) (.inl (Nat.ne_of_beq_eq_false rfl))
        · intro ρ w' ho hK
          have ho : Only _ wf w' := ho
          obtain ⟨h0, -⟩ := hK
          have h0' : ρ (.tmp 7) = _ := h0
          go_simp
          try exact rfl
        apply rs_eq (hOk _ _) (.inl (Nat.ne_of_beq_eq_false rfl))
        · intro ρ w' ho hK
          have ho : Only _ wf w' := ho
          obtain ⟨h0, -⟩ := hK
          have h0' : ρ (.tmp 48) = _ := h0
          have k0 := cell_on ho hn1 hgxz (blk_cell HG9.out 0)
          have k1 := cell_on ho hn1 hgxz (blk_cell HG9.out 1)
          have l1 := cell_on ho hn2 hgl3 hd2
          have l2 := cell_on ho hn2 hgl3 hd3
          go_simp
          try exact rfl
        apply rs_eq (hOk _ _) (.inl (Nat.ne_of_beq_eq_false rfl))
        · intro ρ w' ho hK
          have ho : Only _ wf w' := ho
          obtain ⟨h0, h1, -⟩ := hK
          have h0' : ρ (.tmp 49) = _ := h0
          have h1' : ρ (.const (Value.int IntKind.i64 1)) = (Value.int IntKind.i64 1) := h1
          go_simp
          try exact rfl
        apply rs_eq (hOk _ _) (.inl (Nat.ne_of_beq_eq_false rfl))
        · intro ρ w' ho hK
          have ho : Only _ wf w' := ho
          obtain ⟨h0, h1, -⟩ := hK
          have h0' : ρ (.tmp 47) = _ := h0
          have h1' : ρ (.tmp 50) = _ := h1
          go_simp
          try exact rfl
        refine rs_old (hOk _ _) (.inl (Nat.ne_of_beq_eq_false rfl)) _ (.inl rfl) _ rfl rfl ?_
        apply rs_eq (hOk _ _) (.inl (Nat.ne_of_beq_eq_false rfl))
        · intro ρ w' ho hK
          have ho : Only _ wf w' := ho
          obtain ⟨h0, -⟩ := hK
          have h0' : ρ (.tmp 7) = _ := h0
          go_simp
          try exact rfl
        apply rs_eq (hOk _ _) (.inl (Nat.ne_of_beq_eq_false rfl))
        · intro ρ w' ho hK
          have ho : Only _ wf w' := ho
          obtain ⟨h0, -⟩ := hK
          have h0' : ρ (.tmp 53) = _ := h0
          have k0 := cell_on ho hn1 hgxz (blk_cell HG9.out 0)
          have k1 := cell_on ho hn1 hgxz (blk_cell HG9.out 1)
          have l1 := cell_on ho hn2 hgl3 hd2
          have l2 := cell_on ho hn2 hgl3 hd3
          go_simp
          try exact rfl
        apply rs_eq (hOk _ _) (.inl (Nat.ne_of_beq_eq_false rfl))
        · intro ρ w' ho hK
          have ho : Only _ wf w' := ho
          obtain ⟨h0, h1, -⟩ := hK
          have h0' : ρ (.tmp 54) = _ := h0
          have h1' : ρ (.const (Value.int IntKind.i64 2)) = (Value.int IntKind.i64 2) := h1
          go_simp
          try exact rfl
        apply rs_eq (hOk _ _) (.inl (Nat.ne_of_beq_eq_false rfl))
        · intro ρ w' ho hK
          have ho : Only _ wf w' := ho
          obtain ⟨h0, h1, -⟩ := hK
          have h0' : ρ (.tmp 52) = _ := h0
          have h1' : ρ (.tmp 55) = _ := h1
          go_simp
          try exact rfl
        apply rs_eq (hOk _ _) (.inl (Nat.ne_of_beq_eq_false rfl))
        · intro ρ w' ho hK
          have ho : Only _ wf w' := ho
          obtain ⟨h0, -⟩ := hK
          have h0' : ρ (.tmp 56) = _ := h0
          have k0 := cell_on ho hn1 hgxz (blk_cell HG9.out 0)
          have k1 := cell_on ho hn1 hgxz (blk_cell HG9.out 1)
          have l1 := cell_on ho hn2 hgl3 hd2
          have l2 := cell_on ho hn2 hgl3 hd3
          go_simp
          try exact rfl
        apply rs_eq (hOk _ _) (.inl (Nat.ne_of_beq_eq_false rfl))
        · intro ρ w' ho hK
          have ho : Only _ wf w' := ho
          obtain ⟨h0, -⟩ := hK
          have h0' : ρ (.tmp 7) = _ := h0
          go_simp
          try exact rfl
        apply rs_eq (hOk _ _) (.inl (Nat.ne_of_beq_eq_false rfl))
        · intro ρ w' ho hK
          have ho : Only _ wf w' := ho
          obtain ⟨h0, -⟩ := hK
          have h0' : ρ (.tmp 58) = _ := h0
          have k0 := cell_on ho hn1 hgxz (blk_cell HG9.out 0)
          have k1 := cell_on ho hn1 hgxz (blk_cell HG9.out 1)
          have l1 := cell_on ho hn2 hgl3 hd2
          have l2 := cell_on ho hn2 hgl3 hd3
          go_simp
          try exact rfl
        apply rs_eq (hOk _ _) (.inl (Nat.ne_of_beq_eq_false rfl))
        · intro ρ w' ho hK
          have ho : Only _ wf w' := ho
          obtain ⟨h0, h1, -⟩ := hK
          have h0' : ρ (.tmp 59) = _ := h0
          have h1' : ρ (.const (Value.int IntKind.i64 1)) = (Value.int IntKind.i64 1) := h1
          go_simp
          try exact rfl
        apply rs_eq (hOk _ _) (.inl (Nat.ne_of_beq_eq_false rfl))
        · intro ρ w' ho hK
          have ho : Only _ wf w' := ho
          obtain ⟨h0, h1, -⟩ := hK
          have h0' : ρ (.tmp 57) = _ := h0
          have h1' : ρ (.tmp 60) = _ := h1
          go_simp
          try exact rfl
        refine rs_callW rfl rfl rfl (TEq (.int .i64 (r : Nat))) (stb_eq _ _) 72 _ _ rfl (fun ρ w' ho hJ hK => by
          obtain ⟨hf, h0, h1, h2, -⟩ := hK
          have hf' : ρ (.func 72) = .func (.func 72) #[] #[] := hf
          have h0' : ρ (.tmp 41) = .pointer (some ⟨b, 0, none⟩) := h0
          have h1' : ρ (.tmp 51) = .int .i64 (y1 : Nat) := h1
          have h2' : ρ (.tmp 61) = .int .i64 (y2 : Nat) := h2
          refine ⟨#[.pointer (some ⟨b, 0, none⟩), .int .i64 (y1 : Nat), .int .i64 (y2 : Nat)], ?_, ?_⟩
          · go_simp
          · refine (and_any y1 y2 w' hJ (by omega) (by omega) y1b y2b).mono ?_
            rw [HabE.out]
            rintro e w2 ⟨rfl, E', hB', n', i', o'⟩
            exact ⟨_, rfl, rfl, ⟨E', hB', fun q hq => (n' q hq).imp id (fun h => Nat.le_trans ho.size h), i'⟩, o'⟩) ?_
        refine rs_same (hOk _ _) (.inl (Nat.ne_of_beq_eq_false rfl)) 62 21 (.inr rfl) rfl _ rfl ?_
        intro f w9 k9 hk9 hI9 ht9 hcp9
        have E0 : f 0 = _ := ht9 0 (Nat.le_of_ble_eq_true rfl)
        conv at E0 => rhs; whnf
        have E1 : f 1 = _ := ht9 1 (Nat.le_of_ble_eq_true rfl)
        conv at E1 => rhs; whnf
        have E2 : f 2 = _ := ht9 2 (Nat.le_of_ble_eq_true rfl)
        have E3 : f 3 = _ := ht9 3 (Nat.le_of_ble_eq_true rfl)
        have E4 : f 4 = _ := ht9 4 (Nat.le_of_ble_eq_true rfl)
        have E5 : f 5 = _ := ht9 5 (Nat.le_of_ble_eq_true rfl)
        have E6 : f 6 = _ := ht9 6 (Nat.le_of_ble_eq_true rfl)
        have E7 : f 7 = _ := ht9 7 (Nat.le_of_ble_eq_true rfl)
        have E8 : f 8 = _ := ht9 8 (Nat.le_of_ble_eq_true rfl)
        have E9 : f 9 = _ := ht9 9 (Nat.le_of_ble_eq_true rfl)
        have E10 : f 10 = _ := ht9 10 (Nat.le_of_ble_eq_true rfl)
        have E11 : f 11 = _ := ht9 11 (Nat.le_of_ble_eq_true rfl)
        conv at E11 => rhs; whnf
        have E12 : f 12 = _ := ht9 12 (Nat.le_of_ble_eq_true rfl)
        have E13 : f 13 = _ := ht9 13 (Nat.le_of_ble_eq_true rfl)
        have E14 : f 14 = _ := ht9 14 (Nat.le_of_ble_eq_true rfl)
        have E15 : f 15 = _ := ht9 15 (Nat.le_of_ble_eq_true rfl)
        have E16 : f 16 = _ := ht9 16 (Nat.le_of_ble_eq_true rfl)
        have E17 : f 17 = _ := ht9 17 (Nat.le_of_ble_eq_true rfl)
        have E18 : f 18 = _ := ht9 18 (Nat.le_of_ble_eq_true rfl)
        have E19 : f 19 = _ := ht9 19 (Nat.le_of_ble_eq_true rfl)
        have E20 : f 20 = _ := ht9 20 (Nat.le_of_ble_eq_true rfl)
        have E21 : f 21 = _ := ht9 21 (Nat.le_of_ble_eq_true rfl)
        have E22 : f 22 = _ := ht9 22 (Nat.le_of_ble_eq_true rfl)
        have Ho9 : Only _ wf w9 := hI9.2.1
        have HJ9 := hI9.2.2
        simp only [putAll, E0, E1, E2, E3, E4, E5, E6, E7, E8, E9, E10, E11, E12, E13, E14, E15, E16, E17, E18, E19, E20, E21, E22, Nat.zero_add, Nat.reduceAdd, Act.put, List.setIfInBounds_toArray, List.set_cons_succ, List.set_cons_zero]
        clear E0 E1 E2 E3 E4 E5 E6 E7 E8 E9 E10 E11 E12 E13 E14 E15 E16 E17 E18 E19 E20 E21 E22
        clear hI9 ht9 hcp9 hk9
        have Oq : Only E wf w9 := Ho9
        obtain ⟨E', hB', hn', hi'⟩ := HJ9
        have hElo : ∀ q, E q → B ≤ q := fun q hq => by obtain ⟨_, _, _, _, h⟩ := HBla.out; exact (h.lo q hq).1
        have hL9 := own_only HLa.out Oq (fun q hq e => HA.out q e hq)
        have hR9 := (Oq.block gR (by omega) (fun e => by have := hElo gR e; omega)).trans HRa.out
        have hok9 := own_only Hoka.out Oq (fun q hq e => by have h1 := Option.some.inj hq; simp only at h1; have := hElo q e; omega)
        have hB9 := Only.below HBa.out Oq HBa.out.size (fun q hq => by have := hElo q hq; omega)
        have hz10 := Oq.size
        have HE' : Hid ((∀ q, E' q → Value.ownBlock (.slice (some ⟨gl, 0, none⟩) M cl) ≠ some q) ∧ ∀ q, E' q → q < w9.heap.size) := Lib.hid ⟨fun q hq e => by
          rcases hn' q hq with h | h
          · exact HA.out q h e
          · have := Option.some.inj e; simp only at this; omega, fun q hq => by obtain ⟨_, _, _, _, h⟩ := hB'; exact (h.lo q hq).2⟩
        have hbl := bel_new w9 (.cells #[.int .i64 (r : Nat)] 3)
        have hzl : (w9.alloc (.cells #[.int .i64 (r : Nat)] 3)).heap.size = w9.heap.size + 1 := by simp
        have Hlit := Lib.hid (Row.of_own (World.ownsRow_lit (base := w9.heap.size) (e := 3) (size := 1) w9 #[.int .i64 (r : Nat)] 1 (Nat.le_refl _) (by unfold maxLen; omega) rfl))
        have HLl := Lib.hid (own_below hL9 hbl)
        have HBll := Lib.hid (hB'.below hbl)
        have HRl := Lib.hid ((hbl.block gR (blk_ltB hR9)).trans hR9)
        have Hokl := Lib.hid (own_below hok9 hbl)
        have HBal := Lib.hid (hB9.trans (hbl.mono hB9.size))
        have Hsn : Hid (ints (List.map Int.ofNat (m ++ [r])) = ints (m.map Int.ofNat) ++ [Value.int .i64 (r : Nat)]) := Lib.hid (by unfold ints; rw [List.map_append, List.map_append]; rfl)
        generalize ints (m.map Int.ofNat) = cs at *
        clear hbl HRa HBla HLa Hoka Ho9 hB' hn' hi' hL9 hR9 hok9 hB9 Oq HBa HG9 hd2 hd3 hOk
        go_wp2_with (at_builtin; refine append_ints rfl (.tmp 63) (.tmp 65) rfl BL (.slice (some ⟨gl, 0, none⟩) M cl) M cs rfl HLl.out _ 1 [.int .i64 (r : Nat)] rfl Hlit.out (by simp [Value.oneCell']) (by have := HM.out; omega) (by omega) ?_; intro v4 w4 hown4 hg4 hat4; have Hown4 := Lib.hid hown4; have Hg4 := Lib.hid hg4; have Hat4 := Lib.hid hat4; clear hown4 hg4 hat4)
        have O9 : Only (fun q => (Value.slice (some ⟨gl, 0, none⟩) M cl).ownBlock = some q) _ w4 := Only.grown Hg4.out (fun k hk => hk)
        have hO9 := Lib.hid O9
        have hz4 := O9.size
        clear O9
        go_roundw
        case rel => exact ⟨k + 1, M + 1, E', v4, rfl, Lib.hid (by rw [HM.out]; omega), by omega, by go_num, Lib.hid (by rw [HSt.out]; exact HBll.out.only hO9.out (fun q hq e => HE'.out.1 q hq e)), Lib.hid (by rw [HSt.out]; show w4.ownsRow BL 3 1 v4 (M + 1) (ints ((m ++ [r]).map Int.ofNat)); rw [Hsn.out]; exact Hown4.out), Lib.hid (fun q hq e => by
          have h1 := HE'.out.2 q hq
          rcases Hat4.out with h2 | h2
          · exact HE'.out.1 q hq (by rw [← h2]; exact e)
          · rw [h2] at e; have e' := Option.some.inj e; omega), Lib.hid ((hO9.out.block gR (by have := blk_ltB HRl.out; omega) (fun e => by have := Option.some.inj e; simp only at this; omega)).trans HRl.out), Lib.hid (own_only Hokl.out hO9.out (fun q hq e => by have h1 := Option.some.inj hq; have h2 := Option.some.inj e; simp only at h1 h2; omega)), by omega, Lib.hid (Only.below HBal.out hO9.out HBal.out.size (fun q hq => by have := Option.some.inj hq; simp only at this; omega))⟩
        case measure => simp [intOf]; omega
    · obtain rfl : k = d.gates.length := by omega
      have hInE := HIn.out _ (Nat.le_refl _)
      have hML : (Cir.optGo F keep d.gates d.gates.length).2.length = M := by rw [hInE.1, HM.out]
      have hMn : M = n := by have := HM.out; have := Hnn.out; omega
      have HLi : Hid (IntsAt wr (.slice (some ⟨gl, 0, none⟩) M cl) ((Cir.optGo F keep d.gates d.gates.length).2.map Int.ofNat)) := Lib.hid (by
        have h := Row.of_own HL.out
        unfold IntsAt
        rw [List.length_map, hML]
        exact h)
      have HCi := Lib.hid (circuit_any g d _ _ wr HBl.out (Hp.out.below Hb.out) HLi.out (by omega) (by omega) (by omega) (by have := hInE.2.1; omega) (by rw [hML, hMn]; exact HN.out.1) (by rw [hML, hMn]; exact HN.out.2) (fun x hx => by have h1 := hInE.2.2 x hx; have h2 := hInE.2.1; omega))
      rw [← HBe.out] at HCi
      clear HL HLi hlt hInE hML hMn
      go_wp2_with fail
      refine HCi.out.mono ?_
      rintro e w5 ⟨⟨v5, rfl, hC5⟩, hb5⟩
      obtain ⟨A1, c1', A2, c2', A3, c3', e5⟩ := hC5.shape
      subst e5
      have hR5 := (hb5.block gR hgRz).trans HR.out
      have hgR5 := blk_ltB hR5
      have hB5 := Hb.out.trans (hb5.mono Hb.out.size)
      obtain ⟨vn5, vg5, vo5, ev5, i1, i2, i3⟩ := hC5
      have hPB : PCirc (w5.alloc (.cells #[.int .i64 (Cir.toCz (Cir.built d keep)).ins, vn5, vg5, vo5] 26)) w5.heap.size (Cir.toCz (Cir.built d keep)) := PCirc.boxed _ i1 i2 i3
      have hba := bel_new w5 (.cells #[.int .i64 (Cir.toCz (Cir.built d keep)).ins, vn5, vg5, vo5] 26)
      injection ev5 with ev6
      simp only [Array.mk.injEq, List.cons.injEq, and_true] at ev6
      obtain ⟨-, e1, e2, e3⟩ := ev6
      subst e1 e2 e3
      have HPr := Lib.hid (pruned_any w5.heap.size (Cir.built d keep) _ hPB HOkB.out)
      rw [← HRes.out] at HPr
      have hRa := (hba.block gR hgR5).trans hR5
      have HBa := Lib.hid (hB5.trans (hba.mono hB5.size))
      have hRaz := blk_ltB hRa
      have HRa := Lib.hid hRa
      generalize (Cir.toCz (Cir.built d keep)).next.length = L1 at *
      generalize (Cir.toCz (Cir.built d keep)).gates.length = L2 at *
      generalize (Cir.toCz (Cir.built d keep)).outs.length = L3 at *
      generalize (Cir.toCz (Cir.built d keep)).ins = II at *
      clear hPB hba hB5 hR5 i1 i2 i3 hb5 HR Hb hRa HBl HA Hok HCi
      go_wp2_with fail
      refine HPr.out.mono ?_
      rintro e w7 ⟨⟨v7, rfl, vn', vg', vo', e7, h1, h2, h3⟩, hb7⟩
      subst e7
      obtain ⟨A4, c4', hv4⟩ := slice_of_own h1
      obtain ⟨A5, c5', hv5⟩ := slice_of_own h2
      obtain ⟨A6, c6', hv6⟩ := slice_of_own h3
      subst hv4 hv5 hv6
      have hR7 := (hb7.block gR hRaz).trans HRa.out
      have r0 := blk_cell hR7 0
      have r1 := blk_cell hR7 1
      have r2 := blk_cell hR7 2
      have r3 := blk_cell hR7 3
      have f0 := blk_free hR7 0
      have f1 := blk_free hR7 1
      have f2 := blk_free hR7 2
      have f3 := blk_free hR7 3
      have n1 := own_ne_tag h1 hR7 (by decide)
      have n2 := own_ne_tag h2 hR7 (by decide)
      have n3 := own_ne_tag h3 hR7 (by decide)
      have HO1 := Lib.hid h1
      have HO2 := Lib.hid h2
      have HO3 := Lib.hid h3
      have HN1 := Lib.hid (And.intro n1 (And.intro n2 n3))
      have HB7 := Lib.hid (HBa.out.trans (hb7.mono HBa.out.size))
      generalize hl1 : (Cir.toCz (Cir.optI d)).next.length = M1 at *
      generalize hl2 : (Cir.toCz (Cir.optI d)).gates.length = M2 at *
      generalize hl3 : (Cir.toCz (Cir.optI d)).outs.length = M3 at *
      generalize hl4 : (Cir.toCz (Cir.optI d)).ins = M4 at *
      have HL := Lib.hid (And.intro hl1 (And.intro hl2 (And.intro hl3 hl4)))
      clear h1 h2 h3 n1 n2 n3 hb7 hR7 hl1 hl2 hl3 hl4
      go_wp2_with fail
      refine bodyPost_ret (v := .agg #[.int .i64 M4, .slice A4 M1 c4', .slice A5 M2 c5', .slice A6 M3 c6']) (by simp [results, Try.results43, go_sem, r0, r1, r2, r3]) rfl ⟨⟨_, rfl, .slice A4 M1 c4', .slice A5 M2 c5', .slice A6 M3 c6', by rw [HL.out.2.2.2], ?_, ?_, ?_⟩, ?_⟩
      · rw [HL.out.1]
        exact own_setN (own_setN (own_setN (own_setN HO1.out HN1.out.1) HN1.out.1) HN1.out.1) HN1.out.1
      · rw [HL.out.2.1]
        exact own_setN (own_setN (own_setN (own_setN HO2.out HN1.out.2.1) HN1.out.2.1) HN1.out.2.1) HN1.out.2.1
      · rw [HL.out.2.2.1]
        exact own_setN (own_setN (own_setN (own_setN HO3.out HN1.out.2.2) HN1.out.2.2) HN1.out.2.2) HN1.out.2.2
      · exact (((HB7.out.setCell hwR _).setCell hwR _).setCell hwR _).setCell hwR _
end Go.Proofs.Ytdgminjbgjbamaa

namespace Go.Proofs.Ytdgminjbgjbamaa
open Go.RowKit Go.Maps
set_option maxRecDepth 100000
set_option maxHeartbeats 8000000
/-! Comparing columns, by the program. -/
def bcode (b : Bool) : Int := if b then 49 else 48
def colS (l : List Bool) : ByteArray := strOfNums (l.map bcode)
theorem colS_size (l : List Bool) : (colS l).size = l.length := by
  unfold colS
  rw [strOfNums_size, List.length_map]
theorem colS_at {l : List Bool} {k : Nat} (h : k < l.length) (hk : k < (colS l).size) : ((((colS l)[k]'hk).toNat : Nat) : Int) = bcode (l.getD k false) := by
  have e : (colS l)[k]'hk = UInt8.ofNat (bcode (l.getD k false)).toNat := by
    have h1 : (colS l).data.toList = (l.map bcode).map fun n => UInt8.ofNat n.toNat := strOfNums_data _
    have h2 : ((colS l).data.toList)[k]? = some (UInt8.ofNat (bcode (l.getD k false)).toNat) := by
      rw [h1, List.getElem?_map, List.getElem?_map, List.getElem?_eq_getElem h, List.getD_eq_getElem?_getD, List.getElem?_eq_getElem h]
      rfl
    have h3 : (colS l).data[k]? = some (UInt8.ofNat (bcode (l.getD k false)).toNat) := by rw [← Array.getElem?_toList]; exact h2
    have h4 := Array.getElem?_eq_some_iff.1 h3
    exact h4.2
  rw [e]
  cases l.getD k false <;> rfl
theorem bcode_eq (a b : Bool) : (bcode a == bcode b) = decide (a = b) := by cases a <;> cases b <;> decide
theorem compare_any (a b : List Bool) (w : World) (hl : a.length ≤ b.length) (hm : a.length ≤ 1000) :
    Calls Try.prog 58 #[.string (colS a), .string (colS b)] w fun e w' => e = .returned (.int .i64 (Cir.cmpC a b)) ∧ Below w.heap.size w w' := by
  have hsz := colS_size a
  have HA : Hid (∀ k, k < a.length → ∀ h : k < (colS a).size, ((((colS a)[k]'h).toNat : Nat) : Int) = bcode (a.getD k false)) := Lib.hid fun k hk h => colS_at hk h
  have HB : Hid (∀ k, k < a.length → ∀ h : k < (colS b).size, ((((colS b)[k]'h).toNat : Nat) : Int) = bcode (b.getD k false)) := Lib.hid fun k hk h => colS_at (by omega) h
  have HSb : Hid (a.length ≤ (colS b).size) := Lib.hid (by rw [colS_size]; exact hl)
  have HC : Hid (Cir.cmpC a b = if Cir.eqs a b a.length = a.length then 1 else if Cir.eqs a b a.length = 0 then -1 else 0) := Lib.hid rfl
  obtain ⟨n, hn⟩ : ∃ n, n = a.length := ⟨_, rfl⟩
  rw [← hn] at hsz HA HB HC HSb hm
  generalize colS a = sa at *
  generalize colS b = sb at *
  clear hl hn
  go_enter Try.func58, Try.ntmps58
  go_wp2_with fail
  go_loopw [5, 9] (fun q i wr => ∃ k : Nat, k ≤ n ∧ i = .int .i64 k ∧ q = .int .i64 ((Cir.eqs a b k : Nat) : Int) ∧ Below w.heap.size w wr) (fun _ i _ => n - (intOf i).toNat)
  case atStart => exact ⟨0, Nat.zero_le _, rfl, rfl, Below.refl _ _⟩
  case round =>
    obtain ⟨k, hk, rfl, rfl, hb⟩ := hrel
    have heq := Cir.eqs_le a b k
    by_cases hlt : k < n
    · have hE : Cir.eqs a b (k + 1) = Cir.eqs a b k + (if a.getD k false = b.getD k false then 1 else 0) := rfl
      have HE := Lib.hid hE
      have hia := HA.out k hlt
      have hib := HB.out k hlt
      have hkb : k < sb.size := by have := HSb.out; omega
      have hbe := bcode_eq (a.getD k false) (b.getD k false)
      generalize Cir.eqs a b k = q at *
      generalize a.getD k false = x at *
      generalize b.getD k false = y at *
      generalize bcode x = cx at *
      generalize bcode y = cy at *
      have hwq := IntWalk.i64_in ((q : Int) + 1) (by omega)
      have Hb := Lib.hid hb
      clear hE hb
      by_cases hxy : x = y
      · rw [if_pos hxy] at HE
        rw [decide_eq_true hxy] at hbe
        clear hxy
        go_wp2_with fail
        refine wp_region_grow (by kernel_rfl) (by kernel_rfl) ?_
        repeat (go_big_quiet_step ((fail)))
        refine wpQuiet_nil ?_
        intro _ hw'
        obtain ⟨nq, hw''⟩ := hw'
        subst hw''
        have hgq := gw_below nq
        generalize gw nq = wq at *
        clear nq
        go_wp2_with fail
        go_roundw
        case rel => exact ⟨k + 1, by omega, by go_num, by rw [HE.out]; go_num, Hb.out.trans (hgq.mono Hb.out.size)⟩
        case measure => simp [intOf]; omega
      · rw [if_neg hxy] at HE
        rw [decide_eq_false hxy] at hbe
        clear hxy
        go_wp2_with fail
        refine wp_region_grow (by kernel_rfl) (by kernel_rfl) ?_
        repeat (go_big_quiet_step ((fail)))
        refine wpQuiet_nil ?_
        intro _ hw'
        obtain ⟨nq, hw''⟩ := hw'
        subst hw''
        have hgq := gw_below nq
        generalize gw nq = wq at *
        clear nq
        go_wp2_with fail
        go_roundw
        case rel => exact ⟨k + 1, by omega, by go_num, by rw [HE.out]; rfl, Hb.out.trans (hgq.mono Hb.out.size)⟩
        case measure => simp [intOf]; omega
    · obtain rfl : k = n := by omega
      have Hb := Lib.hid hb
      generalize Cir.eqs a b k = q at *
      clear hb hlt
      by_cases h1 : q = k
      · rw [if_pos h1] at HC
        have hd1 : ((q : Int) == (k : Int)) = true := by simp; omega
        clear h1
        go_wp2_with fail
        go_ret
        exact ⟨by rw [HC.out]; rfl, Hb.out⟩
      · rw [if_neg h1] at HC
        have hd1 : ((q : Int) == (k : Int)) = false := by simp; omega
        clear h1
        by_cases h2 : q = 0
        · rw [if_pos h2] at HC
          subst h2
          go_wp2_with fail
          go_ret
          exact ⟨by rw [HC.out]; rfl, Hb.out⟩
        · rw [if_neg h2] at HC
          have hd2 : ((q : Int) == 0) = false := by simp; omega
          go_wp2_with fail
          go_ret
          exact ⟨by rw [HC.out]; rfl, Hb.out⟩
end Go.Proofs.Ytdgminjbgjbamaa

namespace Go.Proofs.Ytdgminjbgjbamaa
open Go.RowKit Go.Maps
set_option maxRecDepth 100000
set_option maxHeartbeats 8000000
/-! The literal that stands for another one, by the program. -/
def colsV (c : Ci) (n : Nat) : List Value := (List.range n).map fun v => Value.string (colS (Cir.colV c v))
theorem colsV_length (c : Ci) (n : Nat) : (colsV c n).length = n := by simp [colsV]
theorem colsV_at {c : Ci} {n i : Nat} (h : i < n) : (colsV c n)[i]? = some (.string (colS (Cir.colV c i))) := by
  unfold colsV
  rw [List.getElem?_map, List.getElem?_range h]
  rfl
theorem cmp_cases (a b : List Bool) : Cir.cmpC a b = 1 ∨ Cir.cmpC a b = -1 ∨ Cir.cmpC a b = 0 := by
  unfold Cir.cmpC
  split
  · exact .inl rfl
  · split
    · exact .inr (.inl rfl)
    · exact .inr (.inr rfl)
theorem findSome_at {f : Nat → Option Nat} : ∀ {n k y : Nat}, k < n → (∀ j, j < k → f j = none) → f k = some y → (List.range n).findSome? f = some y := fun {n k y} hk hn hy => by
  have e : List.range n = List.range k ++ (List.range (n - k)).map (k + ·) := by
    rw [← List.range_add]
    congr 1
    omega
  rw [e, List.findSome?_append]
  have h1 : (List.range k).findSome? f = none := List.findSome?_eq_none_iff.2 fun x hx => hn x (List.mem_range.1 hx)
  rw [h1]
  obtain ⟨m, hm⟩ : ∃ m, n - k = m + 1 := ⟨n - k - 1, by omega⟩
  rw [hm, List.range_succ_eq_map]
  simp [hy]
theorem findSome_no {f : Nat → Option Nat} {n : Nat} (hn : ∀ j, j < n → f j = none) : (List.range n).findSome? f = none := List.findSome?_eq_none_iff.2 fun x hx => hn x (List.mem_range.1 hx)
theorem sweepUse_any (gc l n : Nat) (c : Ci) (vs : Value) (w : World) (hc : w.cell? ⟨gc, 0, none⟩ = some vs) (hgc : gc < w.heap.size) (hr : Row w 1 vs n (colsV c n)) (hl : l / 2 < n) (hb : l ≤ 1000000) (hm : 2 ^ (c.ins + c.next.length) ≤ 1000) :
    Calls Try.prog 57 #[.int .i64 (l : Int), .pointer (some ⟨gc, 0, none⟩)] w fun e w' => e = .returned (.int .i64 (Cir.sweepU c l : Nat)) ∧ Below w.heap.size w w' := by
  obtain ⟨b, o, cp, rfl, hcp, hcm, hbl, hcell⟩ := hr.open (by omega)
  have hq := tdiv_two l
  have ha := and_one_nat l hb
  have HCell : Hid (∀ i, i < n → w.cell? ⟨b, o + i, none⟩ = some (.string (colS (Cir.colV c i)))) := Lib.hid fun i hi => hcell i _ (colsV_at hi)
  have HCmp : Hid (∀ u v (w' : World), Calls Try.prog 58 #[.string (colS (Cir.colV c u)), .string (colS (Cir.colV c v))] w' fun e w'' => e = .returned (.int .i64 (Cir.cmpC (Cir.colV c u) (Cir.colV c v))) ∧ Below w'.heap.size w' w'') := Lib.hid fun u v w' => compare_any _ _ w' (by rw [Cir.colV_length, Cir.colV_length]; exact Nat.le_refl _) (by rw [Cir.colV_length]; exact hm)
  have HU : Hid (Cir.sweepU c l = ((List.range (l / 2)).findSome? (Cir.swLit c l)).getD l) := Lib.hid rfl
  have HS : Hid (∀ u, Cir.swLit c l u = if Cir.cmpC (Cir.colV c u) (Cir.colV c (l / 2)) = 1 then some (2 * u + l % 2) else if Cir.cmpC (Cir.colV c u) (Cir.colV c (l / 2)) = -1 then some (2 * u + 1 - l % 2) else none) := Lib.hid fun u => rfl
  have hqb : l / 2 ≤ 1000000 := by omega
  have hr1 : l % 2 ≤ 1 := by omega
  generalize l / 2 = q at *
  generalize l % 2 = r at *
  have hwq : IntKind.i64.wrap (q : Int) = q := IntWalk.i64_in _ (by omega)
  clear hcell hr hm
  go_enter Try.func57, Try.ntmps57
  go_wp2_with fail
  go_loopw [7] (fun i wr => ∃ k : Nat, k ≤ q ∧ i = .int .i64 k ∧ Hid (∀ j, j < k → Cir.swLit c l j = none) ∧ Hid (Below w.heap.size w wr)) (fun i _ => q - (intOf i).toNat)
  case atStart => exact ⟨0, Nat.zero_le _, rfl, Lib.hid (fun j h => absurd h (Nat.not_lt_zero _)), Lib.hid (Below.refl _ _)⟩
  case round =>
    obtain ⟨k, hk, rfl, HN, Hb⟩ := hrel
    by_cases hlt : k < q
    · have hkn : k < n := by omega
      have hq0 := HCell.out k (by omega)
      have hq1 := HCell.out q hl
      have HSk := Lib.hid (HS.out k)
      have hcs := cmp_cases (Cir.colV c k) (Cir.colV c q)
      have HCm := Lib.hid (HCmp.out k q)
      generalize colS (Cir.colV c k) = s1 at *
      generalize colS (Cir.colV c q) = s2 at *
      generalize Cir.cmpC (Cir.colV c k) (Cir.colV c q) = cm at *
      have hzb := Hb.out.size
      go_wp2_with fail
      obtain ⟨wy, hwy⟩ : ∃ wy, wy = wr := ⟨_, rfl⟩
      subst hwy
      refine wp_region_rs (quietRS Try.prog _ wy _) quietRS_ok (by kernel_rfl) (by kernel_rfl) (by kernel_rfl) (Nat.le_of_ble_eq_true rfl) trivial trivial ?_
      apply rs_eq quietRS_ok quiet_any
      · intro ρ w' ho hK
        have ho : Only _ wy w' := ho
        obtain ⟨h0, -⟩ := hK
        have h0' : ρ (.tmp 1) = _ := h0
        have hb := Hb.out.trans ((only_below ho).mono Hb.out.size)
        have c0 := (hb.cell (p := ⟨gc, 0, none⟩) hgc).trans hc
        have c1 := (hb.cell (p := ⟨b, o + k, none⟩) hbl).trans hq0
        have c2 := (hb.cell (p := ⟨b, o + q, none⟩) hbl).trans hq1
        go_simp
        try exact rfl
      refine rs_old quietRS_ok quiet_any _ (.inl rfl) _ rfl rfl ?_
      apply rs_eq quietRS_ok quiet_any
      · intro ρ w' ho hK
        have ho : Only _ wy w' := ho
        obtain ⟨h0, h1, -⟩ := hK
        have h0' : ρ (.tmp 10) = _ := h0
        have h1' : ρ (.tmp 11) = _ := h1
        go_simp
        try exact rfl
      apply rs_eq quietRS_ok quiet_any
      · intro ρ w' ho hK
        have ho : Only _ wy w' := ho
        obtain ⟨h0, -⟩ := hK
        have h0' : ρ (.tmp 12) = _ := h0
        have hb := Hb.out.trans ((only_below ho).mono Hb.out.size)
        have c0 := (hb.cell (p := ⟨gc, 0, none⟩) hgc).trans hc
        have c1 := (hb.cell (p := ⟨b, o + k, none⟩) hbl).trans hq0
        have c2 := (hb.cell (p := ⟨b, o + q, none⟩) hbl).trans hq1
        go_simp
        try exact rfl
      apply rs_eq quietRS_ok quiet_any
      · intro ρ w' ho hK
        have ho : Only _ wy w' := ho
        obtain ⟨h0, -⟩ := hK
        have h0' : ρ (.tmp 1) = _ := h0
        have hb := Hb.out.trans ((only_below ho).mono Hb.out.size)
        have c0 := (hb.cell (p := ⟨gc, 0, none⟩) hgc).trans hc
        have c1 := (hb.cell (p := ⟨b, o + k, none⟩) hbl).trans hq0
        have c2 := (hb.cell (p := ⟨b, o + q, none⟩) hbl).trans hq1
        go_simp
        try exact rfl
      refine rs_old quietRS_ok quiet_any _ (.inl rfl) _ rfl rfl ?_
      apply rs_eq quietRS_ok quiet_any
      · intro ρ w' ho hK
        have ho : Only _ wy w' := ho
        obtain ⟨h0, h1, -⟩ := hK
        have h0' : ρ (.tmp 15) = _ := h0
        have h1' : ρ (.const (Value.int IntKind.i64 2)) = (Value.int IntKind.i64 2) := h1
        go_simp
        try exact rfl
      apply rs_eq quietRS_ok quiet_any
      · intro ρ w' ho hK
        have ho : Only _ wy w' := ho
        obtain ⟨h0, h1, -⟩ := hK
        have h0' : ρ (.tmp 14) = _ := h0
        have h1' : ρ (.tmp 16) = _ := h1
        go_simp
        try exact rfl
      apply rs_eq quietRS_ok quiet_any
      · intro ρ w' ho hK
        have ho : Only _ wy w' := ho
        obtain ⟨h0, -⟩ := hK
        have h0' : ρ (.tmp 17) = _ := h0
        have hb := Hb.out.trans ((only_below ho).mono Hb.out.size)
        have c0 := (hb.cell (p := ⟨gc, 0, none⟩) hgc).trans hc
        have c1 := (hb.cell (p := ⟨b, o + k, none⟩) hbl).trans hq0
        have c2 := (hb.cell (p := ⟨b, o + q, none⟩) hbl).trans hq1
        go_simp
        try exact rfl
      refine rs_call quietRS_ok quiet_any (TEq (.int .i64 cm)) (stb_eq _ _) 58 _ _ rfl (fun ρ w' ho hK => by
        have ho : Only _ wy w' := ho
        obtain ⟨h0, h1, h2, -⟩ := hK
        have h0' : ρ (.func 58) = .func (.func 58) #[] #[] := h0
        have h1' : ρ (.tmp 13) = _ := h1
        have h2' : ρ (.tmp 18) = _ := h2
        refine ⟨#[ρ (.tmp 13), ρ (.tmp 18)], ?_, ?_⟩
        · go_simp
        · rw [h1', h2']
          refine (HCm.out w').mono ?_
          rintro e w2 ⟨rfl, hb⟩
          exact ⟨_, rfl, rfl, hb⟩) ?_
      intro f w9 k9 hk9 hI9 ht9 hcp9
      have E0 : f 0 = _ := ht9 0 (Nat.le_of_ble_eq_true rfl)
      have E1 : f 1 = _ := ht9 1 (Nat.le_of_ble_eq_true rfl)
      conv at E1 => rhs; whnf
      have E2 : f 2 = _ := ht9 2 (Nat.le_of_ble_eq_true rfl)
      have E3 : f 3 = _ := ht9 3 (Nat.le_of_ble_eq_true rfl)
      have E4 : f 4 = _ := ht9 4 (Nat.le_of_ble_eq_true rfl)
      have E5 : f 5 = _ := ht9 5 (Nat.le_of_ble_eq_true rfl)
      conv at E5 => rhs; whnf
      have E6 : f 6 = _ := ht9 6 (Nat.le_of_ble_eq_true rfl)
      have E7 : f 7 = _ := ht9 7 (Nat.le_of_ble_eq_true rfl)
      have E8 : f 8 = _ := ht9 8 (Nat.le_of_ble_eq_true rfl)
      have E9 : f 9 = _ := ht9 9 (Nat.le_of_ble_eq_true rfl)
      have Ho9 : Only _ wy w9 := hI9.2.1
      simp only [putAll, E0, E1, E2, E3, E4, E5, E6, E7, E8, E9, Nat.zero_add, Nat.reduceAdd, Act.put, List.setIfInBounds_toArray, List.set_cons_succ, List.set_cons_zero]
      clear E0 E1 E2 E3 E4 E5 E6 E7 E8 E9
      clear hI9 ht9 hcp9 hk9
      have Hb9 := Lib.hid (Hb.out.trans ((only_below Ho9).mono Hb.out.size))
      clear Ho9
      have hw1 := IntWalk.i64_in (2 * (k : Int)) (by omega)
      have hw2 := IntWalk.i64_in (2 * (k : Int) + (r : Int)) (by omega)
      have hw3 := IntWalk.i64_in (2 * (k : Int) + 1) (by omega)
      have hw4 := IntWalk.i64_in (2 * (k : Int) + 1 - (r : Int)) (by omega)
      rcases hcs with rfl | rfl | rfl
      · rw [if_pos rfl] at HSk
        go_wp2_with fail
        go_ret
        refine ⟨ret_int ?_, Hb9.out⟩
        rw [HU.out, findSome_at hlt HN.out HSk.out, Option.getD_some]
        omega
      · rw [if_neg (by decide), if_pos rfl] at HSk
        go_wp2_with fail
        go_ret
        refine ⟨ret_int ?_, Hb9.out⟩
        rw [HU.out, findSome_at hlt HN.out HSk.out, Option.getD_some]
        omega
      · rw [if_neg (by decide), if_neg (by decide)] at HSk
        go_wp2_with fail
        go_roundw
        case rel => exact ⟨k + 1, by omega, by go_num, Lib.hid (fun j hj => by
          by_cases e : j = k
          · rw [e]; exact HSk.out
          · exact HN.out j (by omega)), Hb9⟩
        case measure => simp [intOf]; omega
    · obtain rfl : k = q := by omega
      go_wp2_with fail
      go_ret
      refine ⟨ret_int ?_, Hb.out⟩
      rw [HU.out, findSome_no HN.out]
      rfl
end Go.Proofs.Ytdgminjbgjbamaa

namespace Go.Proofs.Ytdgminjbgjbamaa
open Go.RowKit Go.Maps
set_option maxRecDepth 100000
set_option maxHeartbeats 8000000
/-! The columns of all variables, by the program. -/
theorem info_u8 : (Try.prog.info? 5).map (fun i => (i.zero, i.size, i.bytes)) = some (some (.int .u8 0), 1, 1) := by kernel_rfl
theorem info_u8s : (Try.prog.info? 22).map (fun i => (i.zero, i.size, i.bytes)) = some (some (.slice none 0 0), 1, 24) := by kernel_rfl
theorem info_str : (Try.prog.info? 9).map (fun i => (i.zero, i.size, i.bytes)) = some (some (.string ByteArray.empty), 1, 16) := by kernel_rfl
theorem append_u8 {w : World} {ops : Array Oper} {rest : List Oper} {o : Oper} {a : Act} {Q : Exit → Act → World → Prop} (hgd : o.guard = none) (s x : Operand)
    (ho : o.op = .call { callee := .builtin .append, args := #[s, x], argTypes := #[22, 22] })
    (base : Nat) (v : Value) (n : Nat) (xs : List Value) (hs : a.eval s = v) (hown : w.ownsRow base 5 1 v n xs) (sv : Value) (m : Nat) (news : List Value) (hx : a.eval x = sv) (hr : Row w 1 sv m news) (h1 : ∀ u ∈ news, u.oneCell' = true)
    (h63 : n + m ≤ 1000000) (hbase : base ≤ w.heap.size)
    (h : ∀ v' w', w'.ownsRow base 5 1 v' (n + m) (xs ++ news) → w.grownBy w' v.ownBlock → (v'.ownBlock = v.ownBlock ∨ v'.ownBlock = some w.heap.size) → wpList Try.prog ops Q rest (a.put o.dst v') w') : wpList Try.prog ops Q (o :: rest) a w := by
  obtain ⟨i, hi, hz0, hz1, hz2⟩ := info_parts info_u8
  exact wpList_append_at hgd s x 22 ho base 5 i _ 1 1 Try.underlying22 hi hz0 hz1 hz2 rfl (by decide) v n xs hs hown sv m news hx hr h1 (by unfold maxLen; omega) (by omega) hbase h
theorem append_str {w : World} {ops : Array Oper} {rest : List Oper} {o : Oper} {a : Act} {Q : Exit → Act → World → Prop} (hgd : o.guard = none) (s x : Operand)
    (ho : o.op = .call { callee := .builtin .append, args := #[s, x], argTypes := #[80, 80] })
    (base : Nat) (v : Value) (n : Nat) (xs : List Value) (hs : a.eval s = v) (hown : w.ownsRow base 9 1 v n xs) (sv : Value) (m : Nat) (news : List Value) (hx : a.eval x = sv) (hr : Row w 1 sv m news) (h1 : ∀ u ∈ news, u.oneCell' = true)
    (h63 : n + m ≤ 1000000) (hbase : base ≤ w.heap.size)
    (h : ∀ v' w', w'.ownsRow base 9 1 v' (n + m) (xs ++ news) → w.grownBy w' v.ownBlock → (v'.ownBlock = v.ownBlock ∨ v'.ownBlock = some w.heap.size) → wpList Try.prog ops Q rest (a.put o.dst v') w') : wpList Try.prog ops Q (o :: rest) a w := by
  obtain ⟨i, hi, hz0, hz1, hz2⟩ := info_parts info_str
  exact wpList_append_at hgd s x 80 ho base 9 i _ 1 16 Try.underlying80 hi hz0 hz1 hz2 rfl (by decide) v n xs hs hown sv m news hx hr h1 (by unfold maxLen; omega) (by omega) hbase h
def bytesB (l : List Bool) : List Value := l.map fun b => .int .u8 (bcode b)
theorem bytesB_snoc (l : List Bool) (b : Bool) : bytesB (l ++ [b]) = bytesB l ++ [.int .u8 (bcode b)] := by simp [bytesB]
/-- Columns that grow. -/
structure ColAt (gO n : Nat) (vs : List Value) (cols : List (List Bool)) (w : World) : Prop where
  own : w.ownsRow gO 22 1 (.slice (some ⟨gO, 0, none⟩) n n) n vs
  vl : vs.length = n
  cl : cols.length = n
  row : ∀ (i : Nat) (v : Value) (c : List Bool), vs[i]? = some v → cols[i]? = some c → w.ownsRow (gO + 1) 5 1 v c.length (bytesB c)
  ap : ∀ (i j : Nat) (v v' : Value), i ≠ j → vs[i]? = some v → vs[j]? = some v' → ∀ g, v.ownBlock = some g → v'.ownBlock ≠ some g
theorem ColAt.below {gO n : Nat} {vs : List Value} {cols : List (List Bool)} {w w' : World} (h : ColAt gO n vs cols w) (hb : Below w.heap.size w w') : ColAt gO n vs cols w' :=
  ⟨own_below h.own hb, h.vl, h.cl, fun i v c hv hc => own_below (h.row i v c hv hc) hb, h.ap⟩
theorem ColAt.upd {gO n : Nat} {vs : List Value} {cols : List (List Bool)} {w w1 w2 : World} (h : ColAt gO n vs cols w) {i : Nat} {v v2 : Value} {c : List Bool} {b : Bool} (hv : vs[i]? = some v) (hc : cols[i]? = some c)
    (hb : Below w.heap.size w w1) (hg : w1.grownBy w2 v.ownBlock) (hown : w2.ownsRow (gO + 1) 5 1 v2 (c.length + 1) (bytesB c ++ [.int .u8 (bcode b)])) (hat : v2.ownBlock = v.ownBlock ∨ v2.ownBlock = some w1.heap.size) :
    ColAt gO n (vs.set i v2) (cols.set i (c ++ [b])) (w2.setCell ⟨gO, i, none⟩ v2) := by
  have hrv := own_below (h.row i v c hv hc) hb
  have O2 : Only (fun g => v.ownBlock = some g) w1 w2 := Only.grown hg (fun k hk => hk)
  have hi : i < n := by obtain ⟨h1, -⟩ := List.getElem?_eq_some_iff.1 hv; rw [← h.vl]; exact h1
  have hown2 : w2.ownsRow gO 22 1 (.slice (some ⟨gO, 0, none⟩) n n) n vs := own_only (own_below h.own hb) O2 (fun g hg e => by
    have h1 := Option.some.inj hg
    have h2 := (hrv.lt g e).1
    simp only at h1
    omega)
  refine ⟨(hown2.stored i v2).1, by rw [List.length_set, h.vl], by rw [List.length_set, h.cl], fun j v' c' hv' hc' => ?_, fun j k v' v'' hjk hv' hv'' g hg' => ?_⟩
  · by_cases e : i = j
    · subst e
      rw [List.getElem?_set_self (by rw [h.vl]; exact hi)] at hv'
      rw [List.getElem?_set_self (by rw [h.cl]; exact hi)] at hc'
      obtain rfl := Option.some.inj hv'
      obtain rfl := Option.some.inj hc'
      rw [List.length_append, List.length_singleton, bytesB_snoc]
      exact own_setB hown (Nat.lt_succ_self _)
    · rw [List.getElem?_set_ne e] at hv' hc'
      exact own_setB (own_only (own_below (h.row j v' c' hv' hc') hb) O2 (fun g hg e' => h.ap i j v v' e hv hv' g e' hg)) (Nat.lt_succ_self _)
  · have hfresh : ∀ (j : Nat) (u : Value), j ≠ i → vs[j]? = some u → ∀ g, u.ownBlock = some g → v2.ownBlock ≠ some g := fun j u hj hu g hgu e2 => by
      rcases hat with h1 | h1
      · exact h.ap j i u v hj hu hv g hgu (by rw [← h1]; exact e2)
      · rw [h1] at e2
        have e3 := Option.some.inj e2
        have hcj : ∃ cj, cols[j]? = some cj := ⟨_, List.getElem?_eq_getElem (by obtain ⟨h2, -⟩ := List.getElem?_eq_some_iff.1 hu; rw [h.cl, ← h.vl]; exact h2)⟩
        obtain ⟨cj, hcj⟩ := hcj
        have := ((own_below (h.row j u cj hu hcj) hb).lt g hgu).2
        omega
    by_cases e : i = j
    · subst e
      rw [List.getElem?_set_self (by rw [h.vl]; exact hi)] at hv'
      rw [List.getElem?_set_ne hjk] at hv''
      obtain rfl := Option.some.inj hv'
      exact fun e2 => hfresh k v'' (fun e' => hjk e'.symm) hv'' g e2 hg'
    · rw [List.getElem?_set_ne e] at hv'
      by_cases e2 : i = k
      · subst e2
        rw [List.getElem?_set_self (by rw [h.vl]; exact hi)] at hv''
        obtain rfl := Option.some.inj hv''
        exact hfresh j v' (fun e' => e e'.symm) hv' g hg'
      · rw [List.getElem?_set_ne e2] at hv''
        exact h.ap j k v' v'' hjk hv' hv'' g hg'
/-- The columns when the values of the variables before v are there for assignment x. -/
def colsG (c : Ci) (n x v : Nat) : List (List Bool) := (List.range n).map fun j => (Cir.colV c j).take (if j < v then x + 1 else x)
theorem colsG_at {c : Ci} {n x v i : Nat} (h : i < n) : (colsG c n x v)[i]? = some ((Cir.colV c i).take (if i < v then x + 1 else x)) := by
  unfold colsG
  rw [List.getElem?_map, List.getElem?_range h]
  rfl
theorem colV_get {c : Ci} {v x : Nat} (h : x < 2 ^ (c.ins + c.next.length)) : (Cir.colV c v)[x]? = some ((Cir.vals c (Cir.bits (x / 2 ^ c.ins) c.next.length) (Cir.bits x c.ins)).getD v false) := by
  unfold Cir.colV
  rw [List.getElem?_map, List.getElem?_range h]
  rfl
theorem colsG_step {c : Ci} {n x v : Nat} (hx : x < 2 ^ (c.ins + c.next.length)) (hv : v < n) : (colsG c n x v).set v ((Cir.colV c v).take x ++ [(Cir.vals c (Cir.bits (x / 2 ^ c.ins) c.next.length) (Cir.bits x c.ins)).getD v false]) = colsG c n x (v + 1) := by
  apply List.ext_getElem?
  intro i
  by_cases hi : i < n
  · rw [List.getElem?_set]
    by_cases e : v = i
    · subst e
      rw [if_pos rfl, if_pos (by simp [colsG]; exact hv), colsG_at hv, if_pos (Nat.lt_succ_self _), List.take_add_one, colV_get hx]
      rfl
    · rw [if_neg e, colsG_at hi, colsG_at hi]
      by_cases e2 : i < v
      · rw [if_pos e2, if_pos (by omega)]
      · rw [if_neg e2, if_neg (by omega)]
  · rw [List.getElem?_eq_none (by simp [colsG]; omega), List.getElem?_eq_none (by simp [colsG]; omega)]
theorem colsG_next (c : Ci) (n x : Nat) : colsG c n x n = colsG c n (x + 1) 0 := by
  unfold colsG
  refine List.map_congr_left fun j hj => ?_
  rw [if_pos (List.mem_range.1 hj), if_neg (by omega)]
theorem own_tag {w : World} {base size n g : Nat} {e : TypeId} {v : Value} {cs : List Value} (h : w.ownsRow base e size v n cs) (hg : v.ownBlock = some g) : ∃ cur, w.heap[g]? = some (.cells cur e (0, 0)) := by
  rcases h.2 with h2 | ⟨g', cap, cur, rfl, hb, hh, h3⟩
  · rw [h2.1] at hg; cases hg
  · have e'' := Option.some.inj hg
    simp only at e''
    subst e''
    exact ⟨cur, hh⟩
theorem own_tags {w : World} {b1 b2 s1 s2 n1 n2 g : Nat} {e1 e2 : TypeId} {v1 v2 : Value} {c1 c2 : List Value} (h1 : w.ownsRow b1 e1 s1 v1 n1 c1) (h2 : w.ownsRow b2 e2 s2 v2 n2 c2) (hne : e1 ≠ e2) (hg : v1.ownBlock = some g) : v2.ownBlock ≠ some g := fun hg2 => by
  obtain ⟨c, hc⟩ := own_tag h1 hg
  exact own_ne_tag h2 hc (fun e => hne e.symm) hg2
theorem functions_any (g : Nat) (d : Ci) (w : World) (h : PCirc w g (Cir.toCz d)) (hd : Cir.Ok d) :
    Calls Try.prog 54 #[.pointer (some ⟨g, 0, none⟩)] w fun e w' => (∃ v, e = .returned v ∧ w'.ownsRow w.heap.size 9 1 v (Cir.nvars d) (colsV d (Cir.nvars d))) ∧ Below w.heap.size w w' := by
  have s1 := hd.ins
  have s2 := hd.nexts
  have s3 := hd.gatess
  have Hp := Lib.hid h
  obtain ⟨n, hn⟩ : ∃ n, n = Cir.nvars d := ⟨_, rfl⟩
  have hnu : n ≤ 22 := by rw [hn]; unfold Cir.nvars Cir.nfirst; omega
  have hn0 : 0 < n := by rw [hn]; unfold Cir.nvars Cir.nfirst; omega
  have hnl : (Cir.toCz d).next.length = d.next.length := List.length_map _
  have hgl : (Cir.toCz d).gates.length = d.gates.length := List.length_map _
  have HVa : Hid (Calls Try.prog 67 #[.pointer (some ⟨g, 0, none⟩)] w fun e w'' => e = .returned (.int .i64 (n : Nat)) ∧ Below w.heap.size w w'') := Lib.hid (by
    have := vars_any g _ w h (by show (0 : Int) ≤ (d.ins : Int); omega) (by show (d.ins : Int) ≤ 100; omega) (by omega) (by omega)
    rwa [Cir.vars_toCz, ← hn] at this)
  obtain ⟨m, hm⟩ : ∃ m, m = d.ins + d.next.length := ⟨_, rfl⟩
  have hm7 : m ≤ 7 := by omega
  have HAs : Hid (∀ w', Below w.heap.size w w' → Calls Try.prog 95 #[.pointer (some ⟨g, 0, none⟩)] w' fun e w'' => e = .returned (.int .i64 ((2 ^ m : Nat) : Int)) ∧ Below w'.heap.size w' w'') := Lib.hid fun w' hb => assignments_any g _ m w' (Hp.out.below hb) (by rw [hnl, hm]; show (d.ins : Int) + (d.next.length : Int) = _; omega) hm7
  have HIn : Hid (∀ x w', x ≤ 1000 → Below w.heap.size w w' → Calls Try.prog 97 #[.pointer (some ⟨g, 0, none⟩), .int .i64 (x : Nat)] w' (OwnBools (Cir.bits x d.ins) w')) := Lib.hid fun x w' hx hb => inputBits_any g _ d.ins x w' (Hp.out.below hb) rfl (by omega) (by omega)
  have HLa : Hid (∀ x w', x ≤ 1000 → Below w.heap.size w w' → Calls Try.prog 96 #[.pointer (some ⟨g, 0, none⟩), .int .i64 (x : Nat)] w' (OwnBools (Cir.bits (x / 2 ^ d.ins) d.next.length) w')) := Lib.hid fun x w' hx hb => latchBits_any g _ d.ins d.next.length x w' (Hp.out.below hb) rfl hnl (by omega) (by omega) (by omega)
  have HEv : Hid (∀ x vs vi w', Below w.heap.size w w' → BoolsAt w' vs (Cir.bits (x / 2 ^ d.ins) d.next.length) → BoolsAt w' vi (Cir.bits x d.ins) → Calls Try.prog 85 #[.pointer (some ⟨g, 0, none⟩), vs, vi, .int .i64 (-1), .bool false] w' (OwnBools (Cir.vals d (Cir.bits (x / 2 ^ d.ins) d.next.length) (Cir.bits x d.ins)) w')) := Lib.hid fun x vs vi w' hb h1 h2 => evaluate_any g d vs vi _ _ w' (Hp.out.below hb) hd h1 h2 (Cir.bits_length _ _) (Cir.bits_length _ _)
  have HVl : Hid (∀ x, (Cir.vals d (Cir.bits (x / 2 ^ d.ins) d.next.length) (Cir.bits x d.ins)).length = n) := Lib.hid fun x => by rw [Cir.vals_length d (Cir.bits_length _ _) (Cir.bits_length _ _), hn]
  have HCo : Hid (∀ x v, x < 2 ^ m → v < n → (colsG d n x v).set v ((Cir.colV d v).take x ++ [(Cir.vals d (Cir.bits (x / 2 ^ d.ins) d.next.length) (Cir.bits x d.ins)).getD v false]) = colsG d n x (v + 1)) := Lib.hid fun x v hx hv => colsG_step (by rw [← hm]; exact hx) hv
  have HCl : Hid (∀ v, (Cir.colV d v).length = 2 ^ m) := Lib.hid fun v => by rw [Cir.colV_length, hm]
  have h2 : 2 ^ m ≤ 128 := Nat.pow_le_pow_right (show 0 < 2 by decide) hm7
  have h20 : 0 < 2 ^ m := Nat.pow_pos (by omega)
  rw [← hn]
  generalize 2 ^ m = M at *
  have hmk := run_make_row' (P := Try.prog) 119 22 (.slice none 0 0) 24 Try.underlying119 info_u8s rfl .i64 .i64 n (by omega) (by omega)
  clear h hd hn hnl hgl hm s1 s2 s3
  go_enter Try.func54, Try.ntmps54
  go_wp2_with fail
  refine HVa.out.mono ?_
  rintro e w1 ⟨rfl, hb1⟩
  have hO0 : (w1.alloc (.cells (madeCells #[Value.slice none 0 0] n) 22)).ownsRow w1.heap.size 22 1 (.slice (some ⟨w1.heap.size, 0, none⟩) n n) n (List.replicate n (.slice none 0 0)) := by
    have h := World.ownsRow_lit (base := w1.heap.size) (e := 22) (size := 1) w1 (madeCells #[Value.slice none 0 0] n) n (Nat.le_refl _) (by unfold maxLen; omega) (by simp [madeCells])
    have e : (madeCells #[Value.slice none 0 0] n).toList = List.replicate n (.slice none 0 0) := by simp [madeCells, Nat.mod_one, List.map_const']
    rwa [e] at h
  have hC0 : ColAt w1.heap.size n (List.replicate n (.slice none 0 0)) (colsG d n 0 0) (w1.alloc (.cells (madeCells #[Value.slice none 0 0] n) 22)) := by
    refine ⟨hO0, List.length_replicate, by simp [colsG], fun i v c hv hc => ?_, fun i j v v' hij hv hv' q hq => ?_⟩
    · have hi : i < n := by obtain ⟨h1, -⟩ := List.getElem?_eq_some_iff.1 hv; simpa using h1
      rw [List.getElem?_replicate, if_pos hi] at hv
      obtain rfl := Option.some.inj hv
      rw [colsG_at hi, if_neg (by omega), List.take_zero] at hc
      obtain rfl := Option.some.inj hc
      exact World.ownsRow_nil _ _ _ _
    · have hi : i < n := by obtain ⟨h1, -⟩ := List.getElem?_eq_some_iff.1 hv; simpa using h1
      rw [List.getElem?_replicate, if_pos hi] at hv
      obtain rfl := Option.some.inj hv
      cases hq
  have hB2 : Below w.heap.size w (w1.alloc (.cells (madeCells #[Value.slice none 0 0] n) 22)) := hb1.alloc hb1.size _
  have hz1 := hb1.size
  have hz2 : (w1.alloc (.cells (madeCells #[Value.slice none 0 0] n) 22)).heap.size = w1.heap.size + 1 := by simp
  go_wp2_with fail
  generalize w1.alloc (.cells (madeCells #[Value.slice none 0 0] n) 22) = W2 at *
  obtain ⟨gO, hgO⟩ : ∃ gO, gO = w1.heap.size := ⟨_, rfl⟩
  rw [← hgO] at hC0 ⊢
  have hwO : w.heap.size ≤ gO := by omega
  refine (HAs.out W2 hB2).mono ?_
  rintro e w3 ⟨rfl, hb3⟩
  have HC3 := Lib.hid (hC0.below hb3)
  have HB3 := Lib.hid (hB2.trans (hb3.mono hB2.size))
  have hz3 : gO + 1 ≤ w3.heap.size := by have := hb3.size; omega
  clear hmk hO0 hC0 hB2 hb1 hb3 hz1 hz2 hgO HVa HAs
  go_wp2_with fail
  go_loopw [16] (fun i wr => ∃ (x : Nat) (vs : List Value), x ≤ M ∧ i = .int .i64 x ∧ Hid (ColAt gO n vs (colsG d n x 0) wr) ∧ gO + 1 ≤ wr.heap.size ∧ Hid (Below w.heap.size w wr)) (fun i _ => M - (intOf i).toNat)
  case atStart => exact ⟨0, _, Nat.zero_le _, rfl, HC3, hz3, HB3⟩
  case round =>
    obtain ⟨x, vs, hx, rfl, HC, hzr, Hb⟩ := hrel
    clear HC3 HB3 hz3
    by_cases hlt : x < M
    · go_wp2_with fail
      refine (HLa.out x wr (by omega) Hb.out).mono ?_
      rintro e w4 ⟨v4, rfl, ho4, hb4⟩
      have Hb4 := Lib.hid (Hb.out.trans (hb4.mono Hb.out.size))
      have HC4 := Lib.hid (HC.out.below hb4)
      have HR4 := Lib.hid (ownBools_at ho4)
      have hz4 := hb4.size
      clear ho4 hb4 HC Hb
      go_wp2_with fail
      refine (HIn.out x w4 (by omega) Hb4.out).mono ?_
      rintro e w5 ⟨v5, rfl, ho5, hb5⟩
      have Hb5 := Lib.hid (Hb4.out.trans (hb5.mono Hb4.out.size))
      have HC5 := Lib.hid (HC4.out.below hb5)
      have HR5 := Lib.hid (Row.below HR4.out hb5)
      have HI5 := Lib.hid (ownBools_at ho5)
      have hz5 := hb5.size
      clear ho5 hb5 HC4 HR4 Hb4
      go_wp2_with fail
      refine (HEv.out x v4 v5 w5 Hb5.out HR5.out HI5.out).mono ?_
      rintro e w6 ⟨v6, rfl, ho6, hb6⟩
      have Hb6 := Lib.hid (Hb5.out.trans (hb6.mono Hb5.out.size))
      have HC6 := Lib.hid (HC5.out.below hb6)
      have HVx := HVl.out x
      have HCx := Lib.hid (fun v hv => HCo.out x v hlt hv)
      generalize Cir.vals d (Cir.bits (x / 2 ^ d.ins) d.next.length) (Cir.bits x d.ins) = vl at *
      rw [HVx] at ho6
      obtain ⟨gv, cv, hv6, hgv1, hgv2, hcv1, hcv2⟩ := own_open ho6 hn0
      subst hv6
      have Ho6 := Lib.hid ho6
      have hz6 := hb6.size
      have HVX := Lib.hid HVx
      obtain ⟨BV, hBV⟩ : ∃ BV, BV = w5.heap.size := ⟨_, rfl⟩
      rw [← hBV] at Ho6
      clear ho6 hb6 HC5 HR5 HI5 Hb5 HVx hBV
      go_wp2_with fail
      obtain ⟨w7, hw7⟩ : ∃ w7, w7 = w6 := ⟨_, rfl⟩
      subst hw7
      have hz7 : gO + 1 ≤ w7.heap.size := by omega
      go_loopw [28] (fun i wr => ∃ (v : Nat) (vs : List Value), v ≤ n ∧ i = .int .i64 v ∧ Hid (ColAt gO n vs (colsG d n x v) wr) ∧ Hid (wr.ownsRow BV 4 1 (.slice (some ⟨gv, 0, none⟩) n cv) n (bools vl)) ∧ gO + 1 ≤ wr.heap.size ∧ Hid (Below w.heap.size w wr)) (fun i _ => n - (intOf i).toNat)
      case atStart => exact ⟨0, vs, Nat.zero_le _, rfl, HC6, Ho6, hz7, Hb6⟩
      case round =>
        obtain ⟨v, vs, hv, rfl, HC, HO, hzr', Hb⟩ := hrel
        clear HC6 Ho6 Hb6 hz7
        by_cases hlv : v < n
        · have hvs : ∃ u, vs[v]? = some u := ⟨_, List.getElem?_eq_getElem (by rw [HC.out.vl]; exact hlv)⟩
          obtain ⟨u, hu⟩ := hvs
          have hcg := colsG_at (c := d) (x := x) (v := v) hlv
          rw [if_neg (Nat.lt_irrefl _)] at hcg
          have hru := HC.out.row v u _ hu hcg
          have hlen : ((Cir.colV d v).take x).length = x := by rw [List.length_take, HCl.out]; omega
          have HSt := Lib.hid (HCx.out v hlv)
          generalize hcol : (Cir.colV d v).take x = col at *
          rw [hlen] at hru
          obtain ⟨Au, cu, hue⟩ := slice_of_own hru
          subst hue
          have Hru := Lib.hid hru
          have Hu := Lib.hid hu
          have Hcg := Lib.hid hcg
          have Hlen := Lib.hid hlen
          obtain ⟨u0, hu0, hd0, hf0⟩ := own_slot HC.out.own (j := v) (by omega)
          obtain rfl := Option.some.inj (hu0.symm.trans hu)
          have hsk : (bools vl)[v]? = some (.bool (vl.getD v false)) := by
            have := HVX.out
            unfold bools
            rw [List.getElem?_map, List.getElem?_eq_getElem (by omega), List.getD_eq_getElem?_getD, List.getElem?_eq_getElem (by omega)]
            rfl
          obtain ⟨u1, hu1, hd1, -⟩ := own_slot HO.out (j := v) (by omega)
          obtain rfl : u1 = .bool (vl.getD v false) := Option.some.inj (hu1.symm.trans hsk)
          have hgOz := (HC.out.own.lt gO rfl).2
          generalize vl.getD v false = y at *
          have hbl := bel_new wr (.cells #[.int .u8 (bcode y)] 5)
          have hzl : (wr.alloc (.cells #[.int .u8 (bcode y)] 5)).heap.size = wr.heap.size + 1 := by simp
          have Hlit := Lib.hid (Row.of_own (World.ownsRow_lit (base := wr.heap.size) (e := 5) (size := 1) wr #[.int .u8 (bcode y)] 1 (Nat.le_refl _) (by unfold maxLen; omega) rfl))
          have HRl := Lib.hid (own_below hru hbl)
          have HOl := Lib.hid (own_below HO.out hbl)
          have Hbl := Lib.hid hbl
          have HTag : Hid (∀ q, (Value.slice (some ⟨gv, 0, none⟩) n cv).ownBlock = some q → (Value.slice Au x cu).ownBlock ≠ some q) := Lib.hid fun q hq => own_tags HOl.out HRl.out (by decide) hq
          have hneO : ¬ ((Value.slice Au x cu).ownBlock = some gO) := fun e => by have := (hru.lt gO e).1; omega
          have hgvO : gv ≠ gO := fun e => by
            have h1 := own_tag HO.out (g := gv) rfl
            obtain ⟨c1, h1⟩ := h1
            obtain ⟨c2, h2⟩ := own_tag HC.out.own (g := gO) rfl
            rw [e, h2] at h1
            have h3 := Option.some.inj h1
            injection h3 with h4 h5
            exact absurd h5 (by decide)
          have hd0l := (hbl.cell (p := ⟨gO, v, none⟩) hgOz).trans hd0
          have Hb0 := Lib.hid Hb.out
          generalize hcs : bytesB col = cs at *
          have Hcs := Lib.hid hcs
          clear hu0 hu1 hru hu hcg hlen hbl hcs hsk hcol
          have hcy : (y = true ∧ bcode y = 49) ∨ (y = false ∧ bcode y = 48) := by cases y <;> simp [bcode]
          rcases hcy with ⟨hy, hby⟩ | ⟨hy, hby⟩
          all_goals
            rw [hby] at Hlit HRl HOl Hbl hzl hd0l
            rw [hy] at hd1
            have HY := Lib.hid (And.intro hy hby)
            clear hy hby
            go_wp2_with (at_builtin; refine append_u8 rfl (.tmp 39) (.tmp 41) rfl (gO + 1) (.slice Au x cu) x cs rfl HRl.out _ 1 [.int .u8 _] rfl Hlit.out (by simp [Value.oneCell']) (by omega) (by omega) ?_; intro v8 w8 hown8 hg8 hat8; obtain ⟨A8, c8, hv8⟩ := slice_of_own hown8; subst hv8; have O8 : Only (fun q => (Value.slice Au x cu).ownBlock = some q) _ w8 := Only.grown hg8 (fun k hk => hk); have hown0 := own_only (own_below HC.out.own Hbl.out) O8 (fun q hq e => by have h1 := Option.some.inj hq; simp only at h1; exact hneO (by rw [h1]; exact e)); obtain ⟨u9, -, hd9, hf9⟩ := own_slot hown0 (j := v) (by omega); have Hown8 := Lib.hid hown8; have Hg8 := Lib.hid hg8; have Hat8 := Lib.hid hat8; have HO8 := Lib.hid O8; clear hown8 hg8 hat8 O8 hown0)
            have hCu := ColAt.upd (b := y) HC.out Hu.out Hcg.out Hbl.out Hg8.out (by rw [Hlen.out, Hcs.out, HY.out.2]; exact Hown8.out) Hat8.out
            rw [HSt.out] at hCu
            have hz8 := HO8.out.size
            go_roundw
            case rel => exact ⟨v + 1, _, by omega, by go_num, Lib.hid hCu, Lib.hid (own_setN (own_only HOl.out HO8.out (fun q hq e => HTag.out q hq e)) (fun e => hgvO (by have := Option.some.inj e; simp only at this; exact this))), by simp; omega, Lib.hid ((Only.below (Hb0.out.trans (Hbl.out.mono Hb0.out.size)) HO8.out (by have := Hb0.out.size; omega) (fun q hq => by have := (HRl.out.lt q hq).1; omega)).setCell hwO _)⟩
            case measure => simp [intOf]; omega
        · obtain rfl : v = n := by omega
          rw [colsG_next] at HC
          go_wp2_with fail
          go_roundw
          case rel => exact ⟨x + 1, vs, by omega, by go_num, HC, hzr', Hb⟩
          case measure => simp [intOf]; omega
    · obtain rfl : x = M := by omega
      clear hlt
      go_wp2_with fail
      obtain ⟨w7, hw7⟩ : ∃ w7, w7 = wr := ⟨_, rfl⟩
      subst hw7
      obtain ⟨B3, hB3⟩ : ∃ B3, B3 = w7.heap.size := ⟨_, rfl⟩
      have hwB3 : w.heap.size ≤ B3 := by rw [hB3]; exact Hb.out.size
      have hB3z : B3 ≤ w7.heap.size := by omega
      have hvl : ∀ (i : Nat) (v : Value), vs[i]? = some v → ∀ q, v.ownBlock = some q → q < B3 := fun i v hv q hq => by
        have hcj : ∃ cj, (colsG d n x 0)[i]? = some cj := ⟨_, List.getElem?_eq_getElem (by obtain ⟨h2, -⟩ := List.getElem?_eq_some_iff.1 hv; rw [HC.out.cl, ← HC.out.vl]; exact h2)⟩
        obtain ⟨cj, hcj⟩ := hcj
        rw [hB3]
        exact ((HC.out.row i v cj hv hcj).lt q hq).2
      have hgOB : gO < B3 := by rw [hB3]; exact (HC.out.own.lt gO rfl).2
      have HVL := Lib.hid hvl
      clear hB3 hvl
      go_loopw [8, 48] (fun ov i wr => ∃ (k : Nat) (ov' : Value), ov' = ov ∧ k ≤ n ∧ i = .int .i64 k ∧ Hid (ColAt gO n vs (colsG d n x 0) wr) ∧ Hid (wr.ownsRow B3 9 1 ov k (colsV d k)) ∧ B3 ≤ wr.heap.size ∧ Hid (Below w.heap.size w wr)) (fun _ i _ => n - (intOf i).toNat)
      case atStart => exact ⟨0, .slice none 0 0, rfl, Nat.zero_le _, rfl, HC, Lib.hid (World.ownsRow_nil _ _ _ _), hB3z, Hb⟩
      case round =>
        obtain ⟨k, ov', hov, hk, rfl, HC', HO, hzr', Hb'⟩ := hrel
        subst hov
        clear HC Hb hB3z
        by_cases hlk : k < n
        · obtain ⟨u, hu⟩ : ∃ u, vs[k]? = some u := ⟨_, List.getElem?_eq_getElem (by rw [HC'.out.vl]; exact hlk)⟩
          have hcg := colsG_at (c := d) (x := x) (v := 0) hlk
          rw [if_neg (Nat.not_lt_zero _), List.take_of_length_le (by rw [HCl.out]; exact Nat.le_refl _)] at hcg
          have hru := HC'.out.row k u _ hu hcg
          have hlen := HCl.out k
          rw [hlen] at hru
          obtain ⟨gu, cu, hue, hgu1, hgu2, hcu1, hcu2⟩ := own_open hru h20
          subst hue
          obtain ⟨u0, hu0, hd0, -⟩ := own_slot HC'.out.own (j := k) (by omega)
          obtain rfl := Option.some.inj (hu0.symm.trans hu)
          have hcv := run_convert_bytes_arg wr 22 5 Try.underlying22 Try.underlying5 gu 0 x cu ((Cir.colV d k).map bcode) (by rw [List.length_map, hlen]) (fun i hi => by
            obtain ⟨u2, hu2, hd2, -⟩ := own_slot hru (j := i) (by omega)
            have e : (bytesB (Cir.colV d k))[i]? = some (.int .u8 (((Cir.colV d k).map bcode).getD i 0)) := by
              unfold bytesB
              rw [List.getElem?_map, List.getElem?_eq_getElem (by omega), List.getD_eq_getElem?_getD, List.getElem?_map, List.getElem?_eq_getElem (by omega)]
              rfl
            rw [e] at hu2
            rw [Option.some.inj hu2, Nat.zero_add]
            exact hd2) 9 Try.underlying9
          have hsn : colsV d (k + 1) = colsV d k ++ [.string (colS (Cir.colV d k))] := by
            unfold colsV
            rw [List.range_succ, List.map_append]
            rfl
          have hss : strOfNums ((Cir.colV d k).map bcode) = colS (Cir.colV d k) := rfl
          rw [hss] at hcv
          have Hsn := Lib.hid hsn
          generalize colS (Cir.colV d k) = s at *
          have hgOz := (HC'.out.own.lt gO rfl).2
          have hbl := bel_new wr (.cells #[.string s] 9)
          have hzl : (wr.alloc (.cells #[.string s] 9)).heap.size = wr.heap.size + 1 := by simp
          have Hlit := Lib.hid (Row.of_own (World.ownsRow_lit (base := wr.heap.size) (e := 9) (size := 1) wr #[.string s] 1 (Nat.le_refl _) (by unfold maxLen; omega) rfl))
          have HOl := Lib.hid (own_below HO.out hbl)
          have HCl' := Lib.hid (HC'.out.below hbl)
          have Hbl := Lib.hid (Hb'.out.trans (hbl.mono Hb'.out.size))
          obtain ⟨Ao, co, hov⟩ := slice_of_own HO.out
          subst hov
          clear hu0 hru hu hcg hlen hbl hsn hss HO
          go_wp2_with (at_builtin; refine append_str rfl (.tmp 52) (.tmp 55) rfl B3 (.slice Ao k co) k (colsV d k) rfl HOl.out _ 1 [.string s] rfl Hlit.out (by simp [Value.oneCell']) (by omega) (by omega) ?_; intro v8 w8 hown8 hg8 hat8; have Hown8 := Lib.hid hown8; have Hg8 := Lib.hid hg8; clear hown8 hg8 hat8)
          have HO8 : Only (fun q => (Value.slice Ao k co).ownBlock = some q) _ w8 := Only.grown Hg8.out (fun k hk => hk)
          have hz8 := HO8.size
          have hlo : ∀ q, (Value.slice Ao k co).ownBlock = some q → B3 ≤ q := fun q hq => (HOl.out.lt q hq).1
          have hC8 : ColAt gO n vs (colsG d n x 0) w8 := ⟨own_only HCl'.out.own HO8 (fun q hq e => by have h1 := Option.some.inj hq; simp only at h1; have := hlo q e; omega), HCl'.out.vl, HCl'.out.cl, fun i v c hv hc => own_only (HCl'.out.row i v c hv hc) HO8 (fun q hq e => by have h1 := HVL.out i v hv q hq; have := hlo q e; omega), HCl'.out.ap⟩
          have HC8 := Lib.hid hC8
          have Hb8 := Lib.hid (Only.below Hbl.out HO8 (by omega) (fun q hq => by have := hlo q hq; omega))
          clear hC8 HO8
          go_roundw
          case rel => exact ⟨k + 1, _, rfl, by omega, by go_num, HC8, Lib.hid (by rw [Hsn.out]; exact Hown8.out), by omega, Hb8⟩
          case measure => simp [intOf]; omega
        · obtain rfl : k = n := by omega
          obtain ⟨Ao, co, hov⟩ := slice_of_own HO.out
          subst hov
          go_wp2_with fail
          go_ret
          exact ⟨⟨_, rfl, own_mono HO.out hwB3⟩, Hb'.out⟩
end Go.Proofs.Ytdgminjbgjbamaa

namespace Go.Proofs.Ytdgminjbgjbamaa
open Go.RowKit Go.Maps
set_option maxRecDepth 100000
set_option maxHeartbeats 8000000
/-! Sweep, by the program. -/
namespace Cir
def sweepZ (c : Cz) : Cz := if valid c then toCz (sweepI (nat c)) else ⟨0, [], [], []⟩
theorem sweepZ_valid (c : Cz) : valid (sweepZ c) = true := by
  unfold sweepZ
  split
  · rename_i h
    exact ok_valid (sweepI_ok (nat_ok h).2)
  · rfl
theorem sweepZ_same {c : Cz} (h : valid c = true) : SameStep (nat c) (nat (sweepZ c)) := by
  unfold sweepZ
  rw [if_pos h, nat_toCz]
  exact sweepI_same (nat_ok h).2
end Cir
theorem pcirc_agg {w : World} {c : Cz} {An Ag Ao : Option Addr} {cn cg co : Nat} (h : CircAt w (.agg #[.int .i64 c.ins, .slice An c.next.length cn, .slice Ag c.gates.length cg, .slice Ao c.outs.length co]) c) :
    PCirc (w.alloc (.cells #[.int .i64 c.ins, .slice An c.next.length cn, .slice Ag c.gates.length cg, .slice Ao c.outs.length co] 26)) w.heap.size c := by
  obtain ⟨vn, vg, vo, e, i1, i2, i3⟩ := h
  injection e with e
  simp only [Array.mk.injEq, List.cons.injEq, and_true] at e
  obtain ⟨-, e1, e2, e3⟩ := e
  subst e1 e2 e3
  exact PCirc.boxed _ i1 i2 i3
theorem circOwn_fourS {w : World} {v : Value} {c : Cz} {gR : Nat} {u0 u1 u2 u3 : Value} {old : Array Value} (h : CircOwn 0 w v c) (hk : w.heap[gR]? = some (.cells old 26 (0, 0))) :
    CircOwn 0 ((((w.setCell ⟨gR, 0, none⟩ u0).setCell ⟨gR, 1, none⟩ u1).setCell ⟨gR, 2, none⟩ u2).setCell ⟨gR, 3, none⟩ u3) v c := by
  obtain ⟨vn, vg, vo, e, h1, h2, h3⟩ := h
  have n1 := own_ne_tag h1 hk (by decide)
  have n2 := own_ne_tag h2 hk (by decide)
  have n3 := own_ne_tag h3 hk (by decide)
  exact ⟨vn, vg, vo, e, own_setN (own_setN (own_setN (own_setN h1 n1) n1) n1) n1, own_setN (own_setN (own_setN (own_setN h2 n2) n2) n2) n2, own_setN (own_setN (own_setN (own_setN h3 n3) n3) n3) n3⟩
theorem ptr_any (i : Int) (A B C : Option Addr) (n m k p q r : Nat) (w : World) :
    Calls Try.prog 55 #[.agg #[.int .i64 i, .slice A n p, .slice B m q, .slice C k r]] w fun e w' => e = .returned (.pointer (some ⟨w.heap.size, 0, none⟩)) ∧ w' = w.alloc (.cells #[.int .i64 i, .slice A n p, .slice B m q, .slice C k r] 26) := by
  go_enter Try.func55, Try.ntmps55
  go_wp2_with fail
  go_ret
  exact ⟨rfl, rfl⟩
theorem implSweep_any (v : Value) (c : Cz) (w : World) (h : CircAt w v c) :
    Calls Try.prog 18 #[v] w fun e w' => (∃ v', e = .returned v' ∧ CircOwn 0 w' v' (Cir.sweepZ c)) ∧ Below w.heap.size w w' := by
  have HC := Lib.hid h
  obtain ⟨An, cn, Ag, cg, Ao, co, rfl⟩ := h.shape
  have hb0 := bel_new w (.cells #[.int .i64 c.ins, .slice An c.next.length cn, .slice Ag c.gates.length cg, .slice Ao c.outs.length co] 26)
  have hsz : (w.alloc (.cells #[.int .i64 c.ins, .slice An c.next.length cn, .slice Ag c.gates.length cg, .slice Ao c.outs.length co] 26)).heap.size = w.heap.size + 1 := by simp
  have hp0 := pcirc_agg h
  have PC := PCells.boxed w c.ins (.slice An c.next.length cn) (.slice Ag c.gates.length cg) (.slice Ao c.outs.length co) 26
  obtain ⟨W1, hW1⟩ : ∃ W1, w.alloc (.cells #[.int .i64 c.ins, .slice An c.next.length cn, .slice Ag c.gates.length cg, .slice Ao c.outs.length co] 26) = W1 := ⟨_, rfl⟩
  rw [hW1] at hb0 hsz hp0 PC
  have hb1 := bel_new W1 (.cells #[.int .i64 0, .slice none 0 0, .slice none 0 0, .slice none 0 0] 26)
  have hR1 := heap_alloc_new W1 (.cells #[.int .i64 0, .slice none 0 0, .slice none 0 0, .slice none 0 0] 26)
  have hp1 := hp0.below hb1
  have hB1 := hb0.trans (hb1.mono hb0.size)
  have hz1 : (W1.alloc (.cells #[.int .i64 0, .slice none 0 0, .slice none 0 0, .slice none 0 0] 26)).heap.size = W1.heap.size + 1 := by simp
  obtain ⟨zz, p0, p1, p2, p3⟩ := PC.below hb1
  have HC1 := Lib.hid (HC.out.below hB1)
  have Hp1 := Lib.hid hp1
  have HB1 := Lib.hid hB1
  have HR1 := Lib.hid hR1
  have hgw : W1.heap.size = w.heap.size + 1 := hsz
  clear hp0 hb0 hb1 hp1 hB1 hR1 HC h PC
  go_enter Try.func18, Try.ntmps18
  go_wp2_with fail
  generalize W1.alloc (.cells #[.int .i64 0, .slice none 0 0, .slice none 0 0, .slice none 0 0] 26) = W2 at *
  have HV := Lib.hid (implValid_any _ _ _ HC1.out)
  obtain ⟨gc, hgc⟩ : ∃ gc, gc = w.heap.size := ⟨_, rfl⟩
  obtain ⟨gR, hgR⟩ : ∃ gR, gR = w.heap.size + 1 := ⟨_, rfl⟩
  rw [← hgc] at p0 p1 p2 p3 zz Hp1
  rw [hgw, ← hgR] at HR1
  rw [← hgR, ← hgc]
  have hwR : w.heap.size ≤ gR := by omega
  have hgRz := blk_ltB HR1.out
  clear hW1 hsz hgw hgc hgR hz1
  refine HV.out.mono ?_
  rintro e w3 ⟨rfl, hb3⟩
  have Hp3 := Lib.hid (Hp1.out.below hb3)
  have HR3 := Lib.hid ((hb3.block gR hgRz).trans HR1.out)
  have HB3 := Lib.hid (HB1.out.trans (hb3.mono HB1.out.size))
  clear p0 p1 p2 p3 zz hb3 HB1 HR1 Hp1 HC1 HV
  cases hv : Cir.valid c
  · have HE : Hid (Cir.sweepZ c = ⟨0, [], [], []⟩) := Lib.hid (by unfold Cir.sweepZ; rw [hv]; rfl)
    have r0 := blk_cell HR3.out 0
    have r1 := blk_cell HR3.out 1
    have r2 := blk_cell HR3.out 2
    have r3 := blk_cell HR3.out 3
    have f0 := blk_free HR3.out 0
    have f1 := blk_free HR3.out 1
    have f2 := blk_free HR3.out 2
    have f3 := blk_free HR3.out 3
    clear hv
    go_wp2_with fail
    refine bodyPost_ret (v := .agg #[.int .i64 0, .slice none 0 0, .slice none 0 0, .slice none 0 0]) (by simp [results, Try.results18, go_sem, r0, r1, r2, r3]) rfl ⟨⟨_, rfl, ?_⟩, ?_⟩
    · rw [HE.out]
      exact ⟨_, _, _, rfl, World.ownsRow_nil _ _ _ _, World.ownsRow_nil _ _ _ _, World.ownsRow_nil _ _ _ _⟩
    · exact (((HB3.out.setCell hwR _).setCell hwR _).setCell hwR _).setCell hwR _
  · obtain ⟨hd1, hd2⟩ := Cir.nat_ok hv
    have HE : Hid (Cir.sweepZ c = Cir.toCz (Cir.sweepI (Cir.nat c))) := Lib.hid (by unfold Cir.sweepZ; rw [hv]; rfl)
    rw [hd1] at Hp3
    have HO := Lib.hid (optimize_any gc (Cir.nat c) w3 Hp3.out hd2)
    have hSw : Cir.sweepI (Cir.nat c) = Cir.optI (mapC (Cir.sweepU (Cir.optI (Cir.nat c))) (Cir.optI (Cir.nat c))) := rfl
    have hok := Cir.optI_ok hd2
    have hok2 := Cir.sweepC_ok hok
    have hok3 : Cir.Ok (mapC (Cir.sweepU (Cir.optI (Cir.nat c))) (Cir.optI (Cir.nat c))) := hok2
    rw [hSw] at HE
    generalize Cir.optI (Cir.nat c) = d at *
    have hgR3 := blk_ltB HR3.out
    have hm : 2 ^ (d.ins + d.next.length) ≤ 1000 := by
      have h1 := hok.ins
      have h2 := hok.nexts
      have h3 : 2 ^ (d.ins + d.next.length) ≤ 2 ^ 7 := Nat.pow_le_pow_right (by omega) (by omega)
      omega
    have HOk := Lib.hid hok
    have HOk3 := Lib.hid hok3
    clear hd1 hd2 Hp3 hv hSw hok hok2 hok3
    go_wp2_with fail
    refine HO.out.mono ?_
    rintro e w4 ⟨⟨v4, rfl, hC4⟩, hb4⟩
    obtain ⟨A1, c1, A2, c2, A4, c4, e6⟩ := hC4.at.shape
    subst e6
    have hP5 := pcirc_agg hC4.at
    have hb5 := bel_new w4 (.cells #[.int .i64 (Cir.toCz d).ins, .slice A1 (Cir.toCz d).next.length c1, .slice A2 (Cir.toCz d).gates.length c2, .slice A4 (Cir.toCz d).outs.length c4] 26)
    have hz5 : (w4.alloc (.cells #[.int .i64 (Cir.toCz d).ins, .slice A1 (Cir.toCz d).next.length c1, .slice A2 (Cir.toCz d).gates.length c2, .slice A4 (Cir.toCz d).outs.length c4] 26)).heap.size = w4.heap.size + 1 := by simp
    have hB5 := HB3.out.trans ((hb4.trans (hb5.mono hb4.size)).mono HB3.out.size)
    have hR5 := (hb5.block gR (Nat.lt_of_lt_of_le hgR3 hb4.size)).trans ((hb4.block gR hgR3).trans HR3.out)
    go_wp2_with fail
    generalize w4.alloc (.cells #[.int .i64 (Cir.toCz d).ins, .slice A1 (Cir.toCz d).next.length c1, .slice A2 (Cir.toCz d).gates.length c2, .slice A4 (Cir.toCz d).outs.length c4] 26) = W5 at *
    obtain ⟨g3, hg3⟩ : ∃ g3, g3 = w4.heap.size := ⟨_, rfl⟩
    rw [← hg3] at hP5 ⊢
    have HP5 := Lib.hid hP5
    have HR5 := Lib.hid hR5
    have HB5 := Lib.hid hB5
    have hgR5 := blk_ltB hR5
    clear hP5 hR5 hB5 hb4 hb5 hC4 hz5 hg3 HB3 HR3 HO hgR3
    refine (functions_any g3 d W5 HP5.out HOk.out).mono ?_
    rintro e w6 ⟨⟨v6, rfl, ho6⟩, hb6⟩
    obtain ⟨A6, c6, hv6⟩ := slice_of_own ho6
    subst hv6
    have hb7 := bel_new w6 (.cells #[.slice A6 (Cir.nvars d) c6] 80)
    have hk7 := heap_alloc_new w6 (.cells #[.slice A6 (Cir.nvars d) c6] 80)
    have hz7 : (w6.alloc (.cells #[.slice A6 (Cir.nvars d) c6] 80)).heap.size = w6.heap.size + 1 := by simp
    have hb67 := hb6.trans (hb7.mono hb6.size)
    have HP7 := Lib.hid (HP5.out.below hb67)
    have HR7 := Lib.hid ((hb67.block gR hgR5).trans HR5.out)
    have HB7 := Lib.hid (HB5.out.trans (hb67.mono HB5.out.size))
    have HS7 := Lib.hid (own_below ho6 hb7)
    have HK7 := Lib.hid hk7
    go_wp2_with fail
    generalize w6.alloc (.cells #[.slice A6 (Cir.nvars d) c6] 80) = W7 at *
    obtain ⟨g4, hg4⟩ : ∃ g4, g4 = w6.heap.size := ⟨_, rfl⟩
    rw [← hg4] at HK7 ⊢
    have hg4z := blk_ltB HK7.out
    have hgR7 := blk_ltB HR7.out
    clear hb6 hb7 hk7 hz7 hb67 ho6 HP5 HR5 HB5 hg4
    have HRp := Lib.hid (replaced_any g3 (2 * Cir.nvars d) d 57 #[.pointer (some ⟨g4, 0, none⟩)] (Cir.sweepU d) W7 HP7.out (by have := HOk.out.nexts; omega) (by have := HOk.out.gatess; omega) (by have := HOk.out.outss; omega) (fun l hl => HOk.out.next l hl) (fun x hx => by
      obtain ⟨k, hk, rfl⟩ := List.mem_iff_getElem.1 hx
      have h1 := HOk.out.gate k _ (List.getElem?_eq_getElem hk)
      unfold Cir.nvars
      omega) (fun l hl => HOk.out.out l hl) (fun vs w' => by kernel_rfl) (fun w' hb l hl => sweepUse_any g4 l (Cir.nvars d) d (.slice A6 (Cir.nvars d) c6) w' ((hb.cell (p := ⟨g4, 0, none⟩) hg4z).trans (blk_cell HK7.out 0)) (Nat.lt_of_lt_of_le hg4z hb.size) (Row.below (Row.of_own HS7.out) hb) (by omega) (by
        have h1 := HOk.out.ins
        have h2 := HOk.out.nexts
        have h3 := HOk.out.gatess
        unfold Cir.nvars Cir.nfirst at hl
        omega) hm))
    refine HRp.out.mono ?_
    rintro e w8 ⟨⟨v8, rfl, hC8⟩, hb8⟩
    have hC8' := hC8.at
    obtain ⟨B1, d1, B2, d2, B4, d4, e8⟩ := hC8'.shape
    subst e8
    have HR8 := Lib.hid ((hb8.block gR hgR7).trans HR7.out)
    have HB8 := Lib.hid (HB7.out.trans (hb8.mono HB7.out.size))
    have HC8 := Lib.hid hC8'
    have hgR8 := blk_ltB HR8.out
    clear hC8 hC8' hb8 HRp HR7 HB7 HK7 HS7 HP7
    go_wp2_with fail
    refine (ptr_any _ _ _ _ _ _ _ _ _ _ w8).mono ?_
    rintro e w9 ⟨rfl, hw9⟩
    have hP9 := pcirc_agg HC8.out
    have hb9 := bel_new w8 (.cells #[.int .i64 (Cir.toCz (mapC (Cir.sweepU d) d)).ins, .slice B1 (Cir.toCz (mapC (Cir.sweepU d) d)).next.length d1, .slice B2 (Cir.toCz (mapC (Cir.sweepU d) d)).gates.length d2, .slice B4 (Cir.toCz (mapC (Cir.sweepU d) d)).outs.length d4] 26)
    rw [← hw9] at hP9 hb9
    have HP9 := Lib.hid hP9
    have HR9 := Lib.hid ((hb9.block gR hgR8).trans HR8.out)
    have HB9 := Lib.hid (HB8.out.trans (hb9.mono HB8.out.size))
    have hgR9 := blk_ltB HR9.out
    have HO9 := Lib.hid (optimize_any w8.heap.size _ w9 HP9.out HOk3.out)
    rw [← HE.out] at HO9
    clear hP9 hb9 hw9 HR8 HB8 HC8 HP9
    go_wp2_with fail
    refine HO9.out.mono ?_
    rintro e wa ⟨⟨va, rfl, hCa⟩, hba⟩
    have hRa := (hba.block gR hgR9).trans HR9.out
    have HCa := Lib.hid hCa
    have HBa := Lib.hid (HB9.out.trans (hba.mono HB9.out.size))
    obtain ⟨A7, c7, A8, c8, A9, c9, e9⟩ := hCa.at.shape
    subst e9
    have HRa := Lib.hid hRa
    have r0 := blk_cell hRa 0
    have r1 := blk_cell hRa 1
    have r2 := blk_cell hRa 2
    have r3 := blk_cell hRa 3
    have f0 := blk_free hRa 0
    have f1 := blk_free hRa 1
    have f2 := blk_free hRa 2
    have f3 := blk_free hRa 3
    clear hCa hba hRa HB9 HR9 HO9
    generalize hL1 : (Cir.sweepZ c).next.length = L1 at *
    generalize hL2 : (Cir.sweepZ c).gates.length = L2 at *
    generalize hL3 : (Cir.sweepZ c).outs.length = L3 at *
    generalize hL4 : (Cir.sweepZ c).ins = L4 at *
    clear hL1 hL2 hL3 hL4
    go_wp2_with fail
    refine bodyPost_ret (v := .agg #[.int .i64 L4, .slice A7 L1 c7, .slice A8 L2 c8, .slice A9 L3 c9]) (by simp [results, Try.results18, go_sem, r0, r1, r2, r3]) rfl ⟨⟨_, rfl, circOwn_fourS HCa.out HRa.out⟩, ?_⟩
    exact (((HBa.out.setCell hwR _).setCell hwR _).setCell hwR _).setCell hwR _
end Go.Proofs.Ytdgminjbgjbamaa

namespace Go.Proofs.Ytdgminjbgjbamaa
open Go.RowKit Go.Maps
set_option maxRecDepth 100000
set_option maxHeartbeats 8000000
/-! Optimize, by the program. -/
theorem circOwn_four {w : World} {v : Value} {c : Cz} {gR : Nat} {u0 u1 u2 u3 : Value} {old : Array Value} (h : CircOwn 0 w v c) (hk : w.heap[gR]? = some (.cells old 26 (0, 0))) :
    CircOwn 0 ((((w.setCell ⟨gR, 0, none⟩ u0).setCell ⟨gR, 1, none⟩ u1).setCell ⟨gR, 2, none⟩ u2).setCell ⟨gR, 3, none⟩ u3) v c := by
  obtain ⟨vn, vg, vo, e, h1, h2, h3⟩ := h
  have n1 := own_ne_tag h1 hk (by decide)
  have n2 := own_ne_tag h2 hk (by decide)
  have n3 := own_ne_tag h3 hk (by decide)
  exact ⟨vn, vg, vo, e, own_setN (own_setN (own_setN (own_setN h1 n1) n1) n1) n1, own_setN (own_setN (own_setN (own_setN h2 n2) n2) n2) n2, own_setN (own_setN (own_setN (own_setN h3 n3) n3) n3) n3⟩
theorem implOpt_any (v : Value) (c : Cz) (w : World) (h : CircAt w v c) :
    Calls Try.prog 10 #[v] w fun e w' => (∃ v', e = .returned v' ∧ CircOwn 0 w' v' (Cir.optZ c)) ∧ Below w.heap.size w w' := by
  have HC := Lib.hid h
  obtain ⟨An, cn, Ag, cg, Ao, co, rfl⟩ := h.shape
  have hb0 := bel_new w (.cells #[.int .i64 c.ins, .slice An c.next.length cn, .slice Ag c.gates.length cg, .slice Ao c.outs.length co] 26)
  have hsz : (w.alloc (.cells #[.int .i64 c.ins, .slice An c.next.length cn, .slice Ag c.gates.length cg, .slice Ao c.outs.length co] 26)).heap.size = w.heap.size + 1 := by simp
  have hp0 : PCirc (w.alloc (.cells #[.int .i64 c.ins, .slice An c.next.length cn, .slice Ag c.gates.length cg, .slice Ao c.outs.length co] 26)) w.heap.size c := by
    obtain ⟨vn, vg, vo, e, i1, i2, i3⟩ := h
    injection e with e
    simp only [Array.mk.injEq, List.cons.injEq, and_true] at e
    obtain ⟨-, e1, e2, e3⟩ := e
    subst e1 e2 e3
    exact PCirc.boxed _ i1 i2 i3
  have PC := PCells.boxed w c.ins (.slice An c.next.length cn) (.slice Ag c.gates.length cg) (.slice Ao c.outs.length co) 26
  obtain ⟨W1, hW1⟩ : ∃ W1, w.alloc (.cells #[.int .i64 c.ins, .slice An c.next.length cn, .slice Ag c.gates.length cg, .slice Ao c.outs.length co] 26) = W1 := ⟨_, rfl⟩
  rw [hW1] at hb0 hsz hp0 PC
  have hb1 := bel_new W1 (.cells #[.int .i64 0, .slice none 0 0, .slice none 0 0, .slice none 0 0] 26)
  have hR1 := heap_alloc_new W1 (.cells #[.int .i64 0, .slice none 0 0, .slice none 0 0, .slice none 0 0] 26)
  have hp1 := hp0.below hb1
  have hB1 := hb0.trans (hb1.mono hb0.size)
  have hz1 : (W1.alloc (.cells #[.int .i64 0, .slice none 0 0, .slice none 0 0, .slice none 0 0] 26)).heap.size = W1.heap.size + 1 := by simp
  obtain ⟨zz, p0, p1, p2, p3⟩ := PC.below hb1
  have HC1 := Lib.hid (HC.out.below hB1)
  have Hp1 := Lib.hid hp1
  have HB1 := Lib.hid hB1
  have HR1 := Lib.hid hR1
  have hgw : W1.heap.size = w.heap.size + 1 := hsz
  clear hp0 hb0 hb1 hp1 hB1 hR1 HC h PC
  go_enter Try.func10, Try.ntmps10
  go_wp2_with fail
  generalize W1.alloc (.cells #[.int .i64 0, .slice none 0 0, .slice none 0 0, .slice none 0 0] 26) = W2 at *
  have HV := Lib.hid (implValid_any _ _ _ HC1.out)
  obtain ⟨gc, hgc⟩ : ∃ gc, gc = w.heap.size := ⟨_, rfl⟩
  obtain ⟨gR, hgR⟩ : ∃ gR, gR = w.heap.size + 1 := ⟨_, rfl⟩
  rw [← hgc] at p0 p1 p2 p3 zz Hp1
  rw [hgw, ← hgR] at HR1
  rw [← hgR, ← hgc]
  have hwR : w.heap.size ≤ gR := by omega
  have hgRz := blk_ltB HR1.out
  clear hW1 hsz hgw hgc hgR hz1
  refine HV.out.mono ?_
  rintro e w3 ⟨rfl, hb3⟩
  have Hp3 := Lib.hid (Hp1.out.below hb3)
  have HR3 := Lib.hid ((hb3.block gR hgRz).trans HR1.out)
  have HB3 := Lib.hid (HB1.out.trans (hb3.mono HB1.out.size))
  clear p0 p1 p2 p3 zz hb3 HB1 HR1 Hp1 HC1 HV
  cases hv : Cir.valid c
  · have HE : Hid (Cir.optZ c = ⟨0, [], [], []⟩) := Lib.hid (by unfold Cir.optZ; rw [hv]; rfl)
    have r0 := blk_cell HR3.out 0
    have r1 := blk_cell HR3.out 1
    have r2 := blk_cell HR3.out 2
    have r3 := blk_cell HR3.out 3
    have f0 := blk_free HR3.out 0
    have f1 := blk_free HR3.out 1
    have f2 := blk_free HR3.out 2
    have f3 := blk_free HR3.out 3
    clear hv
    go_wp2_with fail
    refine bodyPost_ret (v := .agg #[.int .i64 0, .slice none 0 0, .slice none 0 0, .slice none 0 0]) (by simp [results, Try.results10, go_sem, r0, r1, r2, r3]) rfl ⟨⟨_, rfl, ?_⟩, ?_⟩
    · rw [HE.out]
      exact ⟨_, _, _, rfl, World.ownsRow_nil _ _ _ _, World.ownsRow_nil _ _ _ _, World.ownsRow_nil _ _ _ _⟩
    · exact (((HB3.out.setCell hwR _).setCell hwR _).setCell hwR _).setCell hwR _
  · obtain ⟨hd1, hd2⟩ := Cir.nat_ok hv
    have HE : Hid (Cir.optZ c = Cir.toCz (Cir.optI (Cir.nat c))) := Lib.hid (by unfold Cir.optZ; rw [hv]; rfl)
    rw [hd1] at Hp3
    have HO := Lib.hid (optimize_any gc (Cir.nat c) w3 Hp3.out hd2)
    rw [← HE.out] at HO
    have hgR3 := blk_ltB HR3.out
    clear hd1 hd2 HE Hp3 hv
    go_wp2_with fail
    refine HO.out.mono ?_
    rintro e w4 ⟨⟨v4, rfl, hC4⟩, hb4⟩
    have hR4 := (hb4.block gR hgR3).trans HR3.out
    have HC4 := Lib.hid hC4
    have HB4 := Lib.hid (HB3.out.trans (hb4.mono HB3.out.size))
    obtain ⟨A1, c1, A2, c2, A4, c4, e6⟩ := hC4.at.shape
    subst e6
    have HR4 := Lib.hid hR4
    have r0 := blk_cell hR4 0
    have r1 := blk_cell hR4 1
    have r2 := blk_cell hR4 2
    have r3 := blk_cell hR4 3
    have f0 := blk_free hR4 0
    have f1 := blk_free hR4 1
    have f2 := blk_free hR4 2
    have f3 := blk_free hR4 3
    clear hC4 hb4 hR4 HB3 HR3 HO
    generalize hL1 : (Cir.optZ c).next.length = L1 at *
    generalize hL2 : (Cir.optZ c).gates.length = L2 at *
    generalize hL3 : (Cir.optZ c).outs.length = L3 at *
    generalize hL4 : (Cir.optZ c).ins = L4 at *
    clear hL1 hL2 hL3 hL4
    go_wp2_with fail
    refine bodyPost_ret (v := .agg #[.int .i64 L4, .slice A1 L1 c1, .slice A2 L2 c2, .slice A4 L3 c4]) (by simp [results, Try.results10, go_sem, r0, r1, r2, r3]) rfl ⟨⟨_, rfl, circOwn_four HC4.out HR4.out⟩, ?_⟩
    exact (((HB4.out.setCell hwR _).setCell hwR _).setCell hwR _).setCell hwR _
end Go.Proofs.Ytdgminjbgjbamaa

namespace Go.Proofs.Ytdgminjbgjbamaa
open Go.RowKit Go.Maps
set_option maxRecDepth 100000
set_option maxHeartbeats 8000000
/-! The reference's conjunction over gates. -/
namespace Cir
theorem gatesOf_get (G : List (Nat × Nat)) (k : Nat) : (gatesOf G)[k]? = (G.reverse[k]?).map fun g => ((g.1 : Int), (g.2 : Int)) := by
  unfold gatesOf
  rw [List.getElem?_map]
theorem known_none {F : Nat} : ∀ {G : List (Nat × Nat)} {x y : Nat}, (∀ j, j < G.length → G.reverse[j]? ≠ some (x, y)) → knownG F G x y = none
  | [], _, _, _ => rfl
  | g :: G, x, y, h => by
    unfold knownG
    rw [known_none (G := G) fun j hj => by
      have := h j (by simp only [List.length_cons]; omega)
      rwa [List.reverse_cons, List.getElem?_append_left (by simpa using hj)] at this]
    have hn : ¬ (x = g.1 ∧ y = g.2) := fun e => by
      have := h G.length (by simp)
      rw [List.reverse_cons, List.getElem?_append_right (by simp)] at this
      apply this
      simp [e.1, e.2]
    simp only [if_neg hn]
theorem known_some {F : Nat} : ∀ {G : List (Nat × Nat)} {x y k : Nat}, (∀ j, j < k → G.reverse[j]? ≠ some (x, y)) → G.reverse[k]? = some (x, y) → knownG F G x y = some (2 * (F + k))
  | [], _, _, k, _, h => by simp at h
  | g :: G, x, y, k, hn, h => by
    unfold knownG
    rw [List.reverse_cons] at h
    by_cases hk : k < G.length
    · rw [List.getElem?_append_left (by simpa using hk)] at h
      rw [known_some (G := G) (fun j hj => by
        have := hn j hj
        rwa [List.reverse_cons, List.getElem?_append_left (by simp; omega)] at this) h]
    · rw [List.getElem?_append_right (by simp; omega), List.length_reverse] at h
      have e : k = G.length := by
        obtain ⟨h1, -⟩ := List.getElem?_eq_some_iff.1 h
        simp at h1
        omega
      subst e
      rw [known_none (G := G) fun j hj => by
        have := hn j hj
        rwa [List.reverse_cons, List.getElem?_append_left (by simpa using hj)] at this]
      simp at h
      simp [h]
theorem xor1_pair {a b : Nat} (h : a ≤ b) : a = b ^^^ 1 ↔ b = a + 1 ∧ a % 2 = 0 := by
  have h1 : (b ^^^ 1) / 2 = b / 2 := by rw [Nat.xor_div_two]; simp
  have h2 : (b ^^^ 1) % 2 = 1 - b % 2 := by
    have := Nat.xor_mod_two_pow (a := b) (b := 1) (n := 1)
    simp at this
    rw [this]
    rcases Nat.mod_two_eq_zero_or_one b with e | e <;> rw [e] <;> rfl
  constructor
  · intro e
    rw [e]
    omega
  · intro ⟨e1, e2⟩
    omega
end Cir
/-- What a conjunction hands back. -/
def AndGive (I : Nat) (vn vo : Value) (r : Nat × List (Nat × Nat)) (w : World) (e : Ending) (w' : World) : Prop :=
  ∃ vg', e = .returned (.tuple #[.agg #[.int .i64 (I : Int), vn, vg', vo], .int .i64 (r.1 : Int)]) ∧ w'.ownsRow 0 72 2 vg' r.2.length (cubes (Cir.gatesOf r.2)) ∧ Below w.heap.size w w'

theorem l3And_st (I a b F : Nat) (An Ao : Option Addr) (cn co ln lo : Nat) (nx os : List Int) (vg : Value) (G : List (Nat × Nat)) (w : World) (hF : F = 1 + I + ln) (hI : I ≤ 100) (hln : ln ≤ 100) (hG : G.length ≤ 100)
    (hn : Row w 1 (.slice An ln cn) ln (ints nx)) (hg : w.ownsRow 0 72 2 vg G.length (cubes (Cir.gatesOf G))) (ho : Row w 1 (.slice Ao lo co) lo (ints os)) (hab : a ≤ b) (hb : b < 2 * (F + G.length)) :
    Calls Try.prog 73 #[.agg #[.int .i64 (I : Int), .slice An ln cn, vg, .slice Ao lo co], .int .i64 (a : Int), .int .i64 (b : Int)] w (AndGive I (.slice An ln cn) (.slice Ao lo co) (Cir.andS F G a b) w) := by
  obtain ⟨Ag, cg, hvg⟩ := slice_of_own hg
  subst hvg
  have dg : decide ((a : Int) > (b : Int)) = false := decide_eq_false (by omega)
  have hb0 := bel_new w (.cells #[.int .i64 (I : Int), .slice An ln cn, .slice Ag G.length cg, .slice Ao lo co] 26)
  have hX0 := heap_alloc_new w (.cells #[.int .i64 (I : Int), .slice An ln cn, .slice Ag G.length cg, .slice Ao lo co] 26)
  have hz0 : (w.alloc (.cells #[.int .i64 (I : Int), .slice An ln cn, .slice Ag G.length cg, .slice Ao lo co] 26)).heap.size = w.heap.size + 1 := by simp
  obtain ⟨W0, hW0⟩ : ∃ W0, w.alloc (.cells #[.int .i64 (I : Int), .slice An ln cn, .slice Ag G.length cg, .slice Ao lo co] 26) = W0 := ⟨_, rfl⟩
  rw [hW0] at hb0 hX0 hz0
  have hR0 := heap_alloc_new W0 (.cells #[.int .i64 0, .slice none 0 0, .slice none 0 0, .slice none 0 0] 26)
  have hb1 := bel_new W0 (.cells #[.int .i64 0, .slice none 0 0, .slice none 0 0, .slice none 0 0] 26)
  have hX1 := (hb1.block w.heap.size (by omega)).trans hX0
  have hB1 := hb0.trans (hb1.mono (by omega))
  rw [hz0] at hR0
  have HL1 : Hid (∀ w', Below w.heap.size w w' → Calls Try.prog 44 #[.agg #[.int .i64 (I : Int), .slice An ln cn, .slice Ag G.length cg, .slice Ao lo co]] w' fun e w'' => e = .returned (.int .i64 (F : Int)) ∧ Below w'.heap.size w' w'') := Lib.hid fun w' hb => by
    have hlx : ln = nx.length := by have := hn.len; rw [ints_length] at this; omega
    have hlo : lo = os.length := by have := ho.len; rw [ints_length] at this; omega
    have hgg : G.length = (Cir.gatesOf G).length := (Cir.gatesOf_length G).symm
    have := l1First_any (.agg #[.int .i64 (I : Int), .slice An ln cn, .slice Ag G.length cg, .slice Ao lo co]) ⟨I, nx, Cir.gatesOf G, os⟩ w' ⟨_, _, _, rfl, by unfold IntsAt; show Row w' 1 _ nx.length _; rw [← hlx]; exact Row.below hn hb, by unfold CubesAt; show Row w' 2 _ (Cir.gatesOf G).length _; rw [← hgg]; exact Row.below (Row.of_own hg) hb, by unfold IntsAt; show Row w' 1 _ os.length _; rw [← hlo]; exact Row.below ho hb⟩ (by show (0 : Int) ≤ I; omega) (by show (I : Int) ≤ 100; omega) (by show nx.length ≤ 100; omega)
    have e : Cir.first ⟨I, nx, Cir.gatesOf G, os⟩ = (F : Int) := by unfold Cir.first; simp only; omega
    rwa [e] at this
  have HGk : Hid (∀ k, k < G.length → ∃ g, G.reverse[k]? = some g ∧ ∀ w', Below w.heap.size w w' → ∃ b o, Ag = some ⟨b, o, none⟩ ∧ w'.cell? ⟨b, o + k * 2, none⟩ = some (.int .i64 (g.1 : Int)) ∧ w'.cell? ⟨b, o + k * 2 + 1, none⟩ = some (.int .i64 (g.2 : Int))) := Lib.hid fun k hk => by
    obtain ⟨g, hgk⟩ : ∃ g, G.reverse[k]? = some g := ⟨_, List.getElem?_eq_getElem (by simpa using hk)⟩
    refine ⟨g, hgk, fun w' hb => ?_⟩
    obtain ⟨b, o, x, hA, hbl, hx, h1, h2⟩ := cubes_open (Row.of_own hg) hb (Cir.gatesOf_length G).symm (i := k) (by rw [Cir.gatesOf_length]; exact hk)
    have e : x = ((g.1 : Int), (g.2 : Int)) := by
      have h3 := hx.out
      rw [Cir.gatesOf_get, hgk] at h3
      exact (Option.some.inj h3).symm
    subst e
    exact ⟨b, o, hA, h1, h2⟩
  have HG := Lib.hid hg
  have hm2 := tmod_two a
  have hwb : 0 < b → IntKind.i64.wrap ((b : Int) - 1) = (b : Int) - 1 := fun _ => IntWalk.i64_in _ (by omega)
  have hCg : cg ≤ maxLen := by obtain ⟨A, c, e, h1, h2⟩ := Row.shape (Row.of_own hg); injection e with e1 e2 e3; rw [e3]; exact h2
  have hFb : F ≤ 300 := by omega
  obtain ⟨rp, hrp⟩ : ∃ rp, Cir.andS F G a b = rp := ⟨_, rfl⟩
  rw [hrp]
  clear hn hg ho hb0 hb1 hX0 hF
  go_enter Try.func73, Try.ntmps73
  go_upto_region 5 with fail
  generalize W0.alloc (.cells #[.int .i64 0, .slice none 0 0, .slice none 0 0, .slice none 0 0] 26) = W1 at *
  obtain ⟨gx, hgx⟩ : ∃ gx, gx = w.heap.size := ⟨_, rfl⟩
  obtain ⟨gR, hgR⟩ : ∃ gR, gR = w.heap.size + 1 := ⟨_, rfl⟩
  try rw [hz0]
  rw [← hgR] at hR0
  rw [← hgx] at hX1
  rw [← hgR, ← hgx]
  have hwR : w.heap.size ≤ gR := by omega
  have hwx : w.heap.size ≤ gx := by omega
  have hxR : gx ≠ gR := by omega
  have hgx1 := blk_ltB hX1
  have hgR1 := blk_ltB hR0
  have HX1 := Lib.hid hX1
  have HR1 := Lib.hid hR0
  have HB1 := Lib.hid hB1
  have q0 := blk_cell hX1 0
  have q1 := blk_cell hX1 1
  have q2 := blk_cell hX1 2
  have q3 := blk_cell hX1 3
  have r0 := blk_cell hR0 0
  have r1 := blk_cell hR0 1
  have r2 := blk_cell hR0 2
  have r3 := blk_cell hR0 3
  have f0 := blk_free hR0 0
  have f1 := blk_free hR0 1
  have f2 := blk_free hR0 2
  have f3 := blk_free hR0 3
  simp at q0 q1 q2 q3 r0 r1 r2 r3
  have HG1 : Hid (∀ u0 u1 u2 u3 : Value, ((((W1.setCell ⟨gR, 0, none⟩ u0).setCell ⟨gR, 1, none⟩ u1).setCell ⟨gR, 2, none⟩ u2).setCell ⟨gR, 3, none⟩ u3).ownsRow 0 72 2 (.slice Ag G.length cg) G.length (cubes (Cir.gatesOf G)) ∧ Below w.heap.size w ((((W1.setCell ⟨gR, 0, none⟩ u0).setCell ⟨gR, 1, none⟩ u1).setCell ⟨gR, 2, none⟩ u2).setCell ⟨gR, 3, none⟩ u3)) := Lib.hid fun u0 u1 u2 u3 => by
    have ow := own_below HG.out HB1.out
    have nt := own_ne_tag ow HR1.out (by decide)
    exact ⟨own_setN (own_setN (own_setN (own_setN ow nt) nt) nt) nt, (((HB1.out.setCell hwR _).setCell hwR _).setCell hwR _).setCell hwR _⟩
  clear hW0 hz0 hgx hgR hX1 hR0 hB1 dg
  unfold Cir.andS at hrp
  by_cases c0 : a = 0
  · rw [if_pos (.inl c0)] at hrp
    subst hrp
    have d0 : ((a : Int) == 0) = true := by simp; omega
    clear c0 hm2 hwb
    go_wp2_with fail
    refine bodyPost_ret (v := .tuple #[.agg #[.int .i64 (I : Int), .slice An ln cn, .slice Ag G.length cg, .slice Ao lo co], .int .i64 0]) (by simp [results, Try.results73, go_sem, r0, r1, r2, r3]) rfl ⟨_, rfl, (HG1.out _ _ _ _).1, (HG1.out _ _ _ _).2⟩
  have d0 : ((a : Int) == 0) = false := by simp; omega
  have hwb' := hwb (by omega)
  clear hwb
  by_cases c1 : a = b ^^^ 1
  · rw [if_pos (.inr c1)] at hrp
    subst hrp
    obtain ⟨e1, e2⟩ := (Cir.xor1_pair (by omega)).1 c1
    have d1 : ((a : Int) == (b : Int) - 1) = true := by simp; omega
    have d2 : (((a % 2 : Nat) : Int) == 0) = true := by rw [e2]; rfl
    clear c1 e1 e2
    generalize a % 2 = r at *
    go_wp2_with fail
    refine bodyPost_ret (v := .tuple #[.agg #[.int .i64 (I : Int), .slice An ln cn, .slice Ag G.length cg, .slice Ao lo co], .int .i64 0]) (by simp [results, Try.results73, go_sem, r0, r1, r2, r3]) rfl ⟨_, rfl, (HG1.out _ _ _ _).1, (HG1.out _ _ _ _).2⟩
  rw [if_neg (by rintro (h | h); exact c0 h; exact c1 h)] at hrp
  have hdd : ((a : Int) == (b : Int) - 1) = false ∨ (((a : Int) == (b : Int) - 1) = true ∧ (((a % 2 : Nat) : Int) == 0) = false) := by
    by_cases e : b = a + 1
    · right
      have h2 : ¬ (a % 2 = 0) := fun h => c1 ((Cir.xor1_pair (by omega)).2 ⟨e, h⟩)
      exact ⟨by simp; omega, by simp; omega⟩
    · left
      simp
      omega
  clear c1
  generalize a % 2 = r at *
  by_cases c2 : a = 1
  · rw [if_pos (.inl c2)] at hrp
    subst hrp
    have d3 : ((a : Int) == 1) = true := by simp; omega
    clear c2 c0
    rcases hdd with d1 | ⟨d1, d2⟩
    all_goals
      go_wp2_with fail
      refine bodyPost_ret (v := .tuple #[.agg #[.int .i64 (I : Int), .slice An ln cn, .slice Ag G.length cg, .slice Ao lo co], .int .i64 (b : Int)]) (by simp [results, Try.results73, go_sem, r0, r1, r2, r3]) rfl ⟨_, rfl, (HG1.out _ _ _ _).1, (HG1.out _ _ _ _).2⟩
  have d3 : ((a : Int) == 1) = false := by simp; omega
  by_cases c3 : a = b
  · rw [if_pos (.inr c3)] at hrp
    subst hrp
    have d4 : ((a : Int) == (b : Int)) = true := by simp; omega
    clear c3 c2 c0
    rcases hdd with d1 | ⟨d1, d2⟩
    all_goals
      go_wp2_with fail
      refine bodyPost_ret (v := .tuple #[.agg #[.int .i64 (I : Int), .slice An ln cn, .slice Ag G.length cg, .slice Ao lo co], .int .i64 (b : Int)]) (by simp [results, Try.results73, go_sem, r0, r1, r2, r3]) rfl ⟨_, rfl, (HG1.out _ _ _ _).1, (HG1.out _ _ _ _).2⟩
  rw [if_neg (by rintro (h | h); exact c2 h; exact c3 h)] at hrp
  have d4 : ((a : Int) == (b : Int)) = false := by simp; omega
  have HKs : Hid (∀ k, (∀ j, j < k → G.reverse[j]? ≠ some (a, b)) → G.reverse[k]? = some (a, b) → Cir.knownG F G a b = some (2 * (F + k))) := Lib.hid fun k h1 h2 => Cir.known_some h1 h2
  have HKn : Hid ((∀ j, j < G.length → G.reverse[j]? ≠ some (a, b)) → Cir.knownG F G a b = none) := Lib.hid fun h => Cir.known_none h
  generalize Cir.knownG F G a b = kn at *
  clear r0 r1 r2 r3 f0 f1 f2 f3 HG1 c0 c2 c3
  rcases hdd with d1 | ⟨d1, d2⟩
  all_goals
    go_wp2_with fail
    refine (HL1.out W1 HB1.out).mono ?_
    rintro e w3 ⟨rfl, hb3⟩
    have HX3 := Lib.hid ((hb3.block gx hgx1).trans HX1.out)
    have HR3 := Lib.hid ((hb3.block gR hgR1).trans HR1.out)
    have HB3 := Lib.hid (HB1.out.trans (hb3.mono HB1.out.size))
    clear hb3 q0 q1 q2 q3
    go_wp2_with fail
    go_loopw [10] (fun i wr => ∃ k : Nat, k ≤ G.length ∧ i = .int .i64 k ∧ Hid (∀ j, j < k → G.reverse[j]? ≠ some (a, b)) ∧ Hid (wr.heap[gx]? = some (.cells #[.int .i64 (I : Int), .slice An ln cn, .slice Ag G.length cg, .slice Ao lo co] 26 (0, 0))) ∧ Hid (wr.heap[gR]? = some (.cells #[.int .i64 0, .slice none 0 0, .slice none 0 0, .slice none 0 0] 26 (0, 0))) ∧ Hid (Below w.heap.size w wr)) (fun i _ => G.length - (intOf i).toNat)
    case atStart => exact ⟨0, Nat.zero_le _, rfl, Lib.hid (fun j h => absurd h (Nat.not_lt_zero _)), HX3, HR3, HB3⟩
    case round =>
      obtain ⟨k, hk, rfl, HN, HX, HR, Hb⟩ := hrel
      clear HX3 HR3 HB3 HX1 HR1 HB1 HL1
      have q0 := blk_cell HX.out 0
      have q1 := blk_cell HX.out 1
      have q2 := blk_cell HX.out 2
      have q3 := blk_cell HX.out 3
      simp at q0 q1 q2 q3
      by_cases hlt : k < G.length
      · obtain ⟨g, hgk, hcells⟩ := HGk.out k hlt
        obtain ⟨bb, oo, hA, y1, y2⟩ := hcells wr Hb.out
        subst hA
        have Hgk := Lib.hid hgk
        clear hcells hgk
        obtain ⟨g1, g2⟩ := g
        simp only at y1 y2
        by_cases e1 : g1 = a
        · have z1 : ((g1 : Int) == (a : Int)) = true := by simp; omega
          by_cases e2 : g2 = b
          · have z2 : ((g2 : Int) == (b : Int)) = true := by simp; omega
            have hks := HKs.out k HN.out (by rw [Hgk.out, e1, e2])
            subst hks
            simp only at hrp
            subst hrp
            have r0 := blk_cell HR.out 0
            have r1 := blk_cell HR.out 1
            have r2 := blk_cell HR.out 2
            have r3 := blk_cell HR.out 3
            have f0 := blk_free HR.out 0
            have f1 := blk_free HR.out 1
            have f2 := blk_free HR.out 2
            have f3 := blk_free HR.out 3
            simp at r0 r1 r2 r3
            have hw1 : IntKind.i64.wrap ((F : Int) + (k : Int)) = (F : Int) + k := IntWalk.i64_in _ (by omega)
            have hw2 : IntKind.i64.wrap (2 * ((F : Int) + (k : Int))) = ((2 * (F + k) : Nat) : Int) := by rw [IntWalk.i64_in _ (by omega)]; omega
            generalize 2 * (F + k) = res at *
            clear HKn HKs e1 e2
            go_wp2_with fail
            refine bodyPost_ret (v := .tuple #[.agg #[.int .i64 (I : Int), .slice An ln cn, .slice (some ⟨bb, oo, none⟩) G.length cg, .slice Ao lo co], .int .i64 (res : Int)]) (by simp [results, Try.results73, go_sem, r0, r1, r2, r3]) rfl ⟨_, rfl, ?_, ?_⟩
            · have ow := own_below HG.out Hb.out
              have nt := own_ne_tag ow HR.out (by decide)
              exact own_setN (own_setN (own_setN (own_setN ow nt) nt) nt) nt
            · exact (((Hb.out.setCell hwR _).setCell hwR _).setCell hwR _).setCell hwR _
          · have z2 : ((g2 : Int) == (b : Int)) = false := by simp; omega
            go_wp2_with fail
            go_roundw
            case rel => exact ⟨k + 1, by omega, by go_num, Lib.hid (fun j hj => by
              by_cases e : j = k
              · subst e; rw [Hgk.out]; intro h; have := Option.some.inj h; injection this; omega
              · exact HN.out j (by omega)), HX, HR, Hb⟩
            case measure => simp [intOf]; omega
        · have z1 : ((g1 : Int) == (a : Int)) = false := by simp; omega
          go_wp2_with fail
          go_roundw
          case rel => exact ⟨k + 1, by omega, by go_num, Lib.hid (fun j hj => by
            by_cases e : j = k
            · subst e; rw [Hgk.out]; intro h; have := Option.some.inj h; injection this; omega
            · exact HN.out j (by omega)), HX, HR, Hb⟩
          case measure => simp [intOf]; omega
      · obtain rfl : k = G.length := by omega
        have hkn := HKn.out HN.out
        subst hkn
        simp only at hrp
        subst hrp
        have hb5 := bel_new wr (.cells #[] 72)
        have hz5 : (wr.alloc (.cells #[] 72)).heap.size = wr.heap.size + 1 := by simp
        have HE := Lib.hid (World.ownsRow_lit (base := wr.heap.size) (e := 72) (size := 2) wr #[] 0 (Nat.le_refl _) (by unfold maxLen; omega) rfl)
        have HGr := Lib.hid (Row.below (Row.of_own (own_below HG.out Hb.out)) hb5)
        have hgxz := blk_ltB HX.out
        have hgRz := blk_ltB HR.out
        have HX5 := Lib.hid ((hb5.block gx hgxz).trans HX.out)
        have HR5 := Lib.hid ((hb5.block gR hgRz).trans HR.out)
        have Hb5 := Lib.hid (Hb.out.trans (hb5.mono Hb.out.size))
        have hwr := Hb.out.size
        have q5 := blk_cell HX5.out 2
        simp at q5
        have HCu : Hid (∀ u ∈ cubes (Cir.gatesOf G), u.oneCell' = true) := Lib.hid (fun u hu => by
          unfold cubes at hu
          obtain ⟨x, -, hx⟩ := List.mem_flatMap.1 hu
          simp at hx
          rcases hx with rfl | rfl <;> rfl)
        have HSn : Hid (cubes (Cir.gatesOf ((a, b) :: G)) = cubes (Cir.gatesOf G) ++ [.int .i64 (a : Int), .int .i64 (b : Int)]) := Lib.hid (by
          rw [Cir.gatesOf_cons]
          unfold cubes
          rw [List.flatMap_append]
          rfl)
        generalize hcs : cubes (Cir.gatesOf G) = cs at *
        obtain ⟨B, hB⟩ : ∃ B, B = wr.heap.size := ⟨_, rfl⟩
        have hxB : gx < B := by omega
        have hRB : gR < B := by omega
        have HEB : Hid ((wr.alloc (.cells #[] 72)).ownsRow B 72 2 (.slice (some ⟨wr.heap.size, 0, none⟩) 0 0) 0 []) := Lib.hid (by rw [hB]; exact HE.out)
        have hB5 : B ≤ (wr.alloc (.cells #[] 72)).heap.size := by omega
        clear hb5 hcs HE HGk HKs HKn HX HR HN q0 q1 q3 hlt hk
        go_upto_region 16 with (first
          | (at_builtin; refine append_gatesO rfl (.tmp 72) (.tmp 74) rfl B (.slice (some ⟨wr.heap.size, 0, none⟩) 0 0) 0 [] rfl HEB.out (.slice Ag G.length cg) G.length cs rfl HGr.out HCu.out (by omega) hB5 ?_; intro v6 w6 hown6 hg6 hat6; simp only [Nat.zero_add, List.nil_append] at hown6; obtain ⟨A6, c6, hv6⟩ := slice_of_own hown6; subst hv6; have O6 : Only (fun q => B ≤ q) _ w6 := Only.grown hg6 (fun k hk => (HEB.out.lt k hk).1); have HX6 := Lib.hid ((O6.block gx (by omega) (by omega)).trans HX5.out); have HR6 := Lib.hid ((O6.block gR (by omega) (by omega)).trans HR5.out); have Hb6 := Lib.hid (Only.below Hb5.out O6 (by omega) (fun q hq => by omega)); have hz6 := O6.size; have hbl := bel_new w6 (.cells #[.int .i64 (a : Int), .int .i64 (b : Int)] 72); have hzl : (w6.alloc (.cells #[.int .i64 (a : Int), .int .i64 (b : Int)] 72)).heap.size = w6.heap.size + 1 := (by simp); have Hlit := Lib.hid (Row.of_own (World.ownsRow_lit (base := w6.heap.size) (e := 72) (size := 2) w6 #[.int .i64 (a : Int), .int .i64 (b : Int)] 1 (Nat.le_refl _) (by unfold maxLen; omega) rfl)); have HO6 := Lib.hid (own_below hown6 hbl); have HX7 := Lib.hid ((hbl.block gx (by omega)).trans HX6.out); have HR7 := Lib.hid ((hbl.block gR (by omega)).trans HR6.out); have Hb7 := Lib.hid (Hb6.out.trans (hbl.mono Hb6.out.size)); clear hown6 hg6 hat6 O6 hbl)
          | (at_builtin; refine append_gatesO rfl (.tmp 75) (.tmp 79) rfl B (.slice A6 G.length c6) G.length cs rfl HO6.out _ 1 [.int .i64 (a : Int), .int .i64 (b : Int)] rfl Hlit.out (by simp [Value.oneCell']) (by omega) (by omega) ?_; intro v8 w8 hown8 hg8 hat8; obtain ⟨A8, c8, hv8⟩ := slice_of_own hown8; subst hv8; have O8 : Only (fun q => B ≤ q) _ w8 := Only.grown hg8 (fun k hk => (HO6.out.lt k hk).1); have hX8 := (O8.block gx (by omega) (by omega)).trans HX7.out; have HR8 := Lib.hid ((O8.block gR (by omega) (by omega)).trans HR7.out); have Hb8 := Lib.hid (Only.below Hb7.out O8 (by omega) (fun q hq => by omega)); have q8 := blk_cell hX8 2; have f8 := blk_free hX8 2; have HX8 := Lib.hid hX8; have Hown8 := Lib.hid hown8; have hz8 := O8.size; clear hown8 hg8 hat8 O8 hX8))
        have hX9 := heap_setCell_same w8 gx 2 _ _ (.slice A8 (G.length + 1) c8) HX8.out
        simp at hX9
        have hR9 := (heap_setCell_other' w8 gx 2 (.slice A8 (G.length + 1) c8) gR (fun e => hxR e.symm)).trans HR8.out
        have HB9 := Lib.hid (Hb8.out.setCell (p := ⟨gx, 2, none⟩) hwx (.slice A8 (G.length + 1) c8))
        have HO9 := Lib.hid (own_setB (i := 2) (u := .slice A8 (G.length + 1) c8) Hown8.out hxB)
        clear q8 f8 q2 HX8 HR8 Hb8 Hown8 HO6 HX7 HR7 Hb7 HX6 HR6 Hb6 Hlit
        generalize w8.setCell ⟨gx, 2, none⟩ (.slice A8 (G.length + 1) c8) = W9 at *
        have q0 := blk_cell hX9 0
        have q1 := blk_cell hX9 1
        have q2 := blk_cell hX9 2
        have q3 := blk_cell hX9 3
        have r0 := blk_cell hR9 0
        have r1 := blk_cell hR9 1
        have r2 := blk_cell hR9 2
        have r3 := blk_cell hR9 3
        have f0 := blk_free hR9 0
        have f1 := blk_free hR9 1
        have f2 := blk_free hR9 2
        have f3 := blk_free hR9 3
        simp at q0 q1 q2 q3 r0 r1 r2 r3
        have hw1 : IntKind.i64.wrap ((F : Int) + ((G.length : Int) + 1)) = (F : Int) + (G.length + 1) := IntWalk.i64_in _ (by omega)
        have hw2 : IntKind.i64.wrap ((F : Int) + ((G.length : Int) + 1) - 1) = (F : Int) + G.length := by rw [IntWalk.i64_in _ (by omega)]; omega
        have hw3 : IntKind.i64.wrap (2 * ((F : Int) + (G.length : Int))) = ((2 * (F + G.length) : Nat) : Int) := by rw [IntWalk.i64_in _ (by omega)]; omega
        have HR9 := Lib.hid hR9
        clear hX9 hR9
        go_region
        all_goals
          go_wp2_with fail
          refine bodyPost_ret (v := .tuple #[.agg #[.int .i64 (I : Int), .slice An ln cn, .slice A8 (G.length + 1) c8, .slice Ao lo co], .int .i64 ((2 * (F + G.length) : Nat) : Int)]) (by simp [results, Try.results73, go_sem, r0, r1, r2, r3, hxR]) rfl ⟨_, rfl, ?_, ?_⟩
          · have nt := own_ne_tag HO9.out HR9.out (by decide)
            show World.ownsRow _ 0 _ 2 _ (G.length + 1) (cubes (Cir.gatesOf ((a, b) :: G)))
            rw [HSn.out]
            exact own_mono (own_setN (own_setN (own_setN (own_setN HO9.out nt) nt) nt) nt) (Nat.zero_le _)
          · exact ((((HB9.out.setCell hwR _).setCell hwR _).setCell hwR _).setCell hwR _).drew

theorem l3And_sw (I a b F : Nat) (An Ao : Option Addr) (cn co ln lo : Nat) (nx os : List Int) (vg : Value) (G : List (Nat × Nat)) (w : World) (hF : F = 1 + I + ln) (hI : I ≤ 100) (hln : ln ≤ 100) (hG : G.length ≤ 100)
    (hn : Row w 1 (.slice An ln cn) ln (ints nx)) (hg : w.ownsRow 0 72 2 vg G.length (cubes (Cir.gatesOf G))) (ho : Row w 1 (.slice Ao lo co) lo (ints os)) (hab : a < b) (hb : b < 2 * (F + G.length)) :
    Calls Try.prog 73 #[.agg #[.int .i64 (I : Int), .slice An ln cn, vg, .slice Ao lo co], .int .i64 (b : Int), .int .i64 (a : Int)] w (AndGive I (.slice An ln cn) (.slice Ao lo co) (Cir.andS F G a b) w) := by
  obtain ⟨Ag, cg, hvg⟩ := slice_of_own hg
  subst hvg
  have dg : decide ((b : Int) > (a : Int)) = true := decide_eq_true (by omega)
  have hb0 := bel_new w (.cells #[.int .i64 (I : Int), .slice An ln cn, .slice Ag G.length cg, .slice Ao lo co] 26)
  have hX0 := heap_alloc_new w (.cells #[.int .i64 (I : Int), .slice An ln cn, .slice Ag G.length cg, .slice Ao lo co] 26)
  have hz0 : (w.alloc (.cells #[.int .i64 (I : Int), .slice An ln cn, .slice Ag G.length cg, .slice Ao lo co] 26)).heap.size = w.heap.size + 1 := by simp
  obtain ⟨W0, hW0⟩ : ∃ W0, w.alloc (.cells #[.int .i64 (I : Int), .slice An ln cn, .slice Ag G.length cg, .slice Ao lo co] 26) = W0 := ⟨_, rfl⟩
  rw [hW0] at hb0 hX0 hz0
  have hR0 := heap_alloc_new W0 (.cells #[.int .i64 0, .slice none 0 0, .slice none 0 0, .slice none 0 0] 26)
  have hb1 := bel_new W0 (.cells #[.int .i64 0, .slice none 0 0, .slice none 0 0, .slice none 0 0] 26)
  have hX1 := (hb1.block w.heap.size (by omega)).trans hX0
  have hB1 := hb0.trans (hb1.mono (by omega))
  rw [hz0] at hR0
  have HL1 : Hid (∀ w', Below w.heap.size w w' → Calls Try.prog 44 #[.agg #[.int .i64 (I : Int), .slice An ln cn, .slice Ag G.length cg, .slice Ao lo co]] w' fun e w'' => e = .returned (.int .i64 (F : Int)) ∧ Below w'.heap.size w' w'') := Lib.hid fun w' hb => by
    have hlx : ln = nx.length := by have := hn.len; rw [ints_length] at this; omega
    have hlo : lo = os.length := by have := ho.len; rw [ints_length] at this; omega
    have hgg : G.length = (Cir.gatesOf G).length := (Cir.gatesOf_length G).symm
    have := l1First_any (.agg #[.int .i64 (I : Int), .slice An ln cn, .slice Ag G.length cg, .slice Ao lo co]) ⟨I, nx, Cir.gatesOf G, os⟩ w' ⟨_, _, _, rfl, by unfold IntsAt; show Row w' 1 _ nx.length _; rw [← hlx]; exact Row.below hn hb, by unfold CubesAt; show Row w' 2 _ (Cir.gatesOf G).length _; rw [← hgg]; exact Row.below (Row.of_own hg) hb, by unfold IntsAt; show Row w' 1 _ os.length _; rw [← hlo]; exact Row.below ho hb⟩ (by show (0 : Int) ≤ I; omega) (by show (I : Int) ≤ 100; omega) (by show nx.length ≤ 100; omega)
    have e : Cir.first ⟨I, nx, Cir.gatesOf G, os⟩ = (F : Int) := by unfold Cir.first; simp only; omega
    rwa [e] at this
  have HGk : Hid (∀ k, k < G.length → ∃ g, G.reverse[k]? = some g ∧ ∀ w', Below w.heap.size w w' → ∃ b o, Ag = some ⟨b, o, none⟩ ∧ w'.cell? ⟨b, o + k * 2, none⟩ = some (.int .i64 (g.1 : Int)) ∧ w'.cell? ⟨b, o + k * 2 + 1, none⟩ = some (.int .i64 (g.2 : Int))) := Lib.hid fun k hk => by
    obtain ⟨g, hgk⟩ : ∃ g, G.reverse[k]? = some g := ⟨_, List.getElem?_eq_getElem (by simpa using hk)⟩
    refine ⟨g, hgk, fun w' hb => ?_⟩
    obtain ⟨b, o, x, hA, hbl, hx, h1, h2⟩ := cubes_open (Row.of_own hg) hb (Cir.gatesOf_length G).symm (i := k) (by rw [Cir.gatesOf_length]; exact hk)
    have e : x = ((g.1 : Int), (g.2 : Int)) := by
      have h3 := hx.out
      rw [Cir.gatesOf_get, hgk] at h3
      exact (Option.some.inj h3).symm
    subst e
    exact ⟨b, o, hA, h1, h2⟩
  have HG := Lib.hid hg
  have hm2 := tmod_two a
  have hwb : 0 < b → IntKind.i64.wrap ((b : Int) - 1) = (b : Int) - 1 := fun _ => IntWalk.i64_in _ (by omega)
  have hCg : cg ≤ maxLen := by obtain ⟨A, c, e, h1, h2⟩ := Row.shape (Row.of_own hg); injection e with e1 e2 e3; rw [e3]; exact h2
  have hFb : F ≤ 300 := by omega
  obtain ⟨rp, hrp⟩ : ∃ rp, Cir.andS F G a b = rp := ⟨_, rfl⟩
  rw [hrp]
  clear hn hg ho hb0 hb1 hX0 hF
  go_enter Try.func73, Try.ntmps73
  go_upto_region 5 with fail
  generalize W0.alloc (.cells #[.int .i64 0, .slice none 0 0, .slice none 0 0, .slice none 0 0] 26) = W1 at *
  obtain ⟨gx, hgx⟩ : ∃ gx, gx = w.heap.size := ⟨_, rfl⟩
  obtain ⟨gR, hgR⟩ : ∃ gR, gR = w.heap.size + 1 := ⟨_, rfl⟩
  try rw [hz0]
  rw [← hgR] at hR0
  rw [← hgx] at hX1
  rw [← hgR, ← hgx]
  have hwR : w.heap.size ≤ gR := by omega
  have hwx : w.heap.size ≤ gx := by omega
  have hxR : gx ≠ gR := by omega
  have hgx1 := blk_ltB hX1
  have hgR1 := blk_ltB hR0
  have HX1 := Lib.hid hX1
  have HR1 := Lib.hid hR0
  have HB1 := Lib.hid hB1
  have q0 := blk_cell hX1 0
  have q1 := blk_cell hX1 1
  have q2 := blk_cell hX1 2
  have q3 := blk_cell hX1 3
  have r0 := blk_cell hR0 0
  have r1 := blk_cell hR0 1
  have r2 := blk_cell hR0 2
  have r3 := blk_cell hR0 3
  have f0 := blk_free hR0 0
  have f1 := blk_free hR0 1
  have f2 := blk_free hR0 2
  have f3 := blk_free hR0 3
  simp at q0 q1 q2 q3 r0 r1 r2 r3
  have HG1 : Hid (∀ u0 u1 u2 u3 : Value, ((((W1.setCell ⟨gR, 0, none⟩ u0).setCell ⟨gR, 1, none⟩ u1).setCell ⟨gR, 2, none⟩ u2).setCell ⟨gR, 3, none⟩ u3).ownsRow 0 72 2 (.slice Ag G.length cg) G.length (cubes (Cir.gatesOf G)) ∧ Below w.heap.size w ((((W1.setCell ⟨gR, 0, none⟩ u0).setCell ⟨gR, 1, none⟩ u1).setCell ⟨gR, 2, none⟩ u2).setCell ⟨gR, 3, none⟩ u3)) := Lib.hid fun u0 u1 u2 u3 => by
    have ow := own_below HG.out HB1.out
    have nt := own_ne_tag ow HR1.out (by decide)
    exact ⟨own_setN (own_setN (own_setN (own_setN ow nt) nt) nt) nt, (((HB1.out.setCell hwR _).setCell hwR _).setCell hwR _).setCell hwR _⟩
  clear hW0 hz0 hgx hgR hX1 hR0 hB1 dg
  unfold Cir.andS at hrp
  by_cases c0 : a = 0
  · rw [if_pos (.inl c0)] at hrp
    subst hrp
    have d0 : ((a : Int) == 0) = true := by simp; omega
    clear c0 hm2 hwb
    go_wp2_with fail
    refine bodyPost_ret (v := .tuple #[.agg #[.int .i64 (I : Int), .slice An ln cn, .slice Ag G.length cg, .slice Ao lo co], .int .i64 0]) (by simp [results, Try.results73, go_sem, r0, r1, r2, r3]) rfl ⟨_, rfl, (HG1.out _ _ _ _).1, (HG1.out _ _ _ _).2⟩
  have d0 : ((a : Int) == 0) = false := by simp; omega
  have hwb' := hwb (by omega)
  clear hwb
  by_cases c1 : a = b ^^^ 1
  · rw [if_pos (.inr c1)] at hrp
    subst hrp
    obtain ⟨e1, e2⟩ := (Cir.xor1_pair (by omega)).1 c1
    have d1 : ((a : Int) == (b : Int) - 1) = true := by simp; omega
    have d2 : (((a % 2 : Nat) : Int) == 0) = true := by rw [e2]; rfl
    clear c1 e1 e2
    generalize a % 2 = r at *
    go_wp2_with fail
    refine bodyPost_ret (v := .tuple #[.agg #[.int .i64 (I : Int), .slice An ln cn, .slice Ag G.length cg, .slice Ao lo co], .int .i64 0]) (by simp [results, Try.results73, go_sem, r0, r1, r2, r3]) rfl ⟨_, rfl, (HG1.out _ _ _ _).1, (HG1.out _ _ _ _).2⟩
  rw [if_neg (by rintro (h | h); exact c0 h; exact c1 h)] at hrp
  have hdd : ((a : Int) == (b : Int) - 1) = false ∨ (((a : Int) == (b : Int) - 1) = true ∧ (((a % 2 : Nat) : Int) == 0) = false) := by
    by_cases e : b = a + 1
    · right
      have h2 : ¬ (a % 2 = 0) := fun h => c1 ((Cir.xor1_pair (by omega)).2 ⟨e, h⟩)
      exact ⟨by simp; omega, by simp; omega⟩
    · left
      simp
      omega
  clear c1
  generalize a % 2 = r at *
  by_cases c2 : a = 1
  · rw [if_pos (.inl c2)] at hrp
    subst hrp
    have d3 : ((a : Int) == 1) = true := by simp; omega
    clear c2 c0
    rcases hdd with d1 | ⟨d1, d2⟩
    all_goals
      go_wp2_with fail
      refine bodyPost_ret (v := .tuple #[.agg #[.int .i64 (I : Int), .slice An ln cn, .slice Ag G.length cg, .slice Ao lo co], .int .i64 (b : Int)]) (by simp [results, Try.results73, go_sem, r0, r1, r2, r3]) rfl ⟨_, rfl, (HG1.out _ _ _ _).1, (HG1.out _ _ _ _).2⟩
  have d3 : ((a : Int) == 1) = false := by simp; omega
  by_cases c3 : a = b
  · rw [if_pos (.inr c3)] at hrp
    subst hrp
    have d4 : ((a : Int) == (b : Int)) = true := by simp; omega
    clear c3 c2 c0
    rcases hdd with d1 | ⟨d1, d2⟩
    all_goals
      go_wp2_with fail
      refine bodyPost_ret (v := .tuple #[.agg #[.int .i64 (I : Int), .slice An ln cn, .slice Ag G.length cg, .slice Ao lo co], .int .i64 (b : Int)]) (by simp [results, Try.results73, go_sem, r0, r1, r2, r3]) rfl ⟨_, rfl, (HG1.out _ _ _ _).1, (HG1.out _ _ _ _).2⟩
  rw [if_neg (by rintro (h | h); exact c2 h; exact c3 h)] at hrp
  have d4 : ((a : Int) == (b : Int)) = false := by simp; omega
  have HKs : Hid (∀ k, (∀ j, j < k → G.reverse[j]? ≠ some (a, b)) → G.reverse[k]? = some (a, b) → Cir.knownG F G a b = some (2 * (F + k))) := Lib.hid fun k h1 h2 => Cir.known_some h1 h2
  have HKn : Hid ((∀ j, j < G.length → G.reverse[j]? ≠ some (a, b)) → Cir.knownG F G a b = none) := Lib.hid fun h => Cir.known_none h
  generalize Cir.knownG F G a b = kn at *
  clear r0 r1 r2 r3 f0 f1 f2 f3 HG1 c0 c2 c3
  rcases hdd with d1 | ⟨d1, d2⟩
  all_goals
    go_wp2_with fail
    refine (HL1.out W1 HB1.out).mono ?_
    rintro e w3 ⟨rfl, hb3⟩
    have HX3 := Lib.hid ((hb3.block gx hgx1).trans HX1.out)
    have HR3 := Lib.hid ((hb3.block gR hgR1).trans HR1.out)
    have HB3 := Lib.hid (HB1.out.trans (hb3.mono HB1.out.size))
    clear hb3 q0 q1 q2 q3
    go_wp2_with fail
    go_loopw [10] (fun i wr => ∃ k : Nat, k ≤ G.length ∧ i = .int .i64 k ∧ Hid (∀ j, j < k → G.reverse[j]? ≠ some (a, b)) ∧ Hid (wr.heap[gx]? = some (.cells #[.int .i64 (I : Int), .slice An ln cn, .slice Ag G.length cg, .slice Ao lo co] 26 (0, 0))) ∧ Hid (wr.heap[gR]? = some (.cells #[.int .i64 0, .slice none 0 0, .slice none 0 0, .slice none 0 0] 26 (0, 0))) ∧ Hid (Below w.heap.size w wr)) (fun i _ => G.length - (intOf i).toNat)
    case atStart => exact ⟨0, Nat.zero_le _, rfl, Lib.hid (fun j h => absurd h (Nat.not_lt_zero _)), HX3, HR3, HB3⟩
    case round =>
      obtain ⟨k, hk, rfl, HN, HX, HR, Hb⟩ := hrel
      clear HX3 HR3 HB3 HX1 HR1 HB1 HL1
      have q0 := blk_cell HX.out 0
      have q1 := blk_cell HX.out 1
      have q2 := blk_cell HX.out 2
      have q3 := blk_cell HX.out 3
      simp at q0 q1 q2 q3
      by_cases hlt : k < G.length
      · obtain ⟨g, hgk, hcells⟩ := HGk.out k hlt
        obtain ⟨bb, oo, hA, y1, y2⟩ := hcells wr Hb.out
        subst hA
        have Hgk := Lib.hid hgk
        clear hcells hgk
        obtain ⟨g1, g2⟩ := g
        simp only at y1 y2
        by_cases e1 : g1 = a
        · have z1 : ((g1 : Int) == (a : Int)) = true := by simp; omega
          by_cases e2 : g2 = b
          · have z2 : ((g2 : Int) == (b : Int)) = true := by simp; omega
            have hks := HKs.out k HN.out (by rw [Hgk.out, e1, e2])
            subst hks
            simp only at hrp
            subst hrp
            have r0 := blk_cell HR.out 0
            have r1 := blk_cell HR.out 1
            have r2 := blk_cell HR.out 2
            have r3 := blk_cell HR.out 3
            have f0 := blk_free HR.out 0
            have f1 := blk_free HR.out 1
            have f2 := blk_free HR.out 2
            have f3 := blk_free HR.out 3
            simp at r0 r1 r2 r3
            have hw1 : IntKind.i64.wrap ((F : Int) + (k : Int)) = (F : Int) + k := IntWalk.i64_in _ (by omega)
            have hw2 : IntKind.i64.wrap (2 * ((F : Int) + (k : Int))) = ((2 * (F + k) : Nat) : Int) := by rw [IntWalk.i64_in _ (by omega)]; omega
            generalize 2 * (F + k) = res at *
            clear HKn HKs e1 e2
            go_wp2_with fail
            refine bodyPost_ret (v := .tuple #[.agg #[.int .i64 (I : Int), .slice An ln cn, .slice (some ⟨bb, oo, none⟩) G.length cg, .slice Ao lo co], .int .i64 (res : Int)]) (by simp [results, Try.results73, go_sem, r0, r1, r2, r3]) rfl ⟨_, rfl, ?_, ?_⟩
            · have ow := own_below HG.out Hb.out
              have nt := own_ne_tag ow HR.out (by decide)
              exact own_setN (own_setN (own_setN (own_setN ow nt) nt) nt) nt
            · exact (((Hb.out.setCell hwR _).setCell hwR _).setCell hwR _).setCell hwR _
          · have z2 : ((g2 : Int) == (b : Int)) = false := by simp; omega
            go_wp2_with fail
            go_roundw
            case rel => exact ⟨k + 1, by omega, by go_num, Lib.hid (fun j hj => by
              by_cases e : j = k
              · subst e; rw [Hgk.out]; intro h; have := Option.some.inj h; injection this; omega
              · exact HN.out j (by omega)), HX, HR, Hb⟩
            case measure => simp [intOf]; omega
        · have z1 : ((g1 : Int) == (a : Int)) = false := by simp; omega
          go_wp2_with fail
          go_roundw
          case rel => exact ⟨k + 1, by omega, by go_num, Lib.hid (fun j hj => by
            by_cases e : j = k
            · subst e; rw [Hgk.out]; intro h; have := Option.some.inj h; injection this; omega
            · exact HN.out j (by omega)), HX, HR, Hb⟩
          case measure => simp [intOf]; omega
      · obtain rfl : k = G.length := by omega
        have hkn := HKn.out HN.out
        subst hkn
        simp only at hrp
        subst hrp
        have hb5 := bel_new wr (.cells #[] 72)
        have hz5 : (wr.alloc (.cells #[] 72)).heap.size = wr.heap.size + 1 := by simp
        have HE := Lib.hid (World.ownsRow_lit (base := wr.heap.size) (e := 72) (size := 2) wr #[] 0 (Nat.le_refl _) (by unfold maxLen; omega) rfl)
        have HGr := Lib.hid (Row.below (Row.of_own (own_below HG.out Hb.out)) hb5)
        have hgxz := blk_ltB HX.out
        have hgRz := blk_ltB HR.out
        have HX5 := Lib.hid ((hb5.block gx hgxz).trans HX.out)
        have HR5 := Lib.hid ((hb5.block gR hgRz).trans HR.out)
        have Hb5 := Lib.hid (Hb.out.trans (hb5.mono Hb.out.size))
        have hwr := Hb.out.size
        have q5 := blk_cell HX5.out 2
        simp at q5
        have HCu : Hid (∀ u ∈ cubes (Cir.gatesOf G), u.oneCell' = true) := Lib.hid (fun u hu => by
          unfold cubes at hu
          obtain ⟨x, -, hx⟩ := List.mem_flatMap.1 hu
          simp at hx
          rcases hx with rfl | rfl <;> rfl)
        have HSn : Hid (cubes (Cir.gatesOf ((a, b) :: G)) = cubes (Cir.gatesOf G) ++ [.int .i64 (a : Int), .int .i64 (b : Int)]) := Lib.hid (by
          rw [Cir.gatesOf_cons]
          unfold cubes
          rw [List.flatMap_append]
          rfl)
        generalize hcs : cubes (Cir.gatesOf G) = cs at *
        obtain ⟨B, hB⟩ : ∃ B, B = wr.heap.size := ⟨_, rfl⟩
        have hxB : gx < B := by omega
        have hRB : gR < B := by omega
        have HEB : Hid ((wr.alloc (.cells #[] 72)).ownsRow B 72 2 (.slice (some ⟨wr.heap.size, 0, none⟩) 0 0) 0 []) := Lib.hid (by rw [hB]; exact HE.out)
        have hB5 : B ≤ (wr.alloc (.cells #[] 72)).heap.size := by omega
        clear hb5 hcs HE HGk HKs HKn HX HR HN q0 q1 q3 hlt hk
        go_upto_region 16 with (first
          | (at_builtin; refine append_gatesO rfl (.tmp 72) (.tmp 74) rfl B (.slice (some ⟨wr.heap.size, 0, none⟩) 0 0) 0 [] rfl HEB.out (.slice Ag G.length cg) G.length cs rfl HGr.out HCu.out (by omega) hB5 ?_; intro v6 w6 hown6 hg6 hat6; simp only [Nat.zero_add, List.nil_append] at hown6; obtain ⟨A6, c6, hv6⟩ := slice_of_own hown6; subst hv6; have O6 : Only (fun q => B ≤ q) _ w6 := Only.grown hg6 (fun k hk => (HEB.out.lt k hk).1); have HX6 := Lib.hid ((O6.block gx (by omega) (by omega)).trans HX5.out); have HR6 := Lib.hid ((O6.block gR (by omega) (by omega)).trans HR5.out); have Hb6 := Lib.hid (Only.below Hb5.out O6 (by omega) (fun q hq => by omega)); have hz6 := O6.size; have hbl := bel_new w6 (.cells #[.int .i64 (a : Int), .int .i64 (b : Int)] 72); have hzl : (w6.alloc (.cells #[.int .i64 (a : Int), .int .i64 (b : Int)] 72)).heap.size = w6.heap.size + 1 := (by simp); have Hlit := Lib.hid (Row.of_own (World.ownsRow_lit (base := w6.heap.size) (e := 72) (size := 2) w6 #[.int .i64 (a : Int), .int .i64 (b : Int)] 1 (Nat.le_refl _) (by unfold maxLen; omega) rfl)); have HO6 := Lib.hid (own_below hown6 hbl); have HX7 := Lib.hid ((hbl.block gx (by omega)).trans HX6.out); have HR7 := Lib.hid ((hbl.block gR (by omega)).trans HR6.out); have Hb7 := Lib.hid (Hb6.out.trans (hbl.mono Hb6.out.size)); clear hown6 hg6 hat6 O6 hbl)
          | (at_builtin; refine append_gatesO rfl (.tmp 75) (.tmp 79) rfl B (.slice A6 G.length c6) G.length cs rfl HO6.out _ 1 [.int .i64 (a : Int), .int .i64 (b : Int)] rfl Hlit.out (by simp [Value.oneCell']) (by omega) (by omega) ?_; intro v8 w8 hown8 hg8 hat8; obtain ⟨A8, c8, hv8⟩ := slice_of_own hown8; subst hv8; have O8 : Only (fun q => B ≤ q) _ w8 := Only.grown hg8 (fun k hk => (HO6.out.lt k hk).1); have hX8 := (O8.block gx (by omega) (by omega)).trans HX7.out; have HR8 := Lib.hid ((O8.block gR (by omega) (by omega)).trans HR7.out); have Hb8 := Lib.hid (Only.below Hb7.out O8 (by omega) (fun q hq => by omega)); have q8 := blk_cell hX8 2; have f8 := blk_free hX8 2; have HX8 := Lib.hid hX8; have Hown8 := Lib.hid hown8; have hz8 := O8.size; clear hown8 hg8 hat8 O8 hX8))
        have hX9 := heap_setCell_same w8 gx 2 _ _ (.slice A8 (G.length + 1) c8) HX8.out
        simp at hX9
        have hR9 := (heap_setCell_other' w8 gx 2 (.slice A8 (G.length + 1) c8) gR (fun e => hxR e.symm)).trans HR8.out
        have HB9 := Lib.hid (Hb8.out.setCell (p := ⟨gx, 2, none⟩) hwx (.slice A8 (G.length + 1) c8))
        have HO9 := Lib.hid (own_setB (i := 2) (u := .slice A8 (G.length + 1) c8) Hown8.out hxB)
        clear q8 f8 q2 HX8 HR8 Hb8 Hown8 HO6 HX7 HR7 Hb7 HX6 HR6 Hb6 Hlit
        generalize w8.setCell ⟨gx, 2, none⟩ (.slice A8 (G.length + 1) c8) = W9 at *
        have q0 := blk_cell hX9 0
        have q1 := blk_cell hX9 1
        have q2 := blk_cell hX9 2
        have q3 := blk_cell hX9 3
        have r0 := blk_cell hR9 0
        have r1 := blk_cell hR9 1
        have r2 := blk_cell hR9 2
        have r3 := blk_cell hR9 3
        have f0 := blk_free hR9 0
        have f1 := blk_free hR9 1
        have f2 := blk_free hR9 2
        have f3 := blk_free hR9 3
        simp at q0 q1 q2 q3 r0 r1 r2 r3
        have hw1 : IntKind.i64.wrap ((F : Int) + ((G.length : Int) + 1)) = (F : Int) + (G.length + 1) := IntWalk.i64_in _ (by omega)
        have hw2 : IntKind.i64.wrap ((F : Int) + ((G.length : Int) + 1) - 1) = (F : Int) + G.length := by rw [IntWalk.i64_in _ (by omega)]; omega
        have hw3 : IntKind.i64.wrap (2 * ((F : Int) + (G.length : Int))) = ((2 * (F + G.length) : Nat) : Int) := by rw [IntWalk.i64_in _ (by omega)]; omega
        have HR9 := Lib.hid hR9
        clear hX9 hR9
        go_region
        all_goals
          go_wp2_with fail
          refine bodyPost_ret (v := .tuple #[.agg #[.int .i64 (I : Int), .slice An ln cn, .slice A8 (G.length + 1) c8, .slice Ao lo co], .int .i64 ((2 * (F + G.length) : Nat) : Int)]) (by simp [results, Try.results73, go_sem, r0, r1, r2, r3, hxR]) rfl ⟨_, rfl, ?_, ?_⟩
          · have nt := own_ne_tag HO9.out HR9.out (by decide)
            show World.ownsRow _ 0 _ 2 _ (G.length + 1) (cubes (Cir.gatesOf ((a, b) :: G)))
            rw [HSn.out]
            exact own_mono (own_setN (own_setN (own_setN (own_setN HO9.out nt) nt) nt) nt) (Nat.zero_le _)
          · exact ((((HB9.out.setCell hwR _).setCell hwR _).setCell hwR _).setCell hwR _).drew
theorem l3And_any (I x y F : Nat) (An Ao : Option Addr) (cn co ln lo : Nat) (nx os : List Int) (vg : Value) (G : List (Nat × Nat)) (w : World) (hF : F = 1 + I + ln) (hI : I ≤ 100) (hln : ln ≤ 100) (hG : G.length ≤ 100)
    (hn : Row w 1 (.slice An ln cn) ln (ints nx)) (hg : w.ownsRow 0 72 2 vg G.length (cubes (Cir.gatesOf G))) (ho : Row w 1 (.slice Ao lo co) lo (ints os)) (hx : x < 2 * (F + G.length)) (hy : y < 2 * (F + G.length)) :
    Calls Try.prog 73 #[.agg #[.int .i64 (I : Int), .slice An ln cn, vg, .slice Ao lo co], .int .i64 (x : Int), .int .i64 (y : Int)] w (AndGive I (.slice An ln cn) (.slice Ao lo co) (Cir.andB F G x y) w) := by
  unfold Cir.andB
  by_cases h : y < x
  · rw [if_pos h]
    exact l3And_sw I y x F An Ao cn co ln lo nx os vg G w hF hI hln hG hn hg ho h hx
  · rw [if_neg h]
    exact l3And_st I x y F An Ao cn co ln lo nx os vg G w hF hI hln hG hn hg ho (by omega) hy
end Go.Proofs.Ytdgminjbgjbamaa

namespace Go.Proofs.Ytdgminjbgjbamaa
/-! What follows a drawn region is proved once: `C` is found when the first order's goal is closed. -/
theorem go_once {G : Prop} {α : Sort _} (F C : α → Prop) (main : (∀ a, F a → C a) → G) (key : ∀ a, F a → C a) : G := main key
theorem go_once2 {G : Prop} {α : Sort _} {β : Sort _} (F C : α → β → Prop) (main : (∀ a b, F a b → C a b) → G) (key : ∀ a b, F a b → C a b) : G := main key
theorem go_once3 {G : Prop} {α : Sort _} {β : Sort _} {γ : Sort _} (F C : α → β → γ → Prop) (main : (∀ a b c, F a b c → C a b c) → G) (key : ∀ a b c, F a b c → C a b c) : G := main key
theorem go_once4 {G : Prop} {α : Sort _} {β : Sort _} {γ : Sort _} {δ : Sort _} (F C : α → β → γ → δ → Prop) (main : (∀ a b c d, F a b c d → C a b c d) → G) (key : ∀ a b c d, F a b c d → C a b c d) : G := main key
theorem go_once0 {G : Prop} (C : Prop) (main : C → G) (key : C) : G := main key
end Go.Proofs.Ytdgminjbgjbamaa
