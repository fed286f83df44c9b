import Derived.Test.YtopimdakpnnbhaaS03
import Derived.Test.YtopimdakpnnbhaaS01
import Derived.Test.YtopimdakpnnbhaaS04
import Derived.Test.YtopimdakpnnbhaaS07
import Derived.Test.YtopimdakpnnbhaaS10
import Derived.Test.YtopimdakpnnbhaaS08
import Derived.Test.YtopimdakpnnbhaaS09
import Derived.Test.YtopimdakpnnbhaaS06
import Derived.Test.YtopimdakpnnbhaaS02
set_option linter.unusedVariables false
set_option linter.unusedSimpArgs false
namespace Go.Proofs.Ytopimdakpnnbhaa
open Go.RowKit
/-! Drawn regions with an append of a drawn pair, and the place of the new row. -/
def GAggQ (G : Int × Int → Prop) (v : Value) : Prop := ∃ x : Int × Int, v = .agg #[.int .i64 x.1, .int .i64 x.2] ∧ G x
def TLitQ (E : Nat → Prop) (n : Nat) (G : Int × Int → Prop) : Ty := fun w v => ∃ g, v = .slice (some ⟨g, 0, none⟩) n n ∧ ¬ E g ∧ g < w.heap.size ∧ ∀ i, i < n → ∃ x : Int × Int, w.cell? ⟨g, i * 2, none⟩ = some (.int .i64 x.1) ∧ w.cell? ⟨g, i * 2 + 1, none⟩ = some (.int .i64 x.2) ∧ G x
section
variable (E : Nat → Prop)
theorem stb_litQ (n : Nat) (G : Int × Int → Prop) : Stb E (TLitQ E n G) := by
  rintro v w w' ⟨g, hv, hn, hl, hc⟩ hg
  refine ⟨g, hv, hn, Nat.lt_of_lt_of_le hl hg.size, fun i hi => ?_⟩
  obtain ⟨x, hx, hy, hb⟩ := hc i hi
  exact ⟨x, cell_on hg hn hl hx, cell_on hg hn hl hy, hb⟩
end
def JRowQ (T B : Nat) (e : TypeId) (v : Value) (ks : List (Int × Int)) (G : Int × Int → Prop) : Option Value → World → Prop
  | none, w => w.ownsRow B e 2 v ks.length (cubes ks)
  | some v', w => (∃ x, G x ∧ w.ownsRow B e 2 v' (ks.length + 1) (cubes (ks ++ [x]))) ∧ ∀ g, v'.ownBlock = some g → v.ownBlock = some g ∨ T ≤ g
@[reducible] def rowRSQ (Pg : Program) (ops : Array Oper) (R P : Nat) (w : World) (a : Act) (B : Nat) (e : TypeId) (v : Value) (ks : List (Int × Int)) (G : Int × Int → Prop) (d : Nat) : RS :=
  { P := Pg, ops := ops, E := fun g => g = R ∨ v.ownBlock = some g, F := (· = R), rd := some (R, P), w0 := w, J := JRowQ w.heap.size B e v ks G, d := d, a0 := a }
theorem rowRSQ_ok {Pg : Program} {ops : Array Oper} {R P : Nat} {w : World} {a : Act} {B : Nat} {e : TypeId} {v : Value} {ks : List (Int × Int)} {G : Int × Int → Prop} {d : Nat} (h : R < w.heap.size) (hB : R < B) (hown : w.ownsRow B e 2 v ks.length (cubes ks)) : (rowRSQ Pg ops R P w a B e v ks G d).Ok :=
  ⟨fun _ h => .inl h, fun ov w1 w2 hj ho => by
    have hg : w1.grownBy w2 (some R) := ho.grownBy
    cases ov with
    | none =>
      have hj' : w1.ownsRow B e 2 v ks.length (cubes ks) := hj
      refine World.ownsRow.kept hj' hg ?_
      cases hv : v.ownBlock with
      | none => exact .inl rfl
      | some g => exact .inr fun e => by have h1 := (hj'.lt g hv).1; have h2 := Option.some.inj e; omega
    | some v' =>
      obtain ⟨⟨x, hx, hj'⟩, hl⟩ := hj
      refine ⟨⟨x, hx, World.ownsRow.kept hj' hg ?_⟩, hl⟩
      cases hv : v'.ownBlock with
      | none => exact .inl rfl
      | some g => exact .inr fun e => by have h1 := (hj'.lt g hv).1; have h2 := Option.some.inj e; omega,
    fun _ _ e => by cases e; exact ⟨rfl, h⟩, fun g hg => by
      rcases hg with rfl | hg
      · exact h
      · exact (hown.lt g hg).2⟩
section
variable {S : RS} {Fin : List Ty → Prop} {o : Oper} {l : List Oper} {i : Nat} {τs : List Ty}
theorem rs_buildQ (hO : S.Ok) (hid : i ≠ S.d ∨ ∀ ov w, S.J ov w) (n : Nat) (G : Int × Int → Prop) (e : TypeId)
    (h : ∀ ρ w, Known S.ops (tys τs) S.a0 ρ w i o.op.operands.toList → ∃ (ks : List (Int × Int)) (cs : Array Value), ks.length = n ∧ cs = (cubes ks).toArray ∧ (execOp ρ o).run S.P w = .ok (.value (.slice (some ⟨w.heap.size, 0, none⟩) n n)) (w.alloc (.cells cs e)) ∧ ∀ c ∈ ks, G c)
    (rest : RSeq S Fin l (i + 1) (TLitQ S.E n G :: τs)) : RSeq S Fin (o :: l) i τs := by
  refine rs_plain hO hid _ (stb_litQ _ _ _) (fun k ρ w hk hr hon hK => ?_) rest
  obtain ⟨ks, cs, h0, h1, h2, h3⟩ := h ρ w hK
  subst h0 h1
  unfold Good
  rw [h2]
  have hb : Below w.heap.size w (w.alloc (.cells (cubes ks).toArray e)) := (Below.refl _ _).alloc (Nat.le_refl _) _
  refine ⟨⟨w.heap.size, rfl, fun hE => ?_, by simp, fun j hj => ?_⟩, ?_, Only.of_below _ hb⟩
  · have h4 := hO.low _ hE
    have h5 := hon.size
    omega
  · obtain ⟨x, hx⟩ := at_some hj
    obtain ⟨h4, h5⟩ := cubes_get hx
    exact ⟨x, by rw [World.cell?_alloc_new, List.getElem?_toArray]; exact h4, by rw [World.cell?_alloc_new, List.getElem?_toArray]; exact h5, h3 x (List.mem_of_getElem? hx)⟩
  · have hr' := rdO_more hr
    cases hrd : S.rd with
    | none => trivial
    | some x =>
      rw [hrd] at hr'
      exact Rd.alloc hr' _
theorem rs_appendQ (hd : i = S.d) (B : Nat) (e t : TypeId) (v : Value) (ks : List (Int × Int)) (G : Int × Int → Prop) (hJ : S.J = JRowQ S.w0.heap.size B e v ks G) (R P : Nat) (hrd : S.rd = some (R, P)) (hE : ∀ g, v.ownBlock = some g → S.E g) (hRB : R < B) (hB : B ≤ S.w0.heap.size)
    (x y : Nat) (ho : o.op = .call { callee := .builtin .append, args := #[.tmp x, .tmp y], argTypes := #[t, t] }) (jx jy : Nat) (hx : writer S.ops i x = some jx) (hy : writer S.ops i y = some jy) (hTx : tys τs jx = TEq v) (hTy : tys τs jy = TLitQ S.E 1 G)
    (inf : TypeInfo) (z : Value) (bytes : Nat) (ht : S.P.underlying t = some (.slice e)) (hi : S.P.info? e = some inf) (hz : inf.zero = some z) (hsize : inf.size = 2) (hby : inf.bytes = bytes) (hzs : z.cells.size = 2) (h63 : ks.length ≤ 1000000) (hbb : bytes ≤ 1000)
    (rest : RSeq S Fin l (i + 1) (TAny :: τs)) : RSeq S Fin (o :: l) i τs := by
  intro _
  refine ⟨TAny, stb_any _, fun k ov ρ w hk hI hov hK => ?_, rest⟩
  obtain rfl := hov (by rw [hd]; exact ancB_self _ _ _)
  rw [ho] at hK
  have h1 := hK.1
  have h2 := hK.2.1
  rw [hx] at h1
  rw [hy] at h2
  simp only [hTx] at h1
  simp only [hTy] at h2
  have h1' : ρ (.tmp x) = v := h1
  obtain ⟨g, hv, hg, hl, hc⟩ := h2
  obtain ⟨q, hq0, hq1, hG⟩ := hc 0 (by omega)
  have hown : w.ownsRow B e 2 v ks.length (cubes ks) := by have := hI.2.2; rw [hJ] at this; exact this
  have hr : Row w 2 (.slice (some ⟨g, 0, none⟩) 1 1) 1 (cubes [q]) := ⟨rfl, _, 1, rfl, Nat.le_refl _, by unfold maxLen; omega, fun _ => ⟨g, 0, rfl, hl, fun j u hu => by
    match j, hu with
    | 0, hu => have := Option.some.inj hu; subst this; exact hq0
    | 1, hu => have := Option.some.inj hu; subst this; exact hq1
    | j + 2, hu => simp [cubes] at hu⟩⟩
  obtain ⟨v', w', hrun, hown', hgr, hat⟩ := run_append_row_at (P := S.P) w B t o.type e inf z 2 bytes ht hi hz hsize hby hzs (by decide) v ks.length (cubes ks) hown _ 1 (cubes [q]) hr (by simp [cubes, Value.oneCell']) (by unfold maxLen; omega) (Nat.le_trans (Nat.mul_le_mul (show ks.length + 1 ≤ 1000001 by omega) hbb) (by decide)) (Nat.le_trans hB hI.2.1.size)
  have hre : (execOp ρ o).run S.P w = .ok (.value v') w' := by
    unfold execOp
    simp only [ho, resolve, invoke, builtin, Sem.run_bind, Sem.run_pure, Result.andThen_ok, List.map_toArray, List.map_cons, List.map_nil, h1', hv, hrun]
  unfold Good
  rw [hre]
  have hon : Only S.E w w' := Only.grown hgr hE
  refine ⟨trivial, ⟨?_, hI.2.1.trans hon, ?_⟩, hon⟩
  · have hr' := hI.1
    rw [hrd] at hr' ⊢
    have hr'' : Rd w R (P + 40 * k) := hr'
    exact (hr''.grown hgr fun q hq => by have := (hown.lt q hq).1; omega).more (by omega)
  · rw [if_pos hd, hJ]
    refine ⟨⟨q, hG, by rw [cubes_append]; exact hown'⟩, fun g hg => ?_⟩
    rcases hat with h | h
    · exact .inl (h.symm.trans hg)
    · have := Option.some.inj (h.symm.trans hg)
      have h5 := hI.2.1.size
      exact .inr (by omega)
end
end Go.Proofs.Ytopimdakpnnbhaa

namespace Go.Proofs.Ytopimdakpnnbhaa
open Go.RowKit
set_option maxRecDepth 100000
/-! A drawn small circuit. -/
set_option maxHeartbeats 16000000 in
theorem l20Small_any (R P : Nat) (n : Int) (w : World) (h : Rd w R P) (hP : P ≤ 80000) (h0 : 0 ≤ n) (h1 : n ≤ 1000) :
    Calls Try.prog 102 #[.pointer (some ⟨R, 0, none⟩), .int .i64 n] w (DrewC R (P + 20000) w) := by
  have Hr := Lib.hid h
  have zR := h.lt
  clear h
  go_enter Try.func102, Try.ntmps102
  go_wp2_with fail
  have hsz : (w.alloc (.cells #[.int .i64 0, .slice none 0 0, .slice none 0 0, .slice none 0 0] 26)).heap.size = w.heap.size + 1 := by simp
  refine (l20Circuit_any R P n _ (Hr.out.alloc _) (by omega) h0 h1).mono ?_
  rintro e w1 ⟨v1, c0, rfl, hOc, hSc, hr1, hg1⟩
  rw [hsz] at hOc
  clear hsz
  have Hr1 := Lib.hid hr1
  have HO1 := Lib.hid (only_drawn (only_alloc (Only.refl (· = R) w) _) hg1 (.inr rfl))
  have HX1 := Lib.hid (res_grown (heap_alloc_new w _) hg1 (fun e => by have := Option.some.inj e; omega))
  obtain ⟨An, cn, Ag, cg, Ao, co, rfl⟩ := hOc.shape
  have HOc := Lib.hid hOc
  have HSc := Lib.hid hSc
  clear hr1 hg1 Hr hOc hSc
  go_wp2_with fail
  have hb2 := bel_new w1 (.cells #[.int .i64 c0.ins, .slice An c0.next.length cn, .slice Ag c0.gates.length cg, .slice Ao c0.outs.length co] 26)
  have HCc2 := Lib.hid (HOc.out.only (E := fun _ => False) (Only.of_below _ hb2) fun _ _ e => e)
  have PCc2 := Lib.hid (PCells.boxed w1 c0.ins (.slice An c0.next.length cn) (.slice Ag c0.gates.length cg) (.slice Ao c0.outs.length co) 26)
  have Hr2 := Lib.hid (Hr1.out.alloc (.cells #[.int .i64 c0.ins, .slice An c0.next.length cn, .slice Ag c0.gates.length cg, .slice Ao c0.outs.length co] 26))
  have HO2 := Lib.hid (only_alloc HO1.out (.cells #[.int .i64 c0.ins, .slice An c0.next.length cn, .slice Ag c0.gates.length cg, .slice Ao c0.outs.length co] 26))
  have HX2 := Lib.hid ((hb2.block w.heap.size (blk_lt HX1.out)).trans HX1.out)
  have hgb1 : w.heap.size + 1 ≤ w1.heap.size := blk_lt HX1.out
  clear Hr1 HO1 HX1 hb2 HOc
  obtain ⟨gb, hgb⟩ : ∃ gb, w1.heap.size = gb := ⟨_, rfl⟩
  rw [hgb] at PCc2 hgb1 ⊢
  clear hgb
  generalize w1.alloc (.cells #[.int .i64 c0.ins, .slice An c0.next.length cn, .slice Ag c0.gates.length cg, .slice Ao c0.outs.length co] 26) = w2 at *
  refine (odd_every n _ _ _ Hr2.out (by omega) h0 (by omega)).mono ?_
  rintro e w3 ⟨b, rfl, hr3, hg3⟩
  have Hr3 := Lib.hid (hr3.more (show P + 10000 + 1 ≤ P + 10010 by omega))
  have HO3 := Lib.hid (only_drawn HO2.out hg3 (.inr rfl))
  have HX3 := Lib.hid (res_grown HX2.out hg3 (fun e => by have := Option.some.inj e; omega))
  have HCc3 := Lib.hid (HCc2.out.only (Only.grown (E := (· = R)) hg3 fun k hk => (Option.some.inj hk).symm) (fun g hg e => by omega))
  have PCc3 := Lib.hid (PCc2.out.grown hg3 (fun e => by have := Option.some.inj e; omega))
  have HCb3 : Hid True := Lib.hid trivial
  clear hr3 hg3 Hr2 HO2 HX2 HCc2 PCc2
  cases b
  · obtain ⟨z, p0, p1, p2, p3⟩ := PCc3.out
    go_wp2_with fail
    refine (specValid_any _ c0 _ HCc3.out.at).mono ?_
    rintro e w4 ⟨rfl, hb4⟩
    have Hr4 := Lib.hid (Rd.below Hr3.out hb4 Hr3.out.lt)
    have HO4 := Lib.hid (HO3.out.trans (Only.of_below _ hb4))
    have HX4 := Lib.hid ((hb4.block w.heap.size (blk_lt HX3.out)).trans HX3.out)
    have HCc4 := Lib.hid (HCc3.out.only (E := fun _ => False) (Only.of_below _ hb4) fun _ _ e => e)
    have PCc4 := Lib.hid (PCc3.out.below hb4)
    have HCb4 : Hid True := Lib.hid trivial
    clear hb4 Hr3 HO3 HX3 HCc3 PCc3 z p0 p1 p2 p3 HCb3
    cases hv : Cir.valid c0
    · clear hv
      obtain ⟨z, p0, p1, p2, p3⟩ := PCc4.out
      have o0 := blk_cell HX4.out 0
      have o1 := blk_cell HX4.out 1
      have o2 := blk_cell HX4.out 2
      have o3 := blk_cell HX4.out 3
      have f0 := blk_free HX4.out 0
      have f1 := blk_free HX4.out 1
      have f2 := blk_free HX4.out 2
      have f3 := blk_free HX4.out 3
      have zr := blk_lt HX4.out
      simp at o0 o1 o2 o3
      clear HCb4
      go_wp2_with fail
      refine bodyPost_ret (v := .agg #[.int .i64 c0.ins, .slice An c0.next.length cn, .slice Ag c0.gates.length cg, .slice Ao c0.outs.length co]) (by simp [results, Try.results102, go_sem, o0, o1, o2, o3]) rfl ⟨_, c0, rfl, ?_, HSc.out, ?_, ?_⟩
      · exact ((HCc4.out.setR (k := w.heap.size) (by omega)).mono (by omega))
      · exact (rd_set (rd_set (rd_set (rd_set Hr4.out zR) zR) zR) zR).more (by omega)
      · exact (only_set (only_set (only_set (only_set HO4.out (Nat.le_refl _)) (Nat.le_refl _)) (Nat.le_refl _)) (Nat.le_refl _)).grownBy
    · clear hv HCb4 HCc4 PCc4
      go_wp2_with fail
      refine (pick_any 3 _ _ _ Hr4.out (by omega) (by omega) (by omega)).mono ?_
      rintro e w5 ⟨x, x0, x1, rfl, hr5, hg5⟩
      have Hr5 := Lib.hid hr5
      have HO5 := Lib.hid (only_drawn HO4.out hg5 (.inr rfl))
      have HX5 := Lib.hid (res_grown HX4.out hg5 (fun e => by have := Option.some.inj e; omega))
      clear hr5 hg5 Hr4 HO4 HX4
      go_wp2_with fail
      have hb6 := bel_new w5 (.cells #[.int .i64 x, .slice none 0 0, .slice none 0 0, .slice none 0 0] 26)
      have HC6 := Lib.hid (CB.start (ins := x) (w := w5) trivial)
      have Hr6 := Lib.hid (Hr5.out.alloc (.cells #[.int .i64 x, .slice none 0 0, .slice none 0 0, .slice none 0 0] 26))
      have HO6 := Lib.hid (only_alloc HO5.out (.cells #[.int .i64 x, .slice none 0 0, .slice none 0 0, .slice none 0 0] 26))
      have HX6 := Lib.hid ((hb6.block w.heap.size (blk_lt HX5.out)).trans HX5.out)
      have hgm1 : w.heap.size + 1 ≤ w5.heap.size := blk_lt HX5.out
      clear Hr5 HO5 HX5 hb6
      obtain ⟨gm, hgm⟩ : ∃ gm, w5.heap.size = gm := ⟨_, rfl⟩
      rw [hgm] at HC6 hgm1 ⊢
      clear hgm
      generalize w5.alloc (.cells #[.int .i64 x, .slice none 0 0, .slice none 0 0, .slice none 0 0] 26) = w6 at *
      refine (pick_any 2 _ _ _ Hr6.out (by omega) (by omega) (by omega)).mono ?_
      rintro e w7 ⟨y, y0, y1, rfl, hr7, hg7⟩
      have Hr7 := Lib.hid hr7
      have HO7 := Lib.hid (only_drawn HO6.out hg7 (.inr rfl))
      have HX7 := Lib.hid (res_grown HX6.out hg7 (fun e => by have := Option.some.inj e; omega))
      have HC7 := Lib.hid (HC6.out.drawn hg7 (by omega))
      clear hr7 hg7 Hr6 HO6 HX6 HC6
      obtain ⟨zm, p0, -⟩ := HC7.out.cells
      have hwy := IntWalk.i64_in (1 + y) (by omega)
      have hwv := IntWalk.i64_in (x + (1 + y)) (by omega)
      have hwv2 := IntWalk.i64_in (x + (1 + y) + 1) (by omega)
      go_wp2_with fail
      clear zm p0
      refine (pick_any 9 _ _ _ Hr7.out (by omega) (by omega) (by omega)).mono ?_
      rintro e w8 ⟨k, k0, k1, rfl, hr8, hg8⟩
      have Hr8 := Lib.hid hr8
      have HO8 := Lib.hid (only_drawn HO7.out hg8 (.inr rfl))
      have HX8 := Lib.hid (res_grown HX7.out hg8 (fun e => by have := Option.some.inj e; omega))
      have HC8 := Lib.hid (HC7.out.drawn hg8 (by omega))
      clear hr8 hg8 Hr7 HO7 HX7 HC7
      go_wp2_with fail
      go_loopw [8, 9] (fun m k wr => ∃ (M K : Int) (gs : List (Int × Int)) (vG : Value), m = .int .i64 M ∧ k = .int .i64 K ∧ 0 ≤ K ∧ gs.length + K ≤ 8 ∧ 1 ≤ M ∧ M ≤ 5 + gs.length ∧ Hid (∀ q ∈ gs, LitS q.1 ∧ LitS q.2) ∧ Hid (CB gm ⟨x, [], gs, []⟩ (.slice none 0 0) vG (.slice none 0 0) wr) ∧ Hid (Rd wr R (P + 12000 + 1000 * gs.length)) ∧ Hid (Only (· = R) w wr) ∧ Hid (wr.heap[w.heap.size]? = some (.cells #[.int .i64 0, .slice none 0 0, .slice none 0 0, .slice none 0 0] 26 (0, 0)))) (fun _ k _ => (intOf k).toNat)
      case atStart => exact ⟨_, k, [], _, rfl, rfl, k0, by simp <;> omega, by omega, by simp <;> omega, Lib.hid (by simp), HC8, Lib.hid (Hr8.out.more (by simp <;> omega)), HO8, HX8⟩
      case round =>
        obtain ⟨M, K, gs, vG, rfl, rfl, hK, hKl, hM, hM2, Hn, HC, Hr, HO, HX⟩ := hrel
        clear HC8 Hr8 HO8 HX8
        by_cases hpos : 0 < K
        · go_wp2_with fail
          have hO := fun ops a => rowRSQ_ok (Pg := Try.prog) (ops := ops) (P := P + 12000 + 1000 * gs.length) (a := a) (G := fun q => LitS q.1 ∧ LitS q.2) (d := 12) Hr.out.lt (show R < gm + 1 by omega) HC.out.g
          obtain ⟨zm, p0, p1, p2, p3⟩ := HC.out.cells
          have hneN : ¬ (gm = R ∨ vG.ownBlock = some gm) := fun e => by
            rcases e with e | e
            · omega
            · have := (HC.out.g.lt gm e).1; omega
          refine wp_region_rsl (rowRSQ Try.prog _ R (P + 12000 + 1000 * gs.length) wr _ (gm + 1) 87 vG gs (fun q => LitS q.1 ∧ LitS q.2) 12) (hO _ _) (by kernel_rfl) (by kernel_rfl) (by kernel_rfl) 14 _ rfl rfl (by kernel_rfl) (show (12 : Nat) < 14 by decide) Hr.out HC.out.g ?_
          obtain ⟨i0, hi0, hz0, hz1, hz2⟩ := info_parts info_gate'
          apply rs_eq (hO _ _) (.inl (Nat.ne_of_beq_eq_false rfl))
          · intro ρ w' ho hK
            obtain ⟨h0, -⟩ := hK
            have h0' : ρ (.tmp 6) = .pointer (some ⟨gm, 0, none⟩) := h0
            go_simp
            try exact rfl
          apply rs_eq (hO _ _) (.inl (Nat.ne_of_beq_eq_false rfl))
          · intro ρ w' ho hK
            obtain ⟨h0, -⟩ := hK
            have h0' : ρ (.tmp 41) = .pointer (some ⟨gm, 2, none⟩) := h0
            have q2 := cell_on ho hneN zm p2
            go_simp
            try exact rfl
          refine rs_old (hO _ _) (.inl (Nat.ne_of_beq_eq_false rfl)) _ (.inl rfl) _ rfl rfl ?_
          refine rs_old (hO _ _) (.inl (Nat.ne_of_beq_eq_false rfl)) _ (.inl rfl) _ rfl rfl ?_
          apply rs_eq (hO _ _) (.inl (Nat.ne_of_beq_eq_false rfl))
          · intro ρ w' ho hK
            obtain ⟨h0, h1, -⟩ := hK
            have h0' : ρ (.const (.int .i64 2)) = .int .i64 2 := h0
            have h1' : ρ (.tmp 44) = .int .i64 M := h1
            have hwr := IntWalk.i64_in (2 * M) (by omega)
            go_simp
            try exact rfl
          refine rs_pick (hO _ _) (.inl (Nat.ne_of_beq_eq_false rfl)) 83 _ _ _ R (P + 12000 + 1000 * gs.length) 43 rfl rfl fn_draw (fun ρ w hK => ⟨hK.1, hK.2.1, 2 * M, hK.2.2.1, by omega, by omega⟩) (fun n k w hk h1n hn hr => pick_upto n 43 _ _ w hr (by have hk' : k < 15 := hk; omega) h1n hn (by omega)) ?_
          refine rs_old (hO _ _) (.inl (Nat.ne_of_beq_eq_false rfl)) _ (.inl rfl) _ rfl rfl ?_
          refine rs_old (hO _ _) (.inl (Nat.ne_of_beq_eq_false rfl)) _ (.inl rfl) _ rfl rfl ?_
          apply rs_eq (hO _ _) (.inl (Nat.ne_of_beq_eq_false rfl))
          · intro ρ w' ho hK
            obtain ⟨h0, h1, -⟩ := hK
            have h0' : ρ (.const (.int .i64 2)) = .int .i64 2 := h0
            have h1' : ρ (.tmp 48) = .int .i64 M := h1
            have hwr := IntWalk.i64_in (2 * M) (by omega)
            go_simp
            try exact rfl
          refine rs_pick (hO _ _) (.inl (Nat.ne_of_beq_eq_false rfl)) 83 _ _ _ R (P + 12000 + 1000 * gs.length) 43 rfl rfl fn_draw (fun ρ w hK => ⟨hK.1, hK.2.1, 2 * M, hK.2.2.1, by omega, by omega⟩) (fun n k w hk h1n hn hr => pick_upto n 43 _ _ w hr (by have hk' : k < 15 := hk; omega) h1n hn (by omega)) ?_
          refine rs_pure (hO _ _) (.inl (Nat.ne_of_beq_eq_false rfl)) (TOf (GAggQ fun q => LitS q.1 ∧ LitS q.2)) (stb_of _ _) (fun ρ w hK => by
            obtain ⟨⟨a, h0, h1, h2⟩, ⟨b, h3, h4, h5⟩, -⟩ := hK
            have h0' : ρ (.tmp 46) = .int .i64 a := h0
            have h3' : ρ (.tmp 50) = .int .i64 b := h3
            refine ⟨.agg #[.int .i64 a, .int .i64 b], ?_, (a, b), rfl, ⟨by omega, by omega⟩, by simp only; omega, by simp only; omega⟩
            go_simp) ?_
          refine rs_buildQ (hO _ _) (.inl (Nat.ne_of_beq_eq_false rfl)) 1 (fun q => LitS q.1 ∧ LitS q.2) 87 (fun ρ w hK => by
            obtain ⟨⟨x, hx, hG⟩, -⟩ := hK
            have h' : ρ (.tmp 51) = .agg #[.int .i64 x.1, .int .i64 x.2] := hx
            refine ⟨[x], #[.int .i64 x.1, .int .i64 x.2], rfl, rfl, ?_, ?_⟩
            · go_simp
            · intro c hc
              rw [List.mem_singleton.1 hc]
              exact hG) ?_
          refine rs_appendQ rfl (gm + 1) 87 24 vG gs (fun q => LitS q.1 ∧ LitS q.2) rfl R (P + 12000 + 1000 * gs.length) rfl (fun g hg => .inr hg) (show R < gm + 1 by omega) zm _ _ rfl _ _ rfl rfl rfl rfl i0 _ 16 Try.underlying24 hi0 hz0 hz1 hz2 rfl (by omega) (by decide) ?_
          apply rs_eq (hO _ _) (.inl (Nat.ne_of_beq_eq_false rfl))
          · intro ρ w' ho hK
            obtain ⟨h0, -⟩ := hK
            have h0' : ρ (.tmp 6) = .pointer (some ⟨gm, 0, none⟩) := h0
            go_simp
            try exact rfl
          intro f w9 k9 hk9 hI9 ht9 hcp9
          have E0 : f 0 = _ := ht9 0 (Nat.le_of_ble_eq_true rfl)
          have E1 : f 1 = _ := ht9 1 (Nat.le_of_ble_eq_true rfl)
          have E2 : f 2 = _ := ht9 2 (Nat.le_of_ble_eq_true rfl)
          have E3 : f 3 = _ := ht9 3 (Nat.le_of_ble_eq_true rfl)
          have E4 : f 4 = _ := ht9 4 (Nat.le_of_ble_eq_true rfl)
          have E6 : f 6 = _ := ht9 6 (Nat.le_of_ble_eq_true rfl)
          have E7 : f 7 = _ := ht9 7 (Nat.le_of_ble_eq_true rfl)
          have E8 : f 8 = _ := ht9 8 (Nat.le_of_ble_eq_true rfl)
          have E13 : f 13 = _ := ht9 13 (Nat.le_of_ble_eq_true rfl)
          have Hr9 : Rd w9 R (P + 12000 + 1000 * gs.length + 40 * k9) := hI9.1
          have HE9 : Only (fun g => g = R ∨ vG.ownBlock = some g) wr w9 := hI9.2.1
          have HJ9 : (∃ u : Int × Int, (LitS u.1 ∧ LitS u.2) ∧ w9.ownsRow (gm + 1) 87 2 (f 12) (gs.length + 1) (cubes (gs ++ [u]))) ∧ ∀ g, (f 12).ownBlock = some g → vG.ownBlock = some g ∨ wr.heap.size ≤ g := hI9.2.2
          have hk9' : k9 ≤ 15 := hk9
          simp only [putAll, E0, E1, E2, E3, E4, E6, E7, E8, E13, Nat.zero_add, Nat.reduceAdd, Act.put, List.take, List.setIfInBounds_toArray, List.set_cons_succ, List.set_cons_zero]
          clear E0 E1 E2 E3 E4 E6 E7 E8 E13 hI9 ht9 hcp9 hk9 hO
          generalize f 5 = r5, f 9 = r9, f 10 = r10, f 11 = r11 at *
          generalize f 12 = v9 at *
          simp only [List.getElem_toArray, List.getElem_cons_succ, List.getElem_cons_zero]
          obtain ⟨⟨uu, hq0, hown9⟩, hat9⟩ := HJ9
          obtain ⟨A9, c9, e9⟩ := slice_of_own hown9
          subst e9
          have Ho9 := Lib.hid hown9
          have Hat9 := Lib.hid hat9
          have HE9' := Lib.hid HE9
          have Hr9' := Lib.hid (Hr9.more (show P + 12000 + 1000 * gs.length + 40 * k9 ≤ P + 12000 + 1000 * gs.length + 700 by omega))
          have hbx := (HE9.block gm zm hneN).trans HC.out.box
          have q2 := blk_cell hbx 2
          have q2f := blk_free hbx 2
          have zq := blk_lt hbx
          simp at q2
          clear hown9 hat9 HE9 Hr9 hbx p0 p1 p2 p3 hk9' hi0 hz0 hz1 hz2
          go_wp2_with fail
          go_roundw
          case rel =>
            refine ⟨M + 1, K - 1, gs ++ [uu], .slice A9 (gs.length + 1) c9, by go_num, by go_num, by omega, by simp <;> omega, by omega, by simp <;> omega, Lib.hid fun q' hq => ?_, Lib.hid ?_, Lib.hid ?_, Lib.hid ?_, Lib.hid ?_⟩
            · rcases List.mem_append.1 hq with h | h
              · exact Hn.out q' h
              · rw [List.mem_singleton.1 h]
                exact hq0
            · refine HC.out.addG (xs := gs ++ [uu]) HE9'.out (fun g hg hn => ?_) ?_ Hat9.out
              · rintro (e | e)
                · omega
                · exact hn e
              · rw [List.length_append]
                exact Ho9.out
            · exact (rd_set Hr9'.out (by omega)).more (by simp <;> omega)
            · exact only_set (HO.out.aft HE9'.out fun g hg => by
                rcases hg with h | h
                · exact .inr h
                · exact .inl (by have := (HC.out.g.lt g h).1; omega)) (by omega)
            · exact res_set ((HE9'.out.block _ (blk_lt HX.out) (fun e => by
                rcases e with h | h
                · omega
                · have := (HC.out.g.lt _ h).1; omega)).trans HX.out) (by omega)
          case measure => simp [intOf]; omega
        · obtain rfl : K = 0 := by omega
          have Hr1 := Lib.hid (Hr.out.more (show P + 12000 + 1000 * gs.length ≤ P + 21000 by omega))
          have HC1 := Lib.hid HC.out
          clear Hr HC
          obtain ⟨W1, hW1⟩ : ∃ W1, W1 = wr := ⟨_, rfl⟩
          subst hW1
          go_wp2_with fail
          go_loopw [10] (fun j wr => ∃ (ns : List Int) (vN : Value), j = .int .i64 (ns.length : Nat) ∧ ns.length ≤ 1 + y ∧ Hid (∀ q ∈ ns, LitS q) ∧ Hid (CB gm ⟨x, ns, gs, []⟩ vN vG (.slice none 0 0) wr) ∧ Hid (Rd wr R (P + 21500 + 1000 * ns.length)) ∧ Hid (Only (· = R) w wr) ∧ Hid (wr.heap[w.heap.size]? = some (.cells #[.int .i64 0, .slice none 0 0, .slice none 0 0, .slice none 0 0] 26 (0, 0)))) (fun j _ => (1 + y).toNat - (intOf j).toNat)
          case atStart => exact ⟨[], _, rfl, by simp <;> omega, Lib.hid (by simp), HC1, Lib.hid (Hr1.out.more (by simp <;> omega)), HO, HX⟩
          case round =>
            obtain ⟨ns, vN, rfl, hnl, Hn2, HC, Hr, HO, HX⟩ := hrel
            have HnG := Hn
            clear Hr1 HC1
            by_cases hlt : (ns.length : Int) < 1 + y
            · go_wp2_with fail
              have hO := fun ops a => rdRS_ok (Pg := Try.prog) (ops := ops) (P := P + 21500 + 1000 * ns.length) (a := a) (G := GInt (-100) 1000) (d := 7) Hr.out.lt (show R < gm + 1 by omega) HC.out.n
              obtain ⟨zm, p0, p1, p2, p3⟩ := HC.out.cells
              have hneN : ¬ (gm = R ∨ vN.ownBlock = some gm) := fun e => by
                rcases e with e | e
                · omega
                · have := (HC.out.n.lt gm e).1; omega
              refine wp_region_rsl (rdRS Try.prog _ R (P + 21500 + 1000 * ns.length) wr _ (gm + 1) 3 vN ns.length (ints ns) (GInt (-100) 1000) 7) (hO _ _) (by kernel_rfl) (by kernel_rfl) (by kernel_rfl) 9 _ rfl rfl (by kernel_rfl) (show (7 : Nat) < 9 by decide) Hr.out HC.out.n ?_
              obtain ⟨i0, hi0, hz0, hz1, hz2⟩ := info_parts info_int
              apply rs_eq (hO _ _) (.inl (Nat.ne_of_beq_eq_false rfl))
              · intro ρ w' ho hK
                obtain ⟨h0, -⟩ := hK
                have h0' : ρ (.tmp 6) = .pointer (some ⟨gm, 0, none⟩) := h0
                go_simp
                try exact rfl
              apply rs_eq (hO _ _) (.inl (Nat.ne_of_beq_eq_false rfl))
              · intro ρ w' ho hK
                obtain ⟨h0, -⟩ := hK
                have h0' : ρ (.tmp 62) = .pointer (some ⟨gm, 1, none⟩) := h0
                have q1 := cell_on ho hneN zm p1
                go_simp
                try exact rfl
              refine rs_old (hO _ _) (.inl (Nat.ne_of_beq_eq_false rfl)) _ (.inl rfl) _ rfl rfl ?_
              refine rs_old (hO _ _) (.inl (Nat.ne_of_beq_eq_false rfl)) _ (.inl rfl) _ rfl rfl ?_
              apply rs_eq (hO _ _) (.inl (Nat.ne_of_beq_eq_false rfl))
              · intro ρ w' ho hK
                obtain ⟨h0, h1, -⟩ := hK
                have h0' : ρ (.const (.int .i64 2)) = .int .i64 2 := h0
                have h1' : ρ (.tmp 65) = .int .i64 M := h1
                have hwr := IntWalk.i64_in (2 * M) (by omega)
                go_simp
                try exact rfl
              refine rs_pick (hO _ _) (.inl (Nat.ne_of_beq_eq_false rfl)) 83 _ _ _ R (P + 21500 + 1000 * ns.length) 43 rfl rfl fn_draw (fun ρ w hK => ⟨hK.1, hK.2.1, 2 * M, hK.2.2.1, by omega, by omega⟩) (fun n k w hk h1n hn hr => pick_upto n 43 _ _ w hr (by have hk' : k < 10 := hk; omega) h1n hn (by omega)) ?_
              refine rs_build (hO _ _) (.inl (Nat.ne_of_beq_eq_false rfl)) 1 (GInt (-100) 1000) 3 (fun ρ w hK => by
                obtain ⟨⟨q, hq, hq0, hq1⟩, -⟩ := hK
                have h' : ρ (.tmp 67) = .int .i64 q := hq
                refine ⟨#[.int .i64 q], rfl, ?_, ?_⟩
                · go_simp
                · intro c hc
                  simp at hc
                  exact ⟨q, hc, by omega, by omega⟩) ?_
              refine rs_appendV rfl (gm + 1) 3 23 vN ns.length (ints ns) (GInt (-100) 1000) rfl R (P + 21500 + 1000 * ns.length) rfl (fun g hg => .inr hg) (show R < gm + 1 by omega) zm _ _ rfl _ _ rfl rfl rfl rfl i0 _ 8 Try.underlying23 hi0 hz0 hz1 hz2 rfl (by omega) (by decide) (fun u hu => by obtain ⟨q, rfl, -⟩ := hu; rfl) ?_
              apply rs_eq (hO _ _) (.inl (Nat.ne_of_beq_eq_false rfl))
              · intro ρ w' ho hK
                obtain ⟨h0, -⟩ := hK
                have h0' : ρ (.tmp 6) = .pointer (some ⟨gm, 0, none⟩) := h0
                go_simp
                try exact rfl
              intro f w9 k9 hk9 hI9 ht9 hcp9
              have E0 : f 0 = _ := ht9 0 (Nat.le_of_ble_eq_true rfl)
              have E1 : f 1 = _ := ht9 1 (Nat.le_of_ble_eq_true rfl)
              have E2 : f 2 = _ := ht9 2 (Nat.le_of_ble_eq_true rfl)
              have E3 : f 3 = _ := ht9 3 (Nat.le_of_ble_eq_true rfl)
              have E4 : f 4 = _ := ht9 4 (Nat.le_of_ble_eq_true rfl)
              have E8 : f 8 = _ := ht9 8 (Nat.le_of_ble_eq_true rfl)
              have Hr9 : Rd w9 R (P + 21500 + 1000 * ns.length + 40 * k9) := hI9.1
              have HE9 : Only (fun g => g = R ∨ vN.ownBlock = some g) wr w9 := hI9.2.1
              have HJ9 : (∃ u, GInt (-100) 1000 u ∧ w9.ownsRow (gm + 1) 3 1 (f 7) (ns.length + 1) (ints ns ++ [u])) ∧ ∀ g, (f 7).ownBlock = some g → vN.ownBlock = some g ∨ wr.heap.size ≤ g := hI9.2.2
              have hk9' : k9 ≤ 10 := hk9
              simp only [putAll, E0, E1, E2, E3, E4, E8, Nat.zero_add, Nat.reduceAdd, Act.put, List.take, List.setIfInBounds_toArray, List.set_cons_succ, List.set_cons_zero]
              clear E0 E1 E2 E3 E4 E8 hI9 ht9 hcp9 hk9 hO
              generalize f 5 = r5, f 6 = r6 at *
              generalize f 7 = v9 at *
              simp only [List.getElem_toArray, List.getElem_cons_succ, List.getElem_cons_zero]
              obtain ⟨⟨uu, ⟨q, rfl, hq0, hq1⟩, hown9⟩, hat9⟩ := HJ9
              obtain ⟨A9, c9, e9⟩ := slice_of_own hown9
              subst e9
              have Ho9 := Lib.hid hown9
              have Hat9 := Lib.hid hat9
              have HE9' := Lib.hid HE9
              have Hr9' := Lib.hid (Hr9.more (show P + 21500 + 1000 * ns.length + 40 * k9 ≤ P + 21500 + 1000 * ns.length + 500 by omega))
              have hbx := (HE9.block gm zm hneN).trans HC.out.box
              have q1 := blk_cell hbx 1
              have q1f := blk_free hbx 1
              have zq := blk_lt hbx
              simp at q1
              clear hown9 hat9 HE9 Hr9 hbx p0 p1 p2 p3 hk9' hi0 hz0 hz1 hz2
              go_wp2_with fail
              go_roundw
              case rel =>
                refine ⟨ns ++ [q], .slice A9 (ns.length + 1) c9, by simp, by simp <;> omega, Lib.hid fun q' hq => ?_, Lib.hid ?_, Lib.hid ?_, Lib.hid ?_, Lib.hid ?_⟩
                · rcases List.mem_append.1 hq with h | h
                  · exact Hn2.out q' h
                  · rw [List.mem_singleton.1 h]
                    exact ⟨hq0, hq1⟩
                · refine HC.out.addN (xs := ns ++ [q]) HE9'.out (fun g hg hn => ?_) ?_ Hat9.out
                  · rintro (e | e)
                    · omega
                    · exact hn e
                  · rw [List.length_append, ints_snoc]
                    exact Ho9.out
                · exact (rd_set Hr9'.out (by omega)).more (by simp <;> omega)
                · exact only_set (HO.out.aft HE9'.out fun g hg => by
                    rcases hg with h | h
                    · exact .inr h
                    · exact .inl (by have := (HC.out.n.lt g h).1; omega)) (by omega)
                · exact res_set ((HE9'.out.block _ (blk_lt HX.out) (fun e => by
                    rcases e with h | h
                    · omega
                    · have := (HC.out.n.lt _ h).1; omega)).trans HX.out) (by omega)
              case measure => simp [intOf]; omega
            · have Hr1 := Lib.hid (Hr.out.more (show P + 21500 + 1000 * ns.length ≤ P + 24600 by omega))
              have HC1 := Lib.hid HC.out
              clear Hr HC
              obtain ⟨W2, hW2⟩ : ∃ W2, W2 = wr := ⟨_, rfl⟩
              subst hW2
              go_wp2_with fail
              refine (pick_any 3 _ _ _ Hr1.out (by omega) (by omega) (by omega)).mono ?_
              rintro e w9 ⟨k1, k10, k11, rfl, hr9, hg9⟩
              have Hr9 := Lib.hid (hr9.more (show P + 24600 + 1 ≤ P + 25000 by omega))
              have HO9 := Lib.hid (only_drawn HO.out hg9 (.inr rfl))
              have HX9 := Lib.hid (res_grown HX.out hg9 (fun e => by have := Option.some.inj e; omega))
              have HC9 := Lib.hid (HC1.out.drawn hg9 (by omega))
              clear hr9 hg9 Hr1 HO HX HC1
              go_wp2_with fail
              go_loopw [11] (fun j wr => ∃ (K : Int) (os : List Int) (vO : Value), j = .int .i64 K ∧ 0 ≤ K ∧ os.length + K ≤ 2 ∧ Hid (∀ q ∈ os, LitS q) ∧ Hid (CB gm ⟨x, ns, gs, os⟩ vN vG vO wr) ∧ Hid (Rd wr R (P + 25000 + 1000 * os.length)) ∧ Hid (Only (· = R) w wr) ∧ Hid (wr.heap[w.heap.size]? = some (.cells #[.int .i64 0, .slice none 0 0, .slice none 0 0, .slice none 0 0] 26 (0, 0)))) (fun j _ => (intOf j).toNat)
              case atStart => exact ⟨k1, [], _, rfl, k10, by simp <;> omega, Lib.hid (by simp), HC9, Lib.hid (Hr9.out.more (by simp)), HO9, HX9⟩
              case round =>
                obtain ⟨K, os, vO, rfl, hK0, hKl2, Hn3, HC, Hr, HO, HX⟩ := hrel
                clear Hr9 HC9 HO9 HX9
                by_cases hpos : 0 < K
                · go_wp2_with fail
                  have hO := fun ops a => rdRS_ok (Pg := Try.prog) (ops := ops) (P := P + 25000 + 1000 * os.length) (a := a) (G := GInt (-100) 1000) (d := 7) Hr.out.lt (show R < gm + 1 by omega) HC.out.o
                  obtain ⟨zm, p0, p1, p2, p3⟩ := HC.out.cells
                  have hneN : ¬ (gm = R ∨ vO.ownBlock = some gm) := fun e => by
                    rcases e with e | e
                    · omega
                    · have := (HC.out.o.lt gm e).1; omega
                  refine wp_region_rsl (rdRS Try.prog _ R (P + 25000 + 1000 * os.length) wr _ (gm + 1) 3 vO os.length (ints os) (GInt (-100) 1000) 7) (hO _ _) (by kernel_rfl) (by kernel_rfl) (by kernel_rfl) 9 _ rfl rfl (by kernel_rfl) (show (7 : Nat) < 9 by decide) Hr.out HC.out.o ?_
                  obtain ⟨i0, hi0, hz0, hz1, hz2⟩ := info_parts info_int
                  apply rs_eq (hO _ _) (.inl (Nat.ne_of_beq_eq_false rfl))
                  · intro ρ w' ho hK
                    obtain ⟨h0, -⟩ := hK
                    have h0' : ρ (.tmp 6) = .pointer (some ⟨gm, 0, none⟩) := h0
                    go_simp
                    try exact rfl
                  apply rs_eq (hO _ _) (.inl (Nat.ne_of_beq_eq_false rfl))
                  · intro ρ w' ho hK
                    obtain ⟨h0, -⟩ := hK
                    have h0' : ρ (.tmp 77) = .pointer (some ⟨gm, 3, none⟩) := h0
                    have q3 := cell_on ho hneN zm p3
                    go_simp
                    try exact rfl
                  refine rs_old (hO _ _) (.inl (Nat.ne_of_beq_eq_false rfl)) _ (.inl rfl) _ rfl rfl ?_
                  refine rs_old (hO _ _) (.inl (Nat.ne_of_beq_eq_false rfl)) _ (.inl rfl) _ rfl rfl ?_
                  apply rs_eq (hO _ _) (.inl (Nat.ne_of_beq_eq_false rfl))
                  · intro ρ w' ho hK
                    obtain ⟨h0, h1, -⟩ := hK
                    have h0' : ρ (.const (.int .i64 2)) = .int .i64 2 := h0
                    have h1' : ρ (.tmp 80) = .int .i64 M := h1
                    have hwr := IntWalk.i64_in (2 * M) (by omega)
                    go_simp
                    try exact rfl
                  refine rs_pick (hO _ _) (.inl (Nat.ne_of_beq_eq_false rfl)) 83 _ _ _ R (P + 25000 + 1000 * os.length) 43 rfl rfl fn_draw (fun ρ w hK => ⟨hK.1, hK.2.1, 2 * M, hK.2.2.1, by omega, by omega⟩) (fun n k w hk h1n hn hr => pick_upto n 43 _ _ w hr (by have hk' : k < 10 := hk; omega) h1n hn (by omega)) ?_
                  refine rs_build (hO _ _) (.inl (Nat.ne_of_beq_eq_false rfl)) 1 (GInt (-100) 1000) 3 (fun ρ w hK => by
                    obtain ⟨⟨q, hq, hq0, hq1⟩, -⟩ := hK
                    have h' : ρ (.tmp 82) = .int .i64 q := hq
                    refine ⟨#[.int .i64 q], rfl, ?_, ?_⟩
                    · go_simp
                    · intro c hc
                      simp at hc
                      exact ⟨q, hc, by omega, by omega⟩) ?_
                  refine rs_appendV rfl (gm + 1) 3 23 vO os.length (ints os) (GInt (-100) 1000) rfl R (P + 25000 + 1000 * os.length) rfl (fun g hg => .inr hg) (show R < gm + 1 by omega) zm _ _ rfl _ _ rfl rfl rfl rfl i0 _ 8 Try.underlying23 hi0 hz0 hz1 hz2 rfl (by omega) (by decide) (fun u hu => by obtain ⟨q, rfl, -⟩ := hu; rfl) ?_
                  apply rs_eq (hO _ _) (.inl (Nat.ne_of_beq_eq_false rfl))
                  · intro ρ w' ho hK
                    obtain ⟨h0, -⟩ := hK
                    have h0' : ρ (.tmp 6) = .pointer (some ⟨gm, 0, none⟩) := h0
                    go_simp
                    try exact rfl
                  intro f w9 k9 hk9 hI9 ht9 hcp9
                  have E0 : f 0 = _ := ht9 0 (Nat.le_of_ble_eq_true rfl)
                  have E1 : f 1 = _ := ht9 1 (Nat.le_of_ble_eq_true rfl)
                  have E2 : f 2 = _ := ht9 2 (Nat.le_of_ble_eq_true rfl)
                  have E3 : f 3 = _ := ht9 3 (Nat.le_of_ble_eq_true rfl)
                  have E4 : f 4 = _ := ht9 4 (Nat.le_of_ble_eq_true rfl)
                  have E8 : f 8 = _ := ht9 8 (Nat.le_of_ble_eq_true rfl)
                  have Hr9 : Rd w9 R (P + 25000 + 1000 * os.length + 40 * k9) := hI9.1
                  have HE9 : Only (fun g => g = R ∨ vO.ownBlock = some g) wr w9 := hI9.2.1
                  have HJ9 : (∃ u, GInt (-100) 1000 u ∧ w9.ownsRow (gm + 1) 3 1 (f 7) (os.length + 1) (ints os ++ [u])) ∧ ∀ g, (f 7).ownBlock = some g → vO.ownBlock = some g ∨ wr.heap.size ≤ g := hI9.2.2
                  have hk9' : k9 ≤ 10 := hk9
                  simp only [putAll, E0, E1, E2, E3, E4, E8, Nat.zero_add, Nat.reduceAdd, Act.put, List.take, List.setIfInBounds_toArray, List.set_cons_succ, List.set_cons_zero]
                  clear E0 E1 E2 E3 E4 E8 hI9 ht9 hcp9 hk9 hO
                  generalize f 5 = r5, f 6 = r6 at *
                  generalize f 7 = v9 at *
                  simp only [List.getElem_toArray, List.getElem_cons_succ, List.getElem_cons_zero]
                  obtain ⟨⟨uu, ⟨q, rfl, hq0, hq1⟩, hown9⟩, hat9⟩ := HJ9
                  obtain ⟨A9, c9, e9⟩ := slice_of_own hown9
                  subst e9
                  have Ho9 := Lib.hid hown9
                  have Hat9 := Lib.hid hat9
                  have HE9' := Lib.hid HE9
                  have Hr9' := Lib.hid (Hr9.more (show P + 25000 + 1000 * os.length + 40 * k9 ≤ P + 25000 + 1000 * os.length + 500 by omega))
                  have hbx := (HE9.block gm zm hneN).trans HC.out.box
                  have q3 := blk_cell hbx 3
                  have q3f := blk_free hbx 3
                  have zq := blk_lt hbx
                  simp at q3
                  clear hown9 hat9 HE9 Hr9 hbx p0 p1 p2 p3 hk9' hi0 hz0 hz1 hz2
                  go_wp2_with fail
                  go_roundw
                  case rel =>
                    refine ⟨K - 1, os ++ [q], .slice A9 (os.length + 1) c9, by go_num, by omega, by simp <;> omega, Lib.hid fun q' hq => ?_, Lib.hid ?_, Lib.hid ?_, Lib.hid ?_, Lib.hid ?_⟩
                    · rcases List.mem_append.1 hq with h | h
                      · exact Hn3.out q' h
                      · rw [List.mem_singleton.1 h]
                        exact ⟨hq0, hq1⟩
                    · refine HC.out.addO (xs := os ++ [q]) HE9'.out (fun g hg hn => ?_) ?_ Hat9.out
                      · rintro (e | e)
                        · omega
                        · exact hn e
                      · rw [List.length_append, ints_snoc]
                        exact Ho9.out
                    · exact (rd_set Hr9'.out (by omega)).more (by simp <;> omega)
                    · exact only_set (HO.out.aft HE9'.out fun g hg => by
                        rcases hg with h | h
                        · exact .inr h
                        · exact .inl (by have := (HC.out.o.lt g h).1; omega)) (by omega)
                    · exact res_set ((HE9'.out.block _ (blk_lt HX.out) (fun e => by
                        rcases e with h | h
                        · omega
                        · have := (HC.out.o.lt _ h).1; omega)).trans HX.out) (by omega)
                  case measure => simp [intOf]; omega
                · obtain rfl : K = 0 := by omega
                  have hq := HC.out
                  have HSm : Hid (Small ⟨x, ns, gs, os⟩) := Lib.hid ⟨by simp only; omega, by simp only; omega, by simp only; omega, by simp only; omega, by simp only; omega, Hn2.out, HnG.out, Hn3.out⟩
                  obtain ⟨zm, p0, p1, p2, p3⟩ := hq.cells
                  obtain ⟨AN, cN, eN⟩ := slice_of_own hq.n
                  obtain ⟨AG, cG, eG⟩ := slice_of_own hq.g
                  obtain ⟨AO, cO, eO⟩ := slice_of_own hq.o
                  subst eN eG eO
                  have o0 := blk_cell HX.out 0
                  have o1 := blk_cell HX.out 1
                  have o2 := blk_cell HX.out 2
                  have o3 := blk_cell HX.out 3
                  have f0 := blk_free HX.out 0
                  have f1 := blk_free HX.out 1
                  have f2 := blk_free HX.out 2
                  have f3 := blk_free HX.out 3
                  have zr := blk_lt HX.out
                  simp at o0 o1 o2 o3
                  have hkg : w.heap.size < gm := by omega
                  clear hq
                  go_wp2_with fail
                  refine bodyPost_ret (v := .agg #[.int .i64 x, .slice AN ns.length cN, .slice AG gs.length cG, .slice AO os.length cO]) (by simp [results, Try.results102, go_sem, o0, o1, o2, o3]) rfl ?_
                  exact finC (P := P + 20000) HC.out HO.out Hr.out hkg zR (by omega) HSm.out _ _ _ _
  · obtain ⟨z, p0, p1, p2, p3⟩ := PCc3.out
    have o0 := blk_cell HX3.out 0
    have o1 := blk_cell HX3.out 1
    have o2 := blk_cell HX3.out 2
    have o3 := blk_cell HX3.out 3
    have f0 := blk_free HX3.out 0
    have f1 := blk_free HX3.out 1
    have f2 := blk_free HX3.out 2
    have f3 := blk_free HX3.out 3
    have zr := blk_lt HX3.out
    simp at o0 o1 o2 o3
    clear HCb3
    go_wp2_with fail
    refine bodyPost_ret (v := .agg #[.int .i64 c0.ins, .slice An c0.next.length cn, .slice Ag c0.gates.length cg, .slice Ao c0.outs.length co]) (by simp [results, Try.results102, go_sem, o0, o1, o2, o3]) rfl ⟨_, c0, rfl, ?_, HSc.out, ?_, ?_⟩
    · exact ((HCc3.out.setR (k := w.heap.size) (by omega)).mono (by omega))
    · exact (rd_set (rd_set (rd_set (rd_set Hr3.out zR) zR) zR) zR).more (by omega)
    · exact (only_set (only_set (only_set (only_set HO3.out (Nat.le_refl _)) (Nat.le_refl _)) (Nat.le_refl _)) (Nat.le_refl _)).grownBy
end Go.Proofs.Ytopimdakpnnbhaa

namespace Go.Proofs.Ytopimdakpnnbhaa
open Go.RowKit
set_option maxRecDepth 100000
/-! DrawInductive. -/
def DrawnInductive (w : World) (e : Ending) (w' : World) : Prop := ∃ v c, ∃ o k : Int, e = .returned (.tuple #[v, .int .i64 o, .int .i64 k]) ∧ OwnC w.heap.size v c w' ∧ -1 ≤ o ∧ o ≤ 7 ∧ 0 ≤ k ∧ k ≤ 4 ∧ Below w.heap.size w w'
set_option maxHeartbeats 8000000 in
theorem drawInductive_any (v : Value) (bs : List Int) (w : World) (h : Row w 1 v bs.length (bs.map (Value.int .u8))) (hb : ∀ x ∈ bs, (Lit.int .u8 x).wf = true) (hl : bs.length ≤ 1048576) :
    Calls Try.prog 52 #[v] w (DrawnInductive w) := by
  have H := Lib.hid h
  clear h
  have hX := heap_alloc_new w (.cells #[.int .i64 0, .slice none 0 0, .slice none 0 0, .slice none 0 0] 26)
  have HB0 := Lib.hid (bel_new w (.cells #[.int .i64 0, .slice none 0 0, .slice none 0 0, .slice none 0 0] 26))
  have hs : (w.alloc (.cells #[.int .i64 0, .slice none 0 0, .slice none 0 0, .slice none 0 0] 26)).heap.size = w.heap.size + 1 := by simp
  have HX := Lib.hid hX
  clear hX
  go_enter Try.func52, Try.ntmps52
  go_wp2_with fail
  have H0 := Lib.hid (H.out.alloc (.cells #[.int .i64 0, .slice none 0 0, .slice none 0 0, .slice none 0 0] 26))
  generalize w.alloc (.cells #[.int .i64 0, .slice none 0 0, .slice none 0 0, .slice none 0 0] 26) = W at *
  refine (open_any _ bs _ H0.out hb hl).mono ?_
  rintro e w1 ⟨rfl, hr1, hb1⟩
  rw [hs] at hr1
  have HZ1 := Lib.hid hr1.lt
  have Hr1 := Lib.hid hr1
  have Hb1 := Lib.hid (HB0.out.trans (hb1.mono HB0.out.size))
  have HX1 := Lib.hid ((hb1.block _ (by omega)).trans HX.out)
  clear hr1 hb1 HX HB0 H H0 hb hl
  go_wp2_with fail
  refine (l20Small_any _ 0 12 _ Hr1.out (by omega) (by omega) (by omega)).mono ?_
  rintro e w2 ⟨v2, c, rfl, hO, hS, hr2, hg2⟩
  have HX2 := Lib.hid (res_grown HX1.out hg2 (fun e => by have := Option.some.inj e; omega))
  have Hb2 := Lib.hid (Hb1.out.grown hg2 Hb1.out.size (fun k hk => by have := Option.some.inj hk; omega))
  have HO := Lib.hid hO
  obtain ⟨An, cn, Ag, cg, Ao, co, rfl⟩ := hO.shape
  obtain ⟨s1, s2, s3, s4, s5, -⟩ := hS
  have Hr2 := Lib.hid hr2
  have HZ2 := Lib.hid hg2.size
  clear hr2 hg2 hO HX1 Hb1 Hr1
  have hb3 := bel_new w2 (.cells #[.int .i64 c.ins, .slice An c.next.length cn, .slice Ag c.gates.length cg, .slice Ao c.outs.length co] 26)
  have HO3 := Lib.hid (HO.out.only (E := fun _ => False) (Only.of_below _ hb3) fun _ _ e => e)
  have HX3 := Lib.hid ((hb3.block _ (blk_lt HX2.out)).trans HX2.out)
  have Hr3 := Lib.hid (Hr2.out.alloc (.cells #[.int .i64 c.ins, .slice An c.next.length cn, .slice Ag c.gates.length cg, .slice Ao c.outs.length co] 26))
  have Hb3 := Lib.hid (Hb2.out.trans (hb3.mono Hb2.out.size))
  have HM3 := Lib.hid (heap_alloc_new w2 (.cells #[.int .i64 c.ins, .slice An c.next.length cn, .slice Ag c.gates.length cg, .slice Ao c.outs.length co] 26))
  have z3 : w2.heap.size < (w2.alloc (.cells #[.int .i64 c.ins, .slice An c.next.length cn, .slice Ag c.gates.length cg, .slice Ao c.outs.length co] 26)).heap.size := by simp
  obtain ⟨w3, hw3⟩ : ∃ w3, w2.alloc (.cells #[.int .i64 c.ins, .slice An c.next.length cn, .slice Ag c.gates.length cg, .slice Ao c.outs.length co] 26) = w3 := ⟨_, rfl⟩
  rw [hw3] at HO3 HX3 Hr3 Hb3 HM3 z3
  obtain ⟨gm, hgm⟩ : ∃ gm, w2.heap.size = gm := ⟨_, rfl⟩
  rw [hgm] at HM3 HZ2 z3
  clear HO HX2 Hr2 Hb2 hb3
  have hgm2 : w.heap.size + 1 < gm := Nat.lt_of_lt_of_le HZ1.out HZ2.out
  have hneM : ¬ (gm = w.heap.size + 1 ∨ gm = w.heap.size) := by omega
  have f0 := blk_cell HM3.out 0
  have f1 := blk_cell HM3.out 1
  have f2 := blk_cell HM3.out 2
  have f3 := blk_cell HM3.out 3
  simp at f0 f1 f2 f3
  by_cases h2 : c.ins ≤ 2
  · have hdc : decide ((2 : Int) < c.ins) = false := decide_eq_false (by omega)
    go_wp2_with fail
    clear hw3 hgm hdc
    have hO := fun ops a => rdStepRS_ok (Pg := Try.prog) (ops := ops) (P := (0 + 20000 + 10000)) (a := a) (R0 := fun w' => w'.heap[w.heap.size]? = some (.cells #[.int .i64 0, .slice none 0 0, .slice none 0 0, .slice none 0 0] 26 (0, 0))) (R1 := fun w' => w'.heap[w.heap.size]? = some (.cells #[.int .i64 c.ins, .slice An c.next.length cn, .slice Ag c.gates.length cg, .slice Ao c.outs.length co] 26 (0, 0))) (d := 10) Hr3.out.lt (blk_lt HX3.out) (fun w1 w2 h ho => blk_only h ho (by omega)) (fun w1 w2 h ho => blk_only h ho (by omega))
    refine wp_region_rs (rdStepRS Try.prog _ (w.heap.size + 1) (0 + 20000 + 10000) w3 _ w.heap.size _ _ 10) (hO _ _) (by kernel_rfl) (by kernel_rfl) (by kernel_rfl) (Nat.le_of_ble_eq_true rfl) Hr3.out HX3.out ?_
    apply rs_eq (hO _ _) (.inl (Nat.ne_of_beq_eq_false rfl))
    · intro ρ w' ho hK
      obtain ⟨h0, -⟩ := hK
      have h0' : ρ (.tmp 6) = .pointer (some ⟨gm, 0, none⟩) := h0
      have q0 := cell_on ho hneM z3 f0
      have q1 := cell_on ho hneM z3 f1
      have q2 := cell_on ho hneM z3 f2
      have q3 := cell_on ho hneM z3 f3
      go_simp
      try exact rfl
    refine rs_old (hO _ _) (.inl (Nat.ne_of_beq_eq_false rfl)) _ (.inl rfl) _ rfl rfl ?_
    apply rs_eq (hO _ _) (.inl (Nat.ne_of_beq_eq_false rfl))
    · intro ρ w' ho hK
      obtain ⟨h0, -⟩ := hK
      have h0' : ρ (.tmp 6) = .pointer (some ⟨gm, 0, none⟩) := h0
      go_simp
      try exact rfl
    apply rs_eq (hO _ _) (.inl (Nat.ne_of_beq_eq_false rfl))
    · intro ρ w' ho hK
      obtain ⟨h0, -⟩ := hK
      have h0' : ρ (.tmp 18) = .pointer (some ⟨gm, 3, none⟩) := h0
      have q3 := cell_on ho hneM z3 f3
      go_simp
      try exact rfl
    apply rs_eq (hO _ _) (.inl (Nat.ne_of_beq_eq_false rfl))
    · intro ρ w' ho hK
      obtain ⟨h0, -⟩ := hK
      have h0' : ρ (.tmp 19) = .slice Ao c.outs.length co := h0
      go_simp
      try exact rfl
    apply rs_eq (hO _ _) (.inl (Nat.ne_of_beq_eq_false rfl))
    · intro ρ w' ho hK
      obtain ⟨h0, h1, -⟩ := hK
      have h0' : ρ (.tmp 20) = .int .i64 c.outs.length := h0
      have h1' : ρ (.const (.int .i64 2)) = .int .i64 2 := h1
      have hwr := IntWalk.i64_in ((c.outs.length : Int) + 2) (by omega)
      go_simp
      try exact rfl
    refine rs_pick (hO _ _) (.inl (Nat.ne_of_beq_eq_false rfl)) 83 _ _ _ (w.heap.size + 1) (0 + 20000 + 10000) 8 rfl rfl fn_draw (fun ρ w hK => ⟨hK.1, hK.2.1, (c.outs.length : Int) + 2, hK.2.2.1, by omega, by omega⟩) (fun n k w hk h1n hn hr => pick_upto n 8 _ _ w hr (by have hk' : k < 13 := hk; omega) h1n hn (by omega)) ?_
    refine rs_pure (hO _ _) (.inl (Nat.ne_of_beq_eq_false rfl)) (TInt (-1) 7) (stb_int _ _ _) (fun ρ w hK => by
      obtain ⟨⟨q, h0, h1, h2⟩, h3, -⟩ := hK
      have h0' : ρ (.tmp 22) = .int .i64 q := h0
      have h2' : q ≤ 8 := h2
      have h3' : ρ (.const (.int .i64 1)) = .int .i64 1 := h3
      have hwr := IntWalk.i64_in (q - 1) (by omega)
      refine ⟨.int .i64 (q - 1), ?_, _, rfl, by omega, by omega⟩
      go_simp) ?_
    refine rs_old (hO _ _) (.inl (Nat.ne_of_beq_eq_false rfl)) _ (.inl rfl) _ rfl rfl ?_
    refine rs_pick (hO _ _) (.inl (Nat.ne_of_beq_eq_false rfl)) 83 _ _ _ (w.heap.size + 1) (0 + 20000 + 10000) 4 rfl rfl fn_draw (fun ρ w hK => ⟨hK.1, hK.2.1, 5, hK.2.2.1, by omega, by omega⟩) (fun n k w hk h1n hn hr => pick_upto n 4 _ _ w hr (by have hk' : k < 13 := hk; omega) h1n hn (by omega)) ?_
    refine rs_doR rfl rfl (w.heap.size + 1) (0 + 20000 + 10000) rfl (fun ρ w' ho h0 hK => by
      obtain ⟨h1, h2, -⟩ := hK
      have h1' : ρ (.tmp 2) = .pointer (some ⟨w.heap.size, 0, none⟩) := h1
      have h2' : ρ (.tmp 16) = .agg #[.int .i64 c.ins, .slice An c.next.length cn, .slice Ag c.gates.length cg, .slice Ao c.outs.length co] := h2
      have h0' : w'.heap[w.heap.size]? = some (.cells #[.int .i64 0, .slice none 0 0, .slice none 0 0, .slice none 0 0] 26 (0, 0)) := h0
      have o0 := blk_cell h0' 0
      have o1 := blk_cell h0' 1
      have o2 := blk_cell h0' 2
      have o3 := blk_cell h0' 3
      have b0 := blk_free h0' 0
      have b1 := blk_free h0' 1
      have b2 := blk_free h0' 2
      have b3 := blk_free h0' 3
      have zr := blk_lt h0'
      simp at o0 o1 o2 o3
      refine ⟨setR w' w.heap.size (.int .i64 c.ins) (.slice An c.next.length cn) (.slice Ag c.gates.length cg) (.slice Ao c.outs.length co), ?_, setR_box h0', setR_only (.inr rfl), fun Q hQ => rd_only_k hQ (zero_no h0') (by omega) (setR_only rfl)⟩
      unfold setR
      go_simp) ?_
    refine rs_same (hO _ _) (.inl (Nat.ne_of_beq_eq_false rfl)) 23 7 (.inr rfl) rfl _ rfl ?_
    refine rs_same (hO _ _) (.inl (Nat.ne_of_beq_eq_false rfl)) 25 9 (.inr rfl) rfl _ rfl ?_
    intro f w9 k9 hk9 hI9 ht9 hcp9
    have E0 : f 0 = _ := ht9 0 (Nat.le_of_ble_eq_true rfl)
    have E1 : f 1 = _ := ht9 1 (Nat.le_of_ble_eq_true rfl)
    have E2 : f 2 = _ := ht9 2 (Nat.le_of_ble_eq_true rfl)
    have E3 : f 3 = _ := ht9 3 (Nat.le_of_ble_eq_true rfl)
    have E4 : f 4 = _ := ht9 4 (Nat.le_of_ble_eq_true rfl)
    have E5 : f 5 = _ := ht9 5 (Nat.le_of_ble_eq_true rfl)
    have E8 : f 8 = _ := ht9 8 (Nat.le_of_ble_eq_true rfl)
    obtain ⟨x, hx, hx1, hx2⟩ : (TInt (-1) 7) w9 (f 7) := ht9 7 (Nat.le_of_ble_eq_true rfl)
    obtain ⟨y, hy, hy1, hy2⟩ : (TInt 0 4) w9 (f 9) := ht9 9 (Nat.le_of_ble_eq_true rfl)
    have C11 : f 11 = f 7 := (hcp9 11 _ 23 7 rfl rfl rfl rfl).2
    have C12 : f 12 = f 9 := (hcp9 12 _ 25 9 rfl rfl rfl rfl).2
    have HE9 : Only (fun g => g = w.heap.size + 1 ∨ g = w.heap.size) w3 w9 := hI9.2.1
    have HR9 : w9.heap[w.heap.size]? = some (.cells #[.int .i64 c.ins, .slice An c.next.length cn, .slice Ag c.gates.length cg, .slice Ao c.outs.length co] 26 (0, 0)) := hI9.2.2
    simp only [putAll, E0, E1, E2, E3, E4, E5, E8, C11, C12, hx, hy, Nat.zero_add, Nat.reduceAdd, Act.put, List.setIfInBounds_toArray, List.set_cons_succ, List.set_cons_zero]
    clear E0 E1 E2 E3 E4 E5 E8 hI9 ht9 hcp9 hk9 hO
    clear C11 C12 hx hy
    generalize f 6 = r6, f 10 = r10 at *
    have o0 := blk_cell HR9 0
    have o1 := blk_cell HR9 1
    have o2 := blk_cell HR9 2
    have o3 := blk_cell HR9 3
    have zr := blk_lt HR9
    simp at o0 o1 o2 o3
    have HOF := Lib.hid ((HO3.out.only HE9 (fun g hg => by have := HZ1.out; omega)).mono (show w.heap.size ≤ w1.heap.size by have := HZ1.out; omega))
    have HBF := Lib.hid (Only.below Hb3.out HE9 (Nat.le_trans Hb3.out.size (Nat.le_refl _)) (fun g hg => by omega))
    clear HE9 HR9 HO3 HX3 Hr3 Hb3 HM3 f0 f1 f2 f3
    go_wp2_with fail
    refine bodyPost_ret (v := .tuple #[.agg #[.int .i64 c.ins, .slice An c.next.length cn, .slice Ag c.gates.length cg, .slice Ao c.outs.length co], .int .i64 x, .int .i64 y]) (by simp [results, Try.results52, go_sem, o0, o1, o2, o3]) rfl ⟨_, c, x, y, rfl, HOF.out, by omega, by omega, by omega, by omega, HBF.out⟩
  · have hdc : decide ((2 : Int) < c.ins) = true := decide_eq_true (by omega)
    go_wp2_with fail
    clear hw3 hgm hdc h2
    refine (l20Small_any _ (0 + 20000 + 10000) 0 _ Hr3.out (by omega) (by omega) (by omega)).mono ?_
    rintro e w4 ⟨v4, c2, rfl, hO, hS, hr4, hg4⟩
    have HX4 := Lib.hid (res_grown HX3.out hg4 (fun e => by have := Option.some.inj e; omega))
    have HM4 := Lib.hid (res_grown HM3.out hg4 (fun e => by have := Option.some.inj e; omega))
    have Hb4 := Lib.hid (Hb3.out.grown hg4 Hb3.out.size (fun k hk => by have := Option.some.inj hk; omega))
    have HO4 := Lib.hid hO
    have Hr4 := Lib.hid hr4
    have hz4 := hg4.size
    clear f0 f1 f2 f3 HO3 HM3 HX3 Hr3 Hb3 s1 s2 s3 s4 s5
    obtain ⟨Bn, bn, Bg, bg, Bo, bo, rfl⟩ := hO.shape
    obtain ⟨s1, s2, s3, s4, s5, -⟩ := hS
    clear hr4 hg4 hO
    have o0 := blk_cell HM4.out 0
    have o1 := blk_cell HM4.out 1
    have o2 := blk_cell HM4.out 2
    have o3 := blk_cell HM4.out 3
    have e0 := blk_free HM4.out 0
    have e1 := blk_free HM4.out 1
    have e2 := blk_free HM4.out 2
    have e3 := blk_free HM4.out 3
    have zq := blk_lt HM4.out
    simp at o0 o1 o2 o3
    have HO5 := Lib.hid (HO4.out.setR (k := gm) (a := .int .i64 c2.ins) (b := .slice Bn c2.next.length bn) (d := .slice Bg c2.gates.length bg) (e := .slice Bo c2.outs.length bo) z3)
    have HM5 := Lib.hid (setR_box (a := .int .i64 c2.ins) (b := .slice Bn c2.next.length bn) (c := .slice Bg c2.gates.length bg) (d := .slice Bo c2.outs.length bo) HM4.out)
    have HE5 := setR_only (E := (· = gm)) (w := w4) (k := gm) (a := .int .i64 c2.ins) (b := .slice Bn c2.next.length bn) (c := .slice Bg c2.gates.length bg) (d := .slice Bo c2.outs.length bo) rfl
    have HX5 := Lib.hid (blk_only HX4.out HE5 (by omega))
    have Hr5 := Lib.hid (show Rd (setR w4 gm (.int .i64 c2.ins) (.slice Bn c2.next.length bn) (.slice Bg c2.gates.length bg) (.slice Bo c2.outs.length bo)) (w.heap.size + 1) (0 + 20000 + 10000 + 20000 + 10000) from rd_set (rd_set (rd_set (rd_set Hr4.out (by omega)) (by omega)) (by omega)) (by omega))
    have Hb5 := Lib.hid (below_setR (a := .int .i64 c2.ins) (b := .slice Bn c2.next.length bn) (c := .slice Bg c2.gates.length bg) (d := .slice Bo c2.outs.length bo) Hb4.out (show w.heap.size ≤ gm by omega))
    have zs5 : gm < (setR w4 gm (.int .i64 c2.ins) (.slice Bn c2.next.length bn) (.slice Bg c2.gates.length bg) (.slice Bo c2.outs.length bo)).heap.size := blk_lt HM5.out
    have f0 := blk_cell HM5.out 0
    have f1 := blk_cell HM5.out 1
    have f2 := blk_cell HM5.out 2
    have f3 := blk_cell HM5.out 3
    simp at f0 f1 f2 f3
    clear HX4 HM4 Hb4 HO4 Hr4 HE5
    go_wp2_with fail
    rw [show (((w4.setCell ⟨gm, 0, none⟩ (.int .i64 c2.ins)).setCell ⟨gm, 1, none⟩ (.slice Bn c2.next.length bn)).setCell ⟨gm, 2, none⟩ (.slice Bg c2.gates.length bg)).setCell ⟨gm, 3, none⟩ (.slice Bo c2.outs.length bo) = setR w4 gm (.int .i64 c2.ins) (.slice Bn c2.next.length bn) (.slice Bg c2.gates.length bg) (.slice Bo c2.outs.length bo) from rfl]
    generalize setR w4 gm (.int .i64 c2.ins) (.slice Bn c2.next.length bn) (.slice Bg c2.gates.length bg) (.slice Bo c2.outs.length bo) = w5 at *
    clear o0 o1 o2 o3 e0 e1 e2 e3 zq
    have hO := fun ops a => rdStepRS_ok (Pg := Try.prog) (ops := ops) (P := (0 + 20000 + 10000 + 20000 + 10000)) (a := a) (R0 := fun w' => w'.heap[w.heap.size]? = some (.cells #[.int .i64 0, .slice none 0 0, .slice none 0 0, .slice none 0 0] 26 (0, 0))) (R1 := fun w' => w'.heap[w.heap.size]? = some (.cells #[.int .i64 c2.ins, .slice Bn c2.next.length bn, .slice Bg c2.gates.length bg, .slice Bo c2.outs.length bo] 26 (0, 0))) (d := 10) Hr5.out.lt (blk_lt HX5.out) (fun w1 w2 h ho => blk_only h ho (by omega)) (fun w1 w2 h ho => blk_only h ho (by omega))
    refine wp_region_rs (rdStepRS Try.prog _ (w.heap.size + 1) (0 + 20000 + 10000 + 20000 + 10000) w5 _ w.heap.size _ _ 10) (hO _ _) (by kernel_rfl) (by kernel_rfl) (by kernel_rfl) (Nat.le_of_ble_eq_true rfl) Hr5.out HX5.out ?_
    apply rs_eq (hO _ _) (.inl (Nat.ne_of_beq_eq_false rfl))
    · intro ρ w' ho hK
      obtain ⟨h0, -⟩ := hK
      have h0' : ρ (.tmp 6) = .pointer (some ⟨gm, 0, none⟩) := h0
      have q0 := cell_on ho hneM zs5 f0
      have q1 := cell_on ho hneM zs5 f1
      have q2 := cell_on ho hneM zs5 f2
      have q3 := cell_on ho hneM zs5 f3
      go_simp
      try exact rfl
    refine rs_old (hO _ _) (.inl (Nat.ne_of_beq_eq_false rfl)) _ (.inl rfl) _ rfl rfl ?_
    apply rs_eq (hO _ _) (.inl (Nat.ne_of_beq_eq_false rfl))
    · intro ρ w' ho hK
      obtain ⟨h0, -⟩ := hK
      have h0' : ρ (.tmp 6) = .pointer (some ⟨gm, 0, none⟩) := h0
      go_simp
      try exact rfl
    apply rs_eq (hO _ _) (.inl (Nat.ne_of_beq_eq_false rfl))
    · intro ρ w' ho hK
      obtain ⟨h0, -⟩ := hK
      have h0' : ρ (.tmp 18) = .pointer (some ⟨gm, 3, none⟩) := h0
      have q3 := cell_on ho hneM zs5 f3
      go_simp
      try exact rfl
    apply rs_eq (hO _ _) (.inl (Nat.ne_of_beq_eq_false rfl))
    · intro ρ w' ho hK
      obtain ⟨h0, -⟩ := hK
      have h0' : ρ (.tmp 19) = .slice Bo c2.outs.length bo := h0
      go_simp
      try exact rfl
    apply rs_eq (hO _ _) (.inl (Nat.ne_of_beq_eq_false rfl))
    · intro ρ w' ho hK
      obtain ⟨h0, h1, -⟩ := hK
      have h0' : ρ (.tmp 20) = .int .i64 c2.outs.length := h0
      have h1' : ρ (.const (.int .i64 2)) = .int .i64 2 := h1
      have hwr := IntWalk.i64_in ((c2.outs.length : Int) + 2) (by omega)
      go_simp
      try exact rfl
    refine rs_pick (hO _ _) (.inl (Nat.ne_of_beq_eq_false rfl)) 83 _ _ _ (w.heap.size + 1) (0 + 20000 + 10000 + 20000 + 10000) 8 rfl rfl fn_draw (fun ρ w hK => ⟨hK.1, hK.2.1, (c2.outs.length : Int) + 2, hK.2.2.1, by omega, by omega⟩) (fun n k w hk h1n hn hr => pick_upto n 8 _ _ w hr (by have hk' : k < 13 := hk; omega) h1n hn (by omega)) ?_
    refine rs_pure (hO _ _) (.inl (Nat.ne_of_beq_eq_false rfl)) (TInt (-1) 7) (stb_int _ _ _) (fun ρ w hK => by
      obtain ⟨⟨q, h0, h1, h2⟩, h3, -⟩ := hK
      have h0' : ρ (.tmp 22) = .int .i64 q := h0
      have h2' : q ≤ 8 := h2
      have h3' : ρ (.const (.int .i64 1)) = .int .i64 1 := h3
      have hwr := IntWalk.i64_in (q - 1) (by omega)
      refine ⟨.int .i64 (q - 1), ?_, _, rfl, by omega, by omega⟩
      go_simp) ?_
    refine rs_old (hO _ _) (.inl (Nat.ne_of_beq_eq_false rfl)) _ (.inl rfl) _ rfl rfl ?_
    refine rs_pick (hO _ _) (.inl (Nat.ne_of_beq_eq_false rfl)) 83 _ _ _ (w.heap.size + 1) (0 + 20000 + 10000 + 20000 + 10000) 4 rfl rfl fn_draw (fun ρ w hK => ⟨hK.1, hK.2.1, 5, hK.2.2.1, by omega, by omega⟩) (fun n k w hk h1n hn hr => pick_upto n 4 _ _ w hr (by have hk' : k < 13 := hk; omega) h1n hn (by omega)) ?_
    refine rs_doR rfl rfl (w.heap.size + 1) (0 + 20000 + 10000 + 20000 + 10000) rfl (fun ρ w' ho h0 hK => by
      obtain ⟨h1, h2, -⟩ := hK
      have h1' : ρ (.tmp 2) = .pointer (some ⟨w.heap.size, 0, none⟩) := h1
      have h2' : ρ (.tmp 16) = .agg #[.int .i64 c2.ins, .slice Bn c2.next.length bn, .slice Bg c2.gates.length bg, .slice Bo c2.outs.length bo] := h2
      have h0' : w'.heap[w.heap.size]? = some (.cells #[.int .i64 0, .slice none 0 0, .slice none 0 0, .slice none 0 0] 26 (0, 0)) := h0
      have o0 := blk_cell h0' 0
      have o1 := blk_cell h0' 1
      have o2 := blk_cell h0' 2
      have o3 := blk_cell h0' 3
      have b0 := blk_free h0' 0
      have b1 := blk_free h0' 1
      have b2 := blk_free h0' 2
      have b3 := blk_free h0' 3
      have zr := blk_lt h0'
      simp at o0 o1 o2 o3
      refine ⟨setR w' w.heap.size (.int .i64 c2.ins) (.slice Bn c2.next.length bn) (.slice Bg c2.gates.length bg) (.slice Bo c2.outs.length bo), ?_, setR_box h0', setR_only (.inr rfl), fun Q hQ => rd_only_k hQ (zero_no h0') (by omega) (setR_only rfl)⟩
      unfold setR
      go_simp) ?_
    refine rs_same (hO _ _) (.inl (Nat.ne_of_beq_eq_false rfl)) 23 7 (.inr rfl) rfl _ rfl ?_
    refine rs_same (hO _ _) (.inl (Nat.ne_of_beq_eq_false rfl)) 25 9 (.inr rfl) rfl _ rfl ?_
    intro f w9 k9 hk9 hI9 ht9 hcp9
    have E0 : f 0 = _ := ht9 0 (Nat.le_of_ble_eq_true rfl)
    have E1 : f 1 = _ := ht9 1 (Nat.le_of_ble_eq_true rfl)
    have E2 : f 2 = _ := ht9 2 (Nat.le_of_ble_eq_true rfl)
    have E3 : f 3 = _ := ht9 3 (Nat.le_of_ble_eq_true rfl)
    have E4 : f 4 = _ := ht9 4 (Nat.le_of_ble_eq_true rfl)
    have E5 : f 5 = _ := ht9 5 (Nat.le_of_ble_eq_true rfl)
    have E8 : f 8 = _ := ht9 8 (Nat.le_of_ble_eq_true rfl)
    obtain ⟨x, hx, hx1, hx2⟩ : (TInt (-1) 7) w9 (f 7) := ht9 7 (Nat.le_of_ble_eq_true rfl)
    obtain ⟨y, hy, hy1, hy2⟩ : (TInt 0 4) w9 (f 9) := ht9 9 (Nat.le_of_ble_eq_true rfl)
    have C11 : f 11 = f 7 := (hcp9 11 _ 23 7 rfl rfl rfl rfl).2
    have C12 : f 12 = f 9 := (hcp9 12 _ 25 9 rfl rfl rfl rfl).2
    have HE9 : Only (fun g => g = w.heap.size + 1 ∨ g = w.heap.size) w5 w9 := hI9.2.1
    have HR9 : w9.heap[w.heap.size]? = some (.cells #[.int .i64 c2.ins, .slice Bn c2.next.length bn, .slice Bg c2.gates.length bg, .slice Bo c2.outs.length bo] 26 (0, 0)) := hI9.2.2
    simp only [putAll, E0, E1, E2, E3, E4, E5, E8, C11, C12, hx, hy, Nat.zero_add, Nat.reduceAdd, Act.put, List.setIfInBounds_toArray, List.set_cons_succ, List.set_cons_zero]
    clear E0 E1 E2 E3 E4 E5 E8 hI9 ht9 hcp9 hk9 hO
    clear C11 C12 hx hy
    generalize f 6 = r6, f 10 = r10 at *
    have o0 := blk_cell HR9 0
    have o1 := blk_cell HR9 1
    have o2 := blk_cell HR9 2
    have o3 := blk_cell HR9 3
    have zr := blk_lt HR9
    simp at o0 o1 o2 o3
    have HOF := Lib.hid ((HO5.out.only HE9 (fun g hg => by have := HZ1.out; omega)).mono (show w.heap.size ≤ w3.heap.size by have := HZ1.out; omega))
    have HBF := Lib.hid (Only.below Hb5.out HE9 (Nat.le_trans Hb5.out.size (Nat.le_refl _)) (fun g hg => by omega))
    clear HE9 HR9 HO5 HX5 Hr5 Hb5 HM5 f0 f1 f2 f3
    go_wp2_with fail
    refine bodyPost_ret (v := .tuple #[.agg #[.int .i64 c2.ins, .slice Bn c2.next.length bn, .slice Bg c2.gates.length bg, .slice Bo c2.outs.length bo], .int .i64 x, .int .i64 y]) (by simp [results, Try.results52, go_sem, o0, o1, o2, o3]) rfl ⟨_, c2, x, y, rfl, HOF.out, by omega, by omega, by omega, by omega, HBF.out⟩
end Go.Proofs.Ytopimdakpnnbhaa

namespace Go.Proofs.Ytopimdakpnnbhaa
open Go.RowKit Go.Maps
set_option maxRecDepth 100000
/-! The round over a set, in whatever order. -/
/-- Block r runs over the set S in block b; L: what is still to come. -/
def RSet (w : World) (b r n : Nat) (S L : Nat → Bool) (cnt : Nat) : Prop :=
  ∃ (D : DataW Unit) (left : Lit → Bool), w.ranges Try.prog 3 (plainElem Try.prog 4) b r n D left cnt ∧ IsMap D ∧ (∀ x : Nat, D.atKey (.int .i64 (x : Int)) (.lit (.bool false)) = .lit (.bool (S x))) ∧ (∀ x : Nat, left (.int .i64 (x : Int)) = L x) ∧ (∀ kl, left kl = true → ∃ x : Nat, kl = .int .i64 (x : Int) ∧ S x = true ∧ (x : Int) ≤ 9223372036854775807)
theorem RSet.kept {w w' : World} {b r n : Nat} {S L : Nat → Bool} {cnt : Nat} {row : Option Nat} (h : RSet w b r n S L cnt) (hg : w.grownBy w' row) (hb : some b ≠ row) (hr : some r ≠ row) : RSet w' b r n S L cnt := by
  obtain ⟨D, left, h1, h2⟩ := h
  exact ⟨D, left, h1.kept hg hb hr, h2⟩
theorem RSet.below {w w' : World} {b r n : Nat} {S L : Nat → Bool} {cnt : Nat} (h : RSet w b r n S L cnt) (hb : Below w.heap.size w w') : RSet w' b r n S L cnt :=
  h.kept (row := none) ⟨hb.os, hb.tape, hb.output, hb.size, fun k hk _ => hb.block k hk⟩ (by simp) (by simp)
theorem RSet.left {w : World} {b r n : Nat} {S L : Nat → Bool} {cnt : Nat} (h : RSet w b r n S L cnt) : w.rangeLeft b r = cnt := by
  obtain ⟨D, left, h1, _⟩ := h
  exact h1.left_eq
theorem RSet.lt {w : World} {b r n : Nat} {S L : Nat → Bool} {cnt : Nat} (h : RSet w b r n S L cnt) : r < w.heap.size ∧ b < w.heap.size ∧ r ≠ b := by
  obtain ⟨D, left, h1, _⟩ := h
  exact ⟨h1.lt, h1.owns.lt, h1.ne⟩
section
variable {ops : Array Oper} {rest : List Oper} {o : Oper} {a : Act} {Q : Exit → Act → World → Prop} {w : World}
theorem wpList_range_set (hg : o.guard = none) (m : Operand) (hop : o.op = Op.range 96 m) (b n : Nat) (S : Nat → Bool) (hm : a.eval m = .map (some b)) (h : SetAt w b n S)
    (hK : ∀ w' cnt, RSet w' b w.heap.size n S S cnt → Below w.heap.size w w' → w'.heap.size = w.heap.size + 1 → wpList Try.prog ops Q rest (a.put o.dst (.pointer (some ⟨w.heap.size, 0, none⟩))) w') : wpList Try.prog ops Q (o :: rest) a w := by
  obtain ⟨D, h1, h2, h3, h4, h5⟩ := h
  refine wpList_range_own w hg m _ hop _ _ set_keyed Try.underlying96 _ b n D hm h1 fun w' r1 r2 r3 => hK w' _ ⟨D, _, r1, h2, h3, fun x => ?_, h4⟩ ⟨r2.os, r2.tape, r2.output, r2.size, fun k hk => r2.block k hk (by simp)⟩ r3
  cases hs : S x
  · cases hh : Maps.has D (.int .i64 (x : Int))
    · rfl
    · obtain ⟨y, e, hy, _⟩ := h4 _ hh
      injection e with _ e
      have : x = y := by omega
      subst this
      rw [hs] at hy; cases hy
  · exact h5 x hs
theorem wpList_next_set (hg : o.guard = none) (it : Operand) (hop : o.op = Op.next it false) (b r n : Nat) (S L : Nat → Bool) (cnt : Nat) (hit : a.eval it = .pointer (some ⟨r, 0, none⟩)) (h : RSet w b r n S L cnt)
    (hDone : (∀ x, L x = false) → wpList Try.prog ops Q rest (a.put o.dst (.tuple #[.bool false])) w)
    (hMore : ∀ (x : Nat) (c : Bool) (w' : World) (cnt' : Nat), S x = true → L x = true → RSet w' b r n S (fun z => L z && !(z == x)) cnt' → cnt' < cnt → w.grownBy w' (some r) → w'.heap.size = w.heap.size →
      (Instr.entry (.pointer (some ⟨r, 0, none⟩))).run Try.prog w' = .ok (.tuple #[.int .i64 (x : Int), .bool c]) w' → wpList Try.prog ops Q rest (a.put o.dst (.tuple #[.bool true, .int .i64 (x : Int), .bool c])) w') : wpList Try.prog ops Q (o :: rest) a w := by
  obtain ⟨D, left, h1, h2, h3, h4, h5⟩ := h
  refine wpList_next_ranges w hg it hop _ set_keyed (plainElem Try.prog 4) (Value.int .i64) Value.bool (fun key kl hkey => ?_) (fun v y hv => ?_) b r n D left cnt hit h1 (fun h0 hl => hDone fun x => by rw [← h4 x]; exact hl _) (fun x c kl y w' cnt' hkey hlk hv hat hrg hlt hgr hsz hen => ?_)
  · obtain ⟨x, rfl, _⟩ := Maps.keyOf_int_inv Try.underlying3 hkey; exact ⟨x, rfl⟩
  · unfold plainElem at hv
    rw [Try.underlying4] at hv
    cases v <;> simp at hv
    exact ⟨_, rfl⟩
  · obtain ⟨x', ex, rfl, hwx⟩ := Maps.keyOf_int_inv Try.underlying3 hkey
    cases ex
    obtain ⟨m, e, hm, hmx⟩ := h5 _ hlk
    injection e with _ e
    subst e
    refine hMore m c w' cnt' hm (by rw [← h4 m]; exact hlk) ⟨D, _, hrg, h2, h3, fun z => ?_, fun kl hk => h5 kl ((Bool.and_eq_true _ _).mp hk).1⟩ hlt hgr hsz hen
    rw [h4 z]
    congr 1
    simp only [Lit.sameKey]
    rw [Bool.eq_iff_iff]
    simp
    omega
end
end Go.Proofs.Ytopimdakpnnbhaa

namespace Go.Proofs.Ytopimdakpnnbhaa
open Go.RowKit
set_option maxRecDepth 100000
/-! The states behind a clock cycle, by the program. -/
namespace Cir
def reachJ (c : Ci) (o s j y : Nat) : Bool := (List.range j).any fun x => !bad c o s x && nextOf c s x == y
def goodJ (c : Ci) (o s j : Nat) : Bool := (List.range j).all fun x => !bad c o s x
theorem reachJ_succ (c : Ci) (o s j y : Nat) : reachJ c o s (j + 1) y = (reachJ c o s j y || (!bad c o s j && nextOf c s j == y)) := by
  unfold reachJ; rw [List.range_succ, List.any_append]; simp
theorem goodJ_succ (c : Ci) (o s j : Nat) : goodJ c o s (j + 1) = (goodJ c o s j && !bad c o s j) := by
  unfold goodJ; rw [List.range_succ, List.all_append]; simp
/-- What has been done of a set. -/
def done (S L : Nat → Bool) (s : Nat) : Bool := S s && !L s
theorem done_self (S : Nat → Bool) (s : Nat) : done S S s = false := by unfold done; cases S s <;> rfl
theorem done_strike {S L : Nat → Bool} {x : Nat} (hS : S x = true) (s : Nat) : done S (fun z => L z && !(z == x)) s = (done S L s || s == x) := by
  unfold done
  by_cases e : s = x
  · subst e; rw [hS]; simp
  · have : (s == x) = false := by simpa using e
    show (S s && !(L s && !(s == x))) = _
    rw [this]; cases S s <;> cases L s <;> rfl
theorem adv_congr {c : Ci} {o : Nat} {S S' : Nat → Bool} (h : ∀ s, S s = S' s) (y : Nat) : adv c o S y = adv c o S' y := by
  have : S = S' := funext h
  rw [this]
theorem good_congr {c : Ci} {o : Nat} {S S' : Nat → Bool} (h : ∀ s, S s = S' s) : good c o S = good c o S' := by
  have : S = S' := funext h
  rw [this]
theorem adv_none (c : Ci) (o : Nat) (y : Nat) : adv c o (fun _ => false) y = false := by
  unfold adv; simp
theorem good_none (c : Ci) (o : Nat) : good c o (fun _ => false) = true := by
  unfold good; simp
theorem adv_add {c : Ci} {o : Nat} {D : Nat → Bool} {x : Nat} (hx : x < 8) (y : Nat) : adv c o (fun s => D s || s == x) y = (adv c o D y || reachJ c o x (2 ^ c.ins) y) := by
  rw [Bool.eq_iff_iff, Bool.or_eq_true]
  unfold adv reachJ reaches
  simp only [List.any_eq_true, List.mem_range, Bool.and_eq_true, Bool.or_eq_true, beq_iff_eq]
  constructor
  · rintro ⟨s, hs, h1 | rfl, h2⟩
    · exact .inl ⟨s, hs, h1, h2⟩
    · exact .inr h2
  · rintro (⟨s, hs, h1, h2⟩ | h)
    · exact ⟨s, hs, .inl h1, h2⟩
    · exact ⟨x, hx, .inr rfl, h⟩
theorem good_add {c : Ci} {o : Nat} {D : Nat → Bool} {x : Nat} (hx : x < 8) : good c o (fun s => D s || s == x) = (good c o D && goodJ c o x (2 ^ c.ins)) := by
  rw [Bool.eq_iff_iff, Bool.and_eq_true]
  unfold good goodJ goodS
  simp only [List.all_eq_true, List.mem_range, Bool.or_eq_true, Bool.not_eq_true', beq_iff_eq]
  constructor
  · intro h
    refine ⟨fun s hs => ?_, fun y hy => ?_⟩
    · rcases h s hs with h1 | h1
      · left; rw [Bool.or_eq_false_iff] at h1; exact h1.1
      · exact .inr h1
    · rcases h x hx with h1 | h1
      · rw [Bool.or_eq_false_iff] at h1; simp at h1
      · exact h1 y hy
  · rintro ⟨h1, h2⟩ s hs
    by_cases e : s = x
    · subst e; exact .inr h2
    · rcases h1 s hs with h3 | h3
      · left; rw [h3]; simpa using e
      · exact .inr h3
theorem filter_strike : ∀ (l : List Nat) (L : Nat → Bool) (x : Nat), x ∈ l → L x = true → (l.filter (fun z => L z && !(z == x))).length + 1 ≤ (l.filter L).length
  | [], _, _, h, _ => by simp at h
  | a :: l, L, x, h, hL => by
    have mono : ∀ l : List Nat, (l.filter (fun z => L z && !(z == x))).length ≤ (l.filter L).length := fun l => by
      induction l with
      | nil => simp
      | cons b l ih =>
        simp only [List.filter_cons]
        cases hb : L b <;> cases hx : (b == x) <;> simp <;> omega
    by_cases e : a = x
    · subst e
      have h1 := mono l
      simp only [List.filter_cons, hL]
      simp
      omega
    · have h2 : x ∈ l := by
        rcases List.mem_cons.1 h with h3 | h3
        · exact absurd h3.symm e
        · exact h3
      have h1 := filter_strike l L x h2 hL
      have e' : (a == x) = false := by simpa using e
      simp only [List.filter_cons, e']
      cases hb : L a <;> simp <;> omega
def cntL (L : Nat → Bool) : Nat := ((List.range 8).filter L).length
theorem cntL_le (L : Nat → Bool) : cntL L ≤ 8 := by
  unfold cntL
  have := List.length_filter_le L (List.range 8)
  simpa using this
theorem cntL_strike {L : Nat → Bool} {x : Nat} (hx : x < 8) (hL : L x = true) : cntL (fun z => L z && !(z == x)) + 1 ≤ cntL L := filter_strike _ L x (List.mem_range.2 hx) hL
end Cir
def Adv (d : Ci) (o : Nat) (S : Nat → Bool) (w : World) (e : Ending) (w' : World) : Prop := ∃ mb n', e = .returned (.tuple #[.map (some mb), .bool (Cir.good d o S)]) ∧ SetAt w' mb n' (Cir.adv d o S) ∧ n' ≤ 200 ∧ Below w.heap.size w w'
set_option maxHeartbeats 8000000 in
theorem advance_any (g b n : Nat) (d : Ci) (o : Nat) (S : Nat → Bool) (w : World) (h : PCirc w g (Cir.toCz d)) (hd : Cir.Ok d) (ho : o < d.outs.length) (hS : SetAt w b n S) (hS8 : ∀ x, S x = true → x < 8) :
    Calls Try.prog 103 #[.pointer (some ⟨g, 0, none⟩), .int .i64 o, .map (some b)] w (Adv d o S w) := by
  have l1 := hd.ins
  have l2 := hd.nexts
  have l4 := hd.outss
  have HP := Lib.hid h
  obtain ⟨vn, vg, vo, hg, c0, c1, c2, c3, r1, r2, r3⟩ := h
  have C0 : Hid (w.cell? ⟨g, 0, none⟩ = some (.int .i64 d.ins)) := Lib.hid c0
  have Hd := Lib.hid hd
  have Ho := Lib.hid ho
  have HS8 := Lib.hid hS8
  have hbl := hS.lt
  have ho3 : o ≤ 3 := by omega
  obtain ⟨M, e, hM⟩ : ∃ M : Nat, (2 : Int) ^ d.ins = (M : Int) ∧ M = 2 ^ d.ins := ⟨2 ^ d.ins, two_pow d.ins, rfl⟩
  have hM16 : M ≤ 16 := by rw [hM]; exact Nat.pow_le_pow_right (show 0 < 2 by decide) l1
  have hwM := IntWalk.i64_in (M : Int) (by omega)
  have HM := Lib.hid hM
  have hmm := @run_makeMap Try.prog
  have HSm := Lib.hid (hS.below (bel_new w (.map #[] 0)))
  have HA0 := Lib.hid (setAt_made w)
  have hs1 : (w.alloc (.map #[] 0)).heap.size = w.heap.size + 1 := by simp
  have Bm := Lib.hid (bel_new w (.map #[] 0))
  clear r1 r2 r3 hd ho hS8 hM c0 c1 c2 c3 hS
  go_enter Try.func103, Try.ntmps103
  go_wp2_with (first
    | (at_range; refine wpList_range_set rfl (.tmp 15) rfl b n S rfl HSm.out ?_; intro w2 cnt hr2 hb2 hz2; have Hr2 := Lib.hid hr2; have Hb2 := Lib.hid hb2; clear hr2 hb2; refine Stop.out ?_))
  refine ⟨?_⟩
  rw [hs1] at hz2
  have Hr2 : Hid (RSet w2 b (w.heap.size + 1) n S S cnt) := Lib.hid (by have := Hr2.out; rwa [hs1] at this)
  have HA2 := Lib.hid (HA0.out.below Hb2.out)
  have B2 := Lib.hid (Bm.out.trans (Hb2.out.mono Bm.out.size))
  clear HA0 Bm Hb2 hs1 HSm hmm
  have HAd : Hid (SetAt w2 w.heap.size 0 (Cir.adv d o (Cir.done S S))) := Lib.hid (HA2.out.congr fun y => by rw [Cir.adv_congr (Cir.done_self S) y, Cir.adv_none])
  have HGd : Hid (Cir.good d o (Cir.done S S) = true) := Lib.hid (by rw [Cir.good_congr (Cir.done_self S), Cir.good_none])
  clear HA2
  go_wp2_with fail
  go_loopw [9] (fun gv wr => ∃ (L : Nat → Bool) (cnt m : Nat), gv = .bool (Cir.good d o (Cir.done S L)) ∧ Hid (RSet wr b (w.heap.size + 1) n S L cnt) ∧ Hid (SetAt wr w.heap.size m (Cir.adv d o (Cir.done S L))) ∧ m + 16 * Cir.cntL L ≤ 128 ∧ w.heap.size + 2 ≤ wr.heap.size ∧ Below w.heap.size w wr) (fun _ wr => wr.rangeLeft b (w.heap.size + 1))
  case atStart => exact ⟨S, cnt, 0, by rw [HGd.out], Hr2, HAd, by have := Cir.cntL_le S; omega, by omega, B2.out⟩
  case round =>
    obtain ⟨L, cn, m, rfl, HR, HA, hm, hzr, hb⟩ := hrel
    clear Hr2 HAd HGd B2 hz2
    have Hb := Lib.hid hb
    have hzb := hb.size
    clear hb
    go_wp2_with (first
      | (at_next; refine wpList_next_set rfl (.tmp 16) rfl b (w.heap.size + 1) n S L cn rfl HR.out (fun hdone => ?_) (fun x cv w3 cn3 hxS hxL hr3 hlt3 hg3 hz3 hen3 => ?_) <;> refine Stop.out ?_))
    · refine ⟨?_⟩
      have HAf : Hid (SetAt wr w.heap.size m (Cir.adv d o S)) := Lib.hid (HA.out.congr fun y => Cir.adv_congr (fun s => by unfold Cir.done; rw [hdone s]; simp) y)
      have HGf : Hid (Cir.good d o (Cir.done S L) = Cir.good d o S) := Lib.hid (Cir.good_congr fun s => by unfold Cir.done; rw [hdone s]; simp)
      clear hdone HA
      generalize Cir.good d o (Cir.done S L) = gb at *
      go_wp2_with fail
      exact bodyPost_ret (v := .tuple #[.map (some w.heap.size), .bool gb]) (by simp [results, Try.results103, go_sem]) rfl ⟨_, m, by rw [HGf.out], HAf.out, by omega, Hb.out⟩
    · refine ⟨?_⟩
      have hx8 := HS8.out x hxS
      have hcs := Cir.cntL_strike hx8 hxL
      have Hr3 := Lib.hid hr3
      have HlO := Lib.hid HR.out.left
      have Hb3 := Lib.hid (Hb.out.grown hg3 hzb (fun q hq => by have := Option.some.inj hq; omega))
      have HA3 := Lib.hid (HA.out.only (Only.grown (E := fun k => k = w.heap.size + 1) hg3 (fun k hk => (Option.some.inj hk).symm)) (fun e => by omega))
      have q0 := (Hb3.out.cell (p := ⟨g, 0, none⟩) hg).trans C0.out
      have HaddA : Hid (∀ y, Cir.adv d o (Cir.done S (fun z => L z && !(z == x))) y = (Cir.adv d o (Cir.done S L) y || Cir.reachJ d o x (2 ^ d.ins) y)) := Lib.hid (fun y => by rw [Cir.adv_congr (Cir.done_strike hxS) y, Cir.adv_add hx8])
      have HaddG : Hid (Cir.good d o (Cir.done S (fun z => L z && !(z == x))) = (Cir.good d o (Cir.done S L) && Cir.goodJ d o x (2 ^ d.ins))) := Lib.hid (by rw [Cir.good_congr (Cir.done_strike hxS), Cir.good_add hx8])
      have HG0 : Hid ((Cir.good d o (Cir.done S L) && Cir.goodJ d o x 0) = Cir.good d o (Cir.done S L)) := Lib.hid (by unfold Cir.goodJ; simp)
      have HA30 : Hid (SetAt w3 w.heap.size m (fun y => Cir.adv d o (Cir.done S L) y || Cir.reachJ d o x 0 y)) := Lib.hid (HA3.out.congr fun y => by unfold Cir.reachJ; simp)
      obtain ⟨G, hG⟩ : ∃ G, Cir.good d o (Cir.done S L) = G := ⟨_, rfl⟩
      obtain ⟨A, hA⟩ : ∃ A, Cir.adv d o (Cir.done S L) = A := ⟨_, rfl⟩
      rw [hG] at HaddG HG0 ⊢
      rw [hA] at HaddA HA30
      have Hlt3 := Lib.hid hlt3
      clear HR HA HA3 hg3 hr3 hG hA hxS hxL hlt3
      go_wp2_with fail
      clear q0 hen3
      obtain ⟨Wk, hWk⟩ : ∃ Wk, Wk = wr := ⟨_, rfl⟩
      subst hWk
      go_loopw [9, 26] (fun gv i wr => ∃ (j q : Nat), gv = .bool (G && Cir.goodJ d o x j) ∧ i = .int .i64 j ∧ j ≤ M ∧ Hid (RSet wr b (w.heap.size + 1) n S (fun z => L z && !(z == x)) cn3) ∧ Hid (SetAt wr w.heap.size q (fun y => A y || Cir.reachJ d o x j y)) ∧ q ≤ m + j ∧ w.heap.size + 2 ≤ wr.heap.size ∧ Below w.heap.size w wr) (fun _ i _ => M - (intOf i).toNat)
      case atStart => exact ⟨0, m, by rw [HG0.out], rfl, Nat.zero_le _, Hr3, HA30, by omega, by omega, Hb3.out⟩
      case round =>
        obtain ⟨j, q, rfl, rfl, hj, HR, HA, hq, hzr, hb⟩ := hrel
        have Hb := Lib.hid hb
        have hzb := hb.size
        clear hb
        by_cases hlj : j < M
        · have HRs := Lib.hid (Cir.reachJ_succ d o x j)
          have HGs := Lib.hid (Cir.goodJ_succ d o x j)
          have hN8 := Cir.next_lt8 Hd.out x j
          go_wp2_with fail
          refine (cycle_any g d x j _ (HP.out.below Hb.out) Hd.out (by omega) (by omega)).mono ?_
          rintro e w5 ⟨rfl, hb5⟩
          have HR5 := Lib.hid (HR.out.below hb5)
          have HA5 := Lib.hid (HA.out.below hb5)
          have Hb5 := Lib.hid (Hb.out.trans (hb5.mono hzb))
          have hz5 := hb5.size
          have hnb := num_bit (Cir.outsOf d x j) o
          have hnl := Cir.num_lt (Cir.outsOf d x j)
          rw [outsOf_length] at hnl
          have hn8 : 2 ^ d.outs.length ≤ 2 ^ 3 := Nat.pow_le_pow_right (show 0 < 2 by decide) l4
          have hN : Cir.num (Cir.outsOf d x j) ≤ 1000000 := by omega
          have hB : (Cir.outsOf d x j).getD o false = Cir.bad d o x j := rfl
          rw [hB] at hnb
          clear hn8 hnl hB hb5 HR HA
          generalize Cir.num (Cir.outsOf d x j) = y at *
          obtain ⟨bb, hbb⟩ : ∃ bb, Cir.bad d o x j = bb := ⟨_, rfl⟩
          obtain ⟨N, hNN⟩ : ∃ N, Cir.nextOf d x j = N := ⟨_, rfl⟩
          have HRs2 : Hid (∀ z, Cir.reachJ d o x (j + 1) z = (Cir.reachJ d o x j z || (!bb && N == z))) := Lib.hid (fun z => by rw [HRs.out z, hbb, hNN])
          have HGs2 : Hid (Cir.goodJ d o x (j + 1) = (Cir.goodJ d o x j && !bb)) := Lib.hid (by rw [HGs.out, hbb])
          rw [hbb] at hnb
          rw [hNN] at hN8 ⊢
          have hq2 : (y : Int) / 2 ^ o = ((y / 2 ^ o : Nat) : Int) := by rw [Int.natCast_ediv, two_pow]
          have hy : y / 2 ^ o ≤ 1000000 := Nat.le_trans (Nat.div_le_self _ _) hN
          have hm2 : bits .and .i64 ((y / 2 ^ o : Nat) : Int) 1 = ((y / 2 ^ o % 2 : Nat) : Int) := by
            have := i64_and_nat (y / 2 ^ o) 1 (by omega) (by omega)
            rw [Nat.and_one_is_mod] at this
            exact this
          have he : (((y / 2 ^ o % 2 : Nat) : Int) == 1) = bb := by
            rw [← hnb, Nat.testBit_eq_decide_div_mod_eq, Bool.eq_iff_iff, beq_iff_eq, decide_eq_true_iff]
            omega
          generalize y / 2 ^ o = y' at hq2 hm2 he hy
          have hr2 : y' % 2 < 2 := Nat.mod_lt _ (by decide)
          generalize y' % 2 = r at hm2 he hr2
          clear hnb hbb hNN HRs HGs
          generalize Cir.goodJ d o x j = gj at *
          cases bb
          · obtain rfl : r = 0 := by
              have : ¬ r = 1 := fun e1 => by subst e1; simp at he
              omega
            clear he hr2
            go_wp2_with (first
              | (at_mapUpdate; refine wpList_add_set _ rfl (.tmp 41) (.tmp 42) _ (.inl rfl) _ _ _ rfl HA5.out (by omega) N (by omega) rfl rfl ?_; intro w6 hset6 hg6; have Hset6 := Lib.hid hset6; have Hg6 := Lib.hid hg6; clear hset6 hg6))
            go_roundw
            case rel => exact ⟨j + 1, q + 1, by rw [HGs2.out]; simp, by go_num, by omega, Lib.hid (HR5.out.kept Hg6.out (fun e => by have h1 := HR5.out.lt.2.1; have := Option.some.inj e; omega) (fun e => by have := Option.some.inj e; omega)), Lib.hid (Hset6.out.congr fun z => by rw [HRs2.out z]; cases A z <;> cases Cir.reachJ d o x j z <;> simp [Bool.beq_comm]), by omega, Nat.le_trans (by omega) Hg6.out.size, Hb5.out.grown Hg6.out Hb5.out.size (fun k hk => by have := Option.some.inj hk; omega)⟩
            case measure => simp [intOf] <;> omega
          · obtain rfl : r = 1 := by
              have := eq_of_beq he
              omega
            clear he hr2
            go_wp2_with fail
            go_roundw
            case rel => exact ⟨j + 1, q, by rw [HGs2.out]; simp, by go_num, by omega, HR5, Lib.hid (HA5.out.congr fun z => by rw [HRs2.out z]; simp), by omega, by omega, Hb5.out⟩
            case measure => simp [intOf] <;> omega
        · obtain rfl : j = M := by omega
          have HAe : Hid (SetAt wr w.heap.size q (Cir.adv d o (Cir.done S (fun z => L z && !(z == x))))) := Lib.hid (HA.out.congr fun y => by rw [HaddA.out y, HM.out])
          have HGe : Hid ((G && Cir.goodJ d o x j) = Cir.good d o (Cir.done S (fun z => L z && !(z == x)))) := Lib.hid (by rw [HaddG.out, HM.out])
          rw [HGe.out]
          go_wp2_with fail
          go_roundw
          case rel => exact ⟨_, cn3, q, rfl, HR, HAe, by omega, by omega, Hb.out⟩
          case measure => rw [HR.out.left, HlO.out]; exact Hlt3.out
end Go.Proofs.Ytopimdakpnnbhaa

namespace Go.Proofs.Ytopimdakpnnbhaa
open Go.RowKit
set_option maxRecDepth 100000
/-! Inductive, by the program. -/
namespace Cir
def indOk (c : Cz) (o k : Int) : Prop := valid c = true ∧ (0 ≤ o ∧ o < c.outs.length) ∧ 1 ≤ k ∧ k ≤ 4
instance (c : Cz) (o k : Int) : Decidable (indOk c o k) := by unfold indOk; exact inferInstance
def indI (c : Cz) (o k : Int) : Bool := if indOk c o k then ind (nat c) o.toNat k.toNat else false
theorem indI_no {c : Cz} {o k : Int} (h : ¬ indOk c o k) : indI c o k = false := if_neg h
theorem indI_yes {c : Cz} {o k : Int} (h : indOk c o k) : indI c o k = ind (nat c) o.toNat k.toNat := if_pos h
theorem advN_lt {c : Ci} (hc : Ok c) {o : Nat} {S : Nat → Bool} (hS : ∀ x, S x = true → x < 8) : ∀ j x, advN c o S j x = true → x < 8
  | 0, x, h => hS x h
  | j + 1, x, h => by
    obtain ⟨s, _, _, y, _, _, rfl⟩ := adv_iff.1 h
    exact next_lt8 hc s y
theorem only0_lt (x : Nat) (h : only0 x = true) : x < 8 := by unfold only0 at h; have := eq_of_beq h; omega
theorem upTo_lt {n : Nat} (hn : n ≤ 8) (x : Nat) (h : upTo n x = true) : x < 8 := by unfold upTo at h; have := of_decide_eq_true h; omega
theorem upTo_succ (n x : Nat) : upTo (n + 1) x = (upTo n x || x == n) := by
  unfold upTo
  rw [Bool.eq_iff_iff, Bool.or_eq_true, decide_eq_true_iff, decide_eq_true_iff, beq_iff_eq]
  omega
end Cir
set_option maxHeartbeats 8000000 in
theorem implInd_ok (v : Value) (d : Ci) (o k : Nat) (w : World) (h : CircAt w v (Cir.toCz d)) (hd : Cir.Ok d) (hv : Cir.valid (Cir.toCz d) = true) (ho : o < d.outs.length) (hk1 : 1 ≤ k) (hk4 : k ≤ 4) :
    Calls Try.prog 53 #[v, .int .i64 o, .int .i64 k] w fun e w' => e = .returned (.bool (Cir.ind d o k)) ∧ Below w.heap.size w w' := by
  have l1 := hd.ins
  have l2 := hd.nexts
  have HC := Lib.hid h
  obtain ⟨vn, vg, vo, rfl, r1, r2, r3⟩ := h
  obtain ⟨Ao, co, rfl, hco, hcom⟩ := NatsAt.shape (xs := d.outs) r3
  obtain ⟨An, cn, rfl, hcn, hcmn⟩ := NatsAt.shape (xs := d.next) r1
  have hins : (Cir.toCz d).ins = (d.ins : Int) := rfl
  have HP := Lib.hid (PCirc.boxed (c := Cir.toCz d) 26 r1 r2 r3)
  rw [hins] at HC HP ⊢
  have B0 := Lib.hid (bel_new w (.cells #[.int .i64 d.ins, .slice An d.next.length cn, vg, .slice Ao d.outs.length co] 26))
  have PC := Lib.hid (PCells.boxed w d.ins (.slice An d.next.length cn) vg (.slice Ao d.outs.length co) 26)
  have hsz : (w.alloc (.cells #[.int .i64 d.ins, .slice An d.next.length cn, vg, .slice Ao d.outs.length co] 26)).heap.size = w.heap.size + 1 := by simp
  obtain ⟨z, p0, p1, p2, p3⟩ := PC.out
  have HC0 := Lib.hid (HC.out.below B0.out)
  have HV := Lib.hid (implValid_any _ _ _ HC0.out)
  rw [hv] at HV
  have Hd := Lib.hid hd
  have Ho := Lib.hid ho
  have t2 : decide (d.outs.length ≤ o) = false := decide_eq_false (by omega)
  have t3 : decide (k < 1) = false := decide_eq_false (by omega)
  have t4 : decide (4 < k) = false := decide_eq_false (by omega)
  obtain ⟨N, eN, hN⟩ : ∃ N : Nat, (2 : Int) ^ d.next.length = (N : Int) ∧ N = 2 ^ d.next.length := ⟨2 ^ d.next.length, two_pow d.next.length, rfl⟩
  have hN8 : N ≤ 8 := by rw [hN]; exact Nat.pow_le_pow_right (show 0 < 2 by decide) l2
  have hwN := IntWalk.i64_in (N : Int) (by omega)
  have HN := Lib.hid hN
  have hmm := @run_makeMap Try.prog
  clear r1 r2 r3 hd hins hv HC ho hco hcom hN hcn hcmn
  go_enter Try.func53, Try.ntmps53
  go_wp2_with fail
  generalize w.alloc (.cells #[.int .i64 d.ins, .slice An d.next.length cn, vg, .slice Ao d.outs.length co] 26) = W at *
  refine HV.out.mono ?_
  rintro e w1 ⟨rfl, hb1⟩
  have B1 := Lib.hid (B0.out.trans (hb1.mono B0.out.size))
  have HP1 := Lib.hid (HP.out.below hb1)
  have PC1 := Lib.hid (PC.out.below hb1)
  have z1 := hb1.size
  clear hb1 p0 p1 p2 p3 z HV HP HC0 PC
  obtain ⟨z, p0, p1, p2, p3⟩ := PC1.out
  have Hset0 := Lib.hid (setAt_made w1)
  go_wp2_with (with_reducible refine wpList_add_set _ rfl (.tmp 36) _ _ (.inr rfl) _ _ _ rfl Hset0.out (by omega) 0 (by omega) rfl rfl ?_; intro w2 hset2 hg2; refine Stop.out ?_)
  refine ⟨?_⟩
  have hz2 := hg2.size
  rw [World.size_alloc] at hz2
  have hb2 := (bel_new w1 (.map #[] 0)).grown hg2 (by simp) (fun q hq => by have := Option.some.inj hq; omega)
  have hb3 := bel_new w2 (.map #[] 0)
  have hb13 := hb2.trans (hb3.mono hb2.size)
  have HS0 := Lib.hid ((hset2.congr (S' := Cir.only0) (fun x => by unfold Cir.only0; simp)).below hb3)
  have HA0 : Hid (SetAt (w2.alloc (.map #[] 0)) w2.heap.size 0 (Cir.upTo 0)) := Lib.hid ((setAt_made w2).congr fun x => by unfold Cir.upTo; simp)
  have PC3 := PC1.out.below hb13
  have HB3 := Lib.hid hb13
  have hz3 : (w2.alloc (.map #[] 0)).heap.size = w2.heap.size + 1 := by simp
  clear hset2 hg2 Hset0 p0 p1 p2 p3 z hb2 hb3 hb13 hmm
  obtain ⟨z, p0, p1, p2, p3⟩ := PC3
  have hmm := @run_makeMap Try.prog
  go_wp2_with fail
  clear hmm z p0 p1 p2 p3
  generalize w2.alloc (.map #[] 0) = w3 at *
  obtain ⟨ma, hma⟩ : ∃ ma, w2.heap.size = ma := ⟨_, rfl⟩
  rw [hma] at HA0 hz3 hz2 ⊢
  clear hma
  go_loopw [43] (fun i wr => ∃ j m : Nat, i = .int .i64 j ∧ j ≤ N ∧ m ≤ j ∧ Hid (SetAt wr ma m (Cir.upTo j)) ∧ Hid (SetAt wr w1.heap.size 1 Cir.only0) ∧ Below w1.heap.size w1 wr) (fun i _ => N - (intOf i).toNat)
  case atStart => exact ⟨0, 0, rfl, Nat.zero_le _, Nat.le_refl _, HA0, HS0, HB3.out⟩
  case round =>
    obtain ⟨j, m, rfl, hj, hm, HA, HS, hb⟩ := hrel
    clear HA0 HS0 HB3
    have Hb := Lib.hid hb
    clear hb
    by_cases hlt : j < N
    · go_wp2_with (first
        | (at_mapUpdate; refine wpList_add_set _ rfl (.tmp 46) (.tmp 47) _ (.inl rfl) _ _ _ rfl HA.out (by omega) j (by omega) rfl rfl ?_; intro w6 hset6 hg6; have Hset6 := Lib.hid hset6; have Hg6 := Lib.hid hg6; clear hset6 hg6))
      go_roundw
      case rel => exact ⟨j + 1, m + 1, by go_num, by omega, by omega, Lib.hid (Hset6.out.congr fun x => (Cir.upTo_succ j x).symm), Lib.hid (HS.out.only (Only.grown (E := fun g => g = ma) Hg6.out (fun k hk => (Option.some.inj hk).symm)) (fun e => by omega)), Hb.out.grown Hg6.out Hb.out.size (fun q hq => by have := Option.some.inj hq; omega)⟩
      case measure => simp [intOf] <;> omega
    · obtain rfl : j = N := by omega
      have HA2 : Hid (SetAt wr ma 200 (Cir.advN d o (Cir.upTo (2 ^ d.next.length)) 0)) := Lib.hid ((HA.out.mono (by omega)).congr fun x => by rw [HN.out]; rfl)
      have HS2 : Hid (SetAt wr w1.heap.size 200 (Cir.advN d o Cir.only0 0)) := Lib.hid (HS.out.mono (by omega))
      have HUp : Hid (∀ x, Cir.upTo (2 ^ d.next.length) x = true → x < 8) := Lib.hid (Cir.upTo_lt (by rw [← HN.out]; omega))
      clear HA HS
      go_wp2_with fail
      go_loopw [7, 8, 50] (fun sv av i wr => ∃ sb ab q : Nat, sv = .map (some sb) ∧ av = .map (some ab) ∧ i = .int .i64 q ∧ q ≤ k ∧ Hid (SetAt wr sb 200 (Cir.advN d o Cir.only0 q)) ∧ Hid (SetAt wr ab 200 (Cir.advN d o (Cir.upTo (2 ^ d.next.length)) q)) ∧ Hid (∀ i, i < q → Cir.good d o (Cir.advN d o Cir.only0 i) = true) ∧ Below w1.heap.size w1 wr) (fun _ _ i _ => k - (intOf i).toNat)
      case atStart => exact ⟨_, _, 0, rfl, rfl, rfl, Nat.zero_le _, HS2, HA2, Lib.hid (fun i hi => by omega), Hb.out⟩
      case round =>
        obtain ⟨sb, ab, q, rfl, rfl, rfl, hq, HS, HA, HG, hb⟩ := hrel
        clear HA2 HS2
        have Hb := Lib.hid hb
        have hzb := hb.size
        clear hb
        by_cases hlq : q < k
        · go_wp2_with fail
          refine (advance_any w.heap.size sb 200 d o _ _ (HP1.out.below Hb.out) Hd.out Ho.out HS.out (Cir.advN_lt Hd.out Cir.only0_lt q)).mono ?_
          rintro e w5 ⟨mb, n5, rfl, hset5, hn5, hb5⟩
          have HS5 := Lib.hid (hset5.mono (show n5 ≤ 200 from hn5))
          have HA5 := Lib.hid (HA.out.below hb5)
          have Hb5 := Lib.hid (Hb.out.trans (hb5.mono hzb))
          have hz5 := Nat.le_trans hzb hb5.size
          clear hset5 hb5
          cases hg : Cir.good d o (Cir.advN d o Cir.only0 q)
          · have HR : Hid (Cir.ind d o k = false) := Lib.hid (Cir.ind_no hlq hg)
            clear hg
            go_wp2_with fail
            go_ret
            exact ⟨ret_bool HR.out.symm, B1.out.trans (Hb5.out.mono B1.out.size)⟩
          · have HG5 : Hid (∀ i, i < q + 1 → Cir.good d o (Cir.advN d o Cir.only0 i) = true) := Lib.hid (fun i hi => by
              rcases Nat.lt_or_ge i q with h | h
              · exact HG.out i h
              · obtain rfl : i = q := by omega
                exact hg)
            clear hg HG
            go_wp2_with fail
            refine (advance_any w.heap.size ab 200 d o _ _ (HP1.out.below Hb5.out) Hd.out Ho.out HA5.out (Cir.advN_lt Hd.out HUp.out q)).mono ?_
            rintro e w6 ⟨mb2, n6, rfl, hset6, hn6, hb6⟩
            have HA6 := Lib.hid (hset6.mono (show n6 ≤ 200 from hn6))
            have HS6 := Lib.hid (HS5.out.below hb6)
            have Hb6 := Lib.hid (Hb5.out.trans (hb6.mono hz5))
            clear hset6 hb6
            generalize Cir.good d o (Cir.advN d o (Cir.upTo (2 ^ d.next.length)) q) = gq at *
            go_wp2_with fail
            go_roundw
            case rel => exact ⟨_, _, q + 1, rfl, rfl, by go_num, by omega, HS6, HA6, HG5, Hb6.out⟩
            case measure => simp [intOf] <;> omega
        · obtain rfl : q = k := by omega
          have HR : Hid (Cir.ind d o q = Cir.good d o (Cir.advN d o (Cir.upTo (2 ^ d.next.length)) q)) := Lib.hid (Cir.ind_yes HG.out)
          clear HG
          go_wp2_with fail
          refine (advance_any w.heap.size ab 200 d o _ _ (HP1.out.below Hb.out) Hd.out Ho.out HA.out (Cir.advN_lt Hd.out HUp.out q)).mono ?_
          rintro e w6 ⟨mb2, n6, rfl, hset6, hn6, hb6⟩
          have Hb6 := Lib.hid (Hb.out.trans (hb6.mono hzb))
          clear hset6 hb6
          generalize Cir.good d o (Cir.advN d o (Cir.upTo (2 ^ d.next.length)) q) = gq at *
          go_wp2_with fail
          go_ret
          exact ⟨ret_bool HR.out.symm, B1.out.trans (Hb6.out.mono B1.out.size)⟩
theorem implInd_no (v : Value) (c : Cz) (o k : Int) (w : World) (h : CircAt w v c) (hno : ¬ Cir.indOk c o k) :
    Calls Try.prog 53 #[v, .int .i64 o, .int .i64 k] w fun e w' => e = .returned (.bool false) ∧ Below w.heap.size w w' := by
  have HC := Lib.hid h
  obtain ⟨An, cn, Ag, cg, Ao, co, rfl⟩ := h.shape
  have B0 := Lib.hid (bel_new w (.cells #[.int .i64 c.ins, .slice An c.next.length cn, .slice Ag c.gates.length cg, .slice Ao c.outs.length co] 26))
  have PC := Lib.hid (PCells.boxed w c.ins (.slice An c.next.length cn) (.slice Ag c.gates.length cg) (.slice Ao c.outs.length co) 26)
  have hsz : (w.alloc (.cells #[.int .i64 c.ins, .slice An c.next.length cn, .slice Ag c.gates.length cg, .slice Ao c.outs.length co] 26)).heap.size = w.heap.size + 1 := by simp
  obtain ⟨z, p0, p1, p2, p3⟩ := PC.out
  have HV := Lib.hid (implValid_any _ _ _ (HC.out.below B0.out))
  have Hno := Lib.hid hno
  clear HC h hno
  cases hv : Cir.valid c
  · rw [hv] at HV
    clear hv Hno
    go_enter Try.func53, Try.ntmps53
    go_wp2_with fail
    generalize w.alloc (.cells #[.int .i64 c.ins, .slice An c.next.length cn, .slice Ag c.gates.length cg, .slice Ao c.outs.length co] 26) = W at *
    refine HV.out.mono ?_
    rintro e w1 ⟨rfl, hb1⟩
    have B1 := Lib.hid (B0.out.trans (hb1.mono B0.out.size))
    have PC1 := Lib.hid (PC.out.below hb1)
    have z1 := hb1.size
    clear hb1 p0 p1 p2 p3 z HV PC
    obtain ⟨z, p0, p1, p2, p3⟩ := PC1.out
    go_wp2_with fail
    go_ret
    exact ⟨rfl, B1.out⟩
  · by_cases h1 : o < 0
    · rw [hv] at HV
      have t1 : decide (o < 0) = true := decide_eq_true h1
      clear h1
      clear hv Hno
      go_enter Try.func53, Try.ntmps53
      go_wp2_with fail
      generalize w.alloc (.cells #[.int .i64 c.ins, .slice An c.next.length cn, .slice Ag c.gates.length cg, .slice Ao c.outs.length co] 26) = W at *
      refine HV.out.mono ?_
      rintro e w1 ⟨rfl, hb1⟩
      have B1 := Lib.hid (B0.out.trans (hb1.mono B0.out.size))
      have PC1 := Lib.hid (PC.out.below hb1)
      have z1 := hb1.size
      clear hb1 p0 p1 p2 p3 z HV PC
      obtain ⟨z, p0, p1, p2, p3⟩ := PC1.out
      go_wp2_with fail
      go_ret
      exact ⟨rfl, B1.out⟩
    · by_cases h2 : (c.outs.length : Int) ≤ o
      · rw [hv] at HV
        have t1 : decide (o < 0) = false := decide_eq_false (by omega)
        have t2 : decide ((c.outs.length : Int) ≤ o) = true := decide_eq_true h2
        clear h1 h2
        clear hv Hno
        go_enter Try.func53, Try.ntmps53
        go_wp2_with fail
        generalize w.alloc (.cells #[.int .i64 c.ins, .slice An c.next.length cn, .slice Ag c.gates.length cg, .slice Ao c.outs.length co] 26) = W at *
        refine HV.out.mono ?_
        rintro e w1 ⟨rfl, hb1⟩
        have B1 := Lib.hid (B0.out.trans (hb1.mono B0.out.size))
        have PC1 := Lib.hid (PC.out.below hb1)
        have z1 := hb1.size
        clear hb1 p0 p1 p2 p3 z HV PC
        obtain ⟨z, p0, p1, p2, p3⟩ := PC1.out
        go_wp2_with fail
        go_ret
        exact ⟨rfl, B1.out⟩
      · by_cases h3 : k < 1
        · rw [hv] at HV
          have t1 : decide (o < 0) = false := decide_eq_false (by omega)
          have t2 : decide ((c.outs.length : Int) ≤ o) = false := decide_eq_false (by omega)
          have t3 : decide (k < 1) = true := decide_eq_true h3
          clear h1 h2 h3
          clear hv Hno
          go_enter Try.func53, Try.ntmps53
          go_wp2_with fail
          generalize w.alloc (.cells #[.int .i64 c.ins, .slice An c.next.length cn, .slice Ag c.gates.length cg, .slice Ao c.outs.length co] 26) = W at *
          refine HV.out.mono ?_
          rintro e w1 ⟨rfl, hb1⟩
          have B1 := Lib.hid (B0.out.trans (hb1.mono B0.out.size))
          have PC1 := Lib.hid (PC.out.below hb1)
          have z1 := hb1.size
          clear hb1 p0 p1 p2 p3 z HV PC
          obtain ⟨z, p0, p1, p2, p3⟩ := PC1.out
          go_wp2_with fail
          go_ret
          exact ⟨rfl, B1.out⟩
        · by_cases h4 : 4 < k
          · rw [hv] at HV
            have t1 : decide (o < 0) = false := decide_eq_false (by omega)
            have t2 : decide ((c.outs.length : Int) ≤ o) = false := decide_eq_false (by omega)
            have t3 : decide (k < 1) = false := decide_eq_false (by omega)
            have t4 : decide (4 < k) = true := decide_eq_true h4
            clear h1 h2 h3 h4
            clear hv Hno
            go_enter Try.func53, Try.ntmps53
            go_wp2_with fail
            generalize w.alloc (.cells #[.int .i64 c.ins, .slice An c.next.length cn, .slice Ag c.gates.length cg, .slice Ao c.outs.length co] 26) = W at *
            refine HV.out.mono ?_
            rintro e w1 ⟨rfl, hb1⟩
            have B1 := Lib.hid (B0.out.trans (hb1.mono B0.out.size))
            have PC1 := Lib.hid (PC.out.below hb1)
            have z1 := hb1.size
            clear hb1 p0 p1 p2 p3 z HV PC
            obtain ⟨z, p0, p1, p2, p3⟩ := PC1.out
            go_wp2_with fail
            go_ret
            exact ⟨rfl, B1.out⟩
          · exact absurd (by unfold Cir.indOk; exact ⟨hv, ⟨by omega, by omega⟩, by omega, by omega⟩) Hno.out
theorem implInd_any (v : Value) (c : Cz) (o k : Int) (w : World) (h : CircAt w v c) :
    Calls Try.prog 53 #[v, .int .i64 o, .int .i64 k] w fun e w' => e = .returned (.bool (Cir.indI c o k)) ∧ Below w.heap.size w w' := by
  by_cases hc : Cir.indOk c o k
  · rw [Cir.indI_yes hc]
    obtain ⟨hv, ⟨h1, h2⟩, h3, h4⟩ := hc
    obtain ⟨d1, d2⟩ := Cir.nat_ok hv
    obtain ⟨m, rfl⟩ := Int.eq_ofNat_of_zero_le h1
    obtain ⟨q, rfl⟩ := Int.eq_ofNat_of_zero_le (show 0 ≤ k by omega)
    exact implInd_ok v (Cir.nat c) m q w (by rw [← d1]; exact h) d2 (by rw [← d1]; exact hv) (by unfold Cir.nat; simp only [List.length_map]; omega) (by omega) (by omega)
  · rw [Cir.indI_no hc]
    exact implInd_no v c o k w h hc
end Go.Proofs.Ytopimdakpnnbhaa

namespace Go.Proofs.Ytopimdakpnnbhaa
open Go.RowKit
set_option maxRecDepth 100000
/-! Inductive, by the reference. -/
namespace Cir
def safeJ (c : Ci) (o k s j : Nat) : Bool := (List.range j).all fun x => !bad c o s x && safe c o k (nextOf c s x)
theorem safeJ_succ (c : Ci) (o k s j : Nat) : safeJ c o k s (j + 1) = (safeJ c o k s j && (!bad c o s j && safe c o k (nextOf c s j))) := by
  unfold safeJ; rw [List.range_succ, List.all_append]; simp
def safes (c : Ci) (o k n : Nat) : List Bool := (List.range n).map (safe c o k)
theorem safes_succ (c : Ci) (o k n : Nat) : safes c o k (n + 1) = safes c o k n ++ [safe c o k n] := by
  unfold safes; rw [List.range_succ, List.map_append]; rfl
theorem safes_length (c : Ci) (o k n : Nat) : (safes c o k n).length = n := by unfold safes; simp
theorem safes_get {c : Ci} {o k n i : Nat} (h : i < n) : (safes c o k n)[i]? = some (safe c o k i) := by unfold safes; simp [h]
theorem stepB_hit {c : Ci} {o k s j : Nat} (hj : j < 2 ^ c.ins) (hb : bad c o s j = false) (h : stepB c o k (nextOf c s j) = false) : stepB c o (k + 1) s = false := by
  refine Bool.eq_false_iff.2 fun ht => ?_
  rcases stepB_succ.1 ht j hj with h1 | h1
  · rw [hb] at h1; cases h1
  · rw [h] at h1; cases h1
theorem stepB_hit0 {c : Ci} {o s j : Nat} (hj : j < 2 ^ c.ins) (hb : bad c o s j = true) : stepB c o 0 s = false := by
  refine Bool.eq_false_iff.2 fun ht => ?_
  have := stepB_zero.1 ht j hj
  rw [hb] at this; cases this
end Cir
theorem bad_get {d : Ci} {o s x : Nat} (ho : o < d.outs.length) : (Cir.outsOf d s x)[o]? = some (Cir.bad d o s x) := by
  unfold Cir.bad
  rw [List.getD_eq_getElem?_getD, List.getElem?_eq_getElem (by rw [outsOf_length]; exact ho)]
  rfl
set_option maxHeartbeats 16000000 in
theorem l31Safe_any (v : Value) (d : Ci) (o k : Nat) (w : World) (h : CircAt w v (Cir.toCz d)) (hd : Cir.Ok d) (ho : o < d.outs.length) (hk : k ≤ 4) :
    Calls Try.prog 104 #[v, .int .i64 o, .int .i64 k] w (OwnBools (Cir.safes d o k (2 ^ d.next.length)) w) := by
  have l1 := hd.ins
  have l2 := hd.nexts
  have HC := Lib.hid h
  obtain ⟨vn, vg, vo, rfl, r1, r2, r3⟩ := h
  obtain ⟨An, cn, rfl, hcn, hcmn⟩ := NatsAt.shape (xs := d.next) r1
  have hins : (Cir.toCz d).ins = (d.ins : Int) := rfl
  rw [hins] at HC ⊢
  have B0 := Lib.hid (bel_new w (.cells #[.int .i64 d.ins, .slice An d.next.length cn, vg, vo] 26))
  have PC := Lib.hid (PCells.boxed w d.ins (.slice An d.next.length cn) vg vo 26)
  have hsz : (w.alloc (.cells #[.int .i64 d.ins, .slice An d.next.length cn, vg, vo] 26)).heap.size = w.heap.size + 1 := by simp
  have HC0 := Lib.hid (HC.out.below B0.out)
  have Hd := Lib.hid hd
  have Ho := Lib.hid ho
  obtain ⟨N, eN, hN⟩ : ∃ N : Nat, (2 : Int) ^ d.next.length = (N : Int) ∧ N = 2 ^ d.next.length := ⟨2 ^ d.next.length, two_pow d.next.length, rfl⟩
  have hN8 : N ≤ 8 := by rw [hN]; exact Nat.pow_le_pow_right (show 0 < 2 by decide) l2
  have hwN := IntWalk.i64_in (N : Int) (by omega)
  have HN := Lib.hid hN
  obtain ⟨M, e, hM⟩ : ∃ M : Nat, (2 : Int) ^ d.ins = (M : Int) ∧ M = 2 ^ d.ins := ⟨2 ^ d.ins, two_pow d.ins, rfl⟩
  have hM16 : M ≤ 16 := by rw [hM]; exact Nat.pow_le_pow_right (show 0 < 2 by decide) l1
  have hwM := IntWalk.i64_in (M : Int) (by omega)
  have HM := Lib.hid hM
  rw [← hN]
  obtain ⟨z, p0, p1, p2, p3⟩ := PC.out
  clear r1 r2 r3 hd hins HC ho hM hN hcn hcmn
  have Ho0 : Hid (((w.alloc (.cells #[.int .i64 d.ins, .slice An d.next.length cn, vg, vo] 26)).alloc (.cells #[] 4)).ownsRow w.heap.size 4 1 (.slice (some ⟨w.heap.size + 1, 0, none⟩) 0 0) 0 (bools (Cir.safes d o 0 0))) := Lib.hid (by
    have := World.ownsRow_lit (base := w.heap.size) (e := 4) (size := 1) (w.alloc (.cells #[.int .i64 d.ins, .slice An d.next.length cn, vg, vo] 26)) #[] 0 (by simp) (by unfold maxLen; omega) rfl
    rwa [World.size_alloc] at this)
  have HB0 := Lib.hid (bel_new (w.alloc (.cells #[.int .i64 d.ins, .slice An d.next.length cn, vg, vo] 26)) (.cells #[] 4))
  clear p0 p1 p2 p3
  go_enter Try.func104, Try.ntmps104
  go_wp2_with fail
  generalize w.alloc (.cells #[.int .i64 d.ins, .slice An d.next.length cn, vg, vo] 26) = W at *
  go_loopw [7, 8] (fun v i wr => ∃ (vv : Value) (j : Nat), vv = v ∧ i = .int .i64 j ∧ j ≤ N ∧ Hid (wr.ownsRow (w.heap.size + 1) 4 1 v j (bools (Cir.safes d o 0 j))) ∧ Below W.heap.size W wr) (fun _ i _ => N - (intOf i).toNat)
  case atStart => exact ⟨_, 0, rfl, rfl, Nat.zero_le _, Lib.hid (by
      obtain ⟨g1, hg1⟩ := Ho0.out
      exact ⟨g1, hg1.imp id fun ⟨g, cap, cur, a1, a2, a3⟩ => ⟨g, cap, cur, a1, by injection a1 with e1; have := Option.some.inj e1; injection this with e2; omega, a3⟩⟩), HB0.out⟩
  case round =>
    obtain ⟨vv, j, hvv, rfl, hj, Hv, hb⟩ := hrel
    subst hvv
    clear Ho0 HB0
    have Hb := Lib.hid hb
    have hzb := hb.size
    have PCr := Lib.hid (PC.out.below hb)
    obtain ⟨z, p0, p1, p2, p3⟩ := PCr.out
    clear hb
    by_cases hlt : j < N
    · have HSn := Lib.hid (Cir.safes_succ d o 0 j)
      have Hlit := Lib.hid (Row.of_own (World.ownsRow_lit (base := wr.heap.size) (e := 4) (size := 1) wr #[.bool true] 1 (Nat.le_refl _) (by unfold maxLen; omega) rfl))
      have hdj : decide (j < N) = true := decide_eq_true hlt
      go_wp2_with (at_builtin; refine append_bools rfl (.tmp 22) (.tmp 23) rfl (w.heap.size + 1) _ j (bools (Cir.safes d o 0 j)) rfl (Hv.out.alloc _) _ 1 [.bool true] rfl Hlit.out (by simp [Value.oneCell']) (by omega) (by simp; omega) ?_; intro v7 w7 hown7 hg7 hat7; have Ho7 := Lib.hid hown7; have Hg7 := Lib.hid hg7; clear hown7 hg7 hat7)
      go_roundw
      case rel => exact ⟨_, j + 1, rfl, by go_num, by omega, Lib.hid (by rw [HSn.out, bools_append]; exact Ho7.out), (Hb.out.alloc Hb.out.size _).grown Hg7.out (Hb.out.alloc Hb.out.size _).size (fun q hq => by have := (Hv.out.lt q hq).1; omega)⟩
      case measure => simp [intOf] <;> omega
    · obtain rfl : j = N := by omega
      have hdj : decide (j < j) = false := decide_eq_false (by omega)
      have HS0 : Hid (wr.ownsRow (w.heap.size + 1) 4 1 vv j (bools (Cir.safes d o (k - k) j))) := Lib.hid (by rw [Nat.sub_self]; exact Hv.out)
      clear Hv
      go_wp2_with fail
      clear p0 p1 p2 p3 z
      go_loopw [2, 7] (fun i v wr => ∃ (vv : Value) (q : Nat), vv = v ∧ i = .int .i64 q ∧ q ≤ k ∧ Hid (wr.ownsRow (w.heap.size + 1) 4 1 v j (bools (Cir.safes d o (k - q) j))) ∧ Below W.heap.size W wr) (fun i _ _ => (intOf i).toNat)
      case atStart => exact ⟨_, k, rfl, rfl, Nat.le_refl _, HS0, Hb.out⟩
      case round =>
        obtain ⟨vv, q, hvv, rfl, hq, Hv, hb⟩ := hrel
        subst hvv
        clear HS0
        have Hb := Lib.hid hb
        have hzb := hb.size
        clear hb
        obtain ⟨Av, cv, hvs⟩ := slice_of_own Hv.out
        subst hvs
        by_cases hq0 : 0 < q
        · have hdq : decide (0 < q) = true := decide_eq_true hq0
          have Hqs : Hid (k - (q - 1) = k - q + 1) := Lib.hid (by omega)
          have Hlit0 : Hid ((wr.alloc (.cells #[] 4)).ownsRow wr.heap.size 4 1 (.slice (some ⟨wr.heap.size, 0, none⟩) 0 0) 0 (bools (Cir.safes d o (k - q + 1) 0))) := Lib.hid (World.ownsRow_lit (base := wr.heap.size) (e := 4) (size := 1) wr #[] 0 (Nat.le_refl _) (by unfold maxLen; omega) rfl)
          have HBl := Lib.hid (bel_new wr (.cells #[] 4))
          obtain ⟨K, hK⟩ : ∃ K, k - q = K := ⟨_, rfl⟩
          rw [hK] at Hlit0 Hv Hqs
          clear hK
          go_wp2_with fail
          obtain ⟨Wk, hWk⟩ : ∃ Wk, Wk = wr := ⟨_, rfl⟩
          subst hWk
          go_loopw [9, 10] (fun u i wr => ∃ (uu : Value) (s : Nat), uu = u ∧ i = .int .i64 s ∧ s ≤ j ∧ Hid (wr.ownsRow Wk.heap.size 4 1 u s (bools (Cir.safes d o (K + 1) s))) ∧ Below Wk.heap.size Wk wr) (fun _ i _ => j - (intOf i).toNat)
          case atStart => exact ⟨_, 0, rfl, rfl, Nat.zero_le _, Hlit0, HBl.out⟩
          case round =>
            obtain ⟨uu, s, huu, rfl, hs, Hu, hbk⟩ := hrel
            subst huu
            clear Hlit0 HBl
            have Hbk := Lib.hid hbk
            have hzk := hbk.size
            clear hbk
            by_cases hls : s < j
            · have HSn := Lib.hid (Cir.safes_succ d o (K + 1) s)
              have HJ0 : Hid (Cir.safeJ d o K s 0 = true) := Lib.hid rfl
              have hds : decide (s < j) = true := decide_eq_true hls
              go_wp2_with fail
              obtain ⟨W2, hW2⟩ : ∃ W2, W2 = wr := ⟨_, rfl⟩
              subst hW2
              go_loopw [11, 12] (fun b i wr => ∃ x : Nat, b = .bool (Cir.safeJ d o K s x) ∧ i = .int .i64 x ∧ x ≤ M ∧ Below W2.heap.size W2 wr) (fun _ i _ => M - (intOf i).toNat)
              case atStart => exact ⟨0, rfl, rfl, Nat.zero_le _, Below.refl _ _⟩
              case round =>
                obtain ⟨x, rfl, rfl, hx, hb2⟩ := hrel
                have Hb2 := Lib.hid hb2
                have hz2 := hb2.size
                have HbWk := Lib.hid (Hbk.out.trans (hb2.mono hzk))
                have HbW := Lib.hid (Hb.out.trans (HbWk.out.mono hzb))
                have PCr := Lib.hid (PC.out.below HbW.out)
                have HCr := Lib.hid (HC0.out.below HbW.out)
                obtain ⟨z, p0, p1, p2, p3⟩ := PCr.out
                clear hb2
                by_cases hlx : x < M
                · have HJs := Lib.hid (Cir.safeJ_succ d o K s x)
                  have hdx : decide (x < M) = true := decide_eq_true hlx
                  have hN8' : Cir.nextOf d s x < j := by rw [HN.out]; exact Cir.nextOf_lt d s x
                  cases hJ : Cir.safeJ d o K s x
                  · have HJn : Hid (Cir.safeJ d o K s (x + 1) = false) := Lib.hid (by rw [HJs.out, hJ]; rfl)
                    clear hJ HJs
                    go_wp2_with fail
                    go_roundw
                    case rel => exact ⟨x + 1, by rw [HJn.out], by go_num, by omega, Hb2.out⟩
                    case measure => simp [intOf] <;> omega
                  · have Hbg := Lib.hid (bad_get (s := s) (x := x) Ho.out)
                    rw [hJ] at HJs
                    clear hJ
                    go_wp2_with fail
                    refine (l16Outs_any _ d s x _ HCr.out Hd.out (by omega) (by omega)).mono ?_
                    rintro e w5 ⟨⟨u5, rfl, hu5⟩, hb5⟩
                    obtain ⟨bb, oo, cc, rfl, hbb, hcell⟩ := boolsAt_cell hu5 Hbg.out
                    rw [outsOf_length] at *
                    have PC5 := Lib.hid (PCr.out.below hb5)
                    have HC5 := Lib.hid (HCr.out.below hb5)
                    have Hb5 := Lib.hid (Hb2.out.trans (hb5.mono hz2))
                    have hz5 := Nat.le_trans hz2 hb5.size
                    have hok := Ho.out
                    clear hb5 p0 p1 p2 p3 z hu5
                    obtain ⟨z, p0, p1, p2, p3⟩ := PC5.out
                    cases hbad : Cir.bad d o s x
                    · rw [hbad] at HJs hcell
                      clear hbad
                      go_wp2_with fail
                      refine (l16Next_any _ d s x _ HC5.out Hd.out (by omega) (by omega)).mono ?_
                      rintro e w6 ⟨rfl, hb6⟩
                      have Hb6 := Lib.hid (Hb5.out.trans (hb6.mono hz5))
                      have hVr := own_below (own_below Hv.out Hbk.out) Hb6.out
                      obtain ⟨b7, o7, c7, e7, hb7, hcell7⟩ := boolsAt_cell (bools_at_own hVr (Cir.safes_length d o K j)) (Cir.safes_get hN8')
                      rw [Cir.safes_length] at e7
                      injection e7 with e71 e72 e73
                      subst e71 e73
                      have HJn : Hid (Cir.safeJ d o K s (x + 1) = Cir.safe d o K (Cir.nextOf d s x)) := Lib.hid (by rw [HJs.out]; simp)
                      clear hb6 hVr p0 p1 p2 p3 z HJs
                      generalize Cir.safe d o K (Cir.nextOf d s x) = sv at *
                      generalize Cir.nextOf d s x = nx at *
                      go_wp2_with fail
                      go_roundw
                      case rel => exact ⟨x + 1, by rw [HJn.out], by go_num, by omega, Hb6.out⟩
                      case measure => simp [intOf] <;> omega
                    · have HJn : Hid (Cir.safeJ d o K s (x + 1) = false) := Lib.hid (by rw [HJs.out, hbad]; simp)
                      rw [hbad] at hcell
                      clear hbad HJs
                      go_wp2_with fail
                      go_roundw
                      case rel => exact ⟨x + 1, by rw [HJn.out], by go_num, by omega, Hb5.out⟩
                      case measure => simp [intOf] <;> omega
                · obtain rfl : x = M := by omega
                  have hdx : decide (x < x) = false := decide_eq_false (by omega)
                  have HJe : Hid (Cir.safeJ d o K s x = Cir.safe d o (K + 1) s) := Lib.hid (by rw [HM.out]; rfl)
                  have Hu2 := Lib.hid (own_below Hu.out Hb2.out)
                  generalize Cir.safeJ d o K s x = sv at *
                  have Hlit := Lib.hid (Row.of_own (World.ownsRow_lit (base := wr.heap.size) (e := 4) (size := 1) wr #[.bool sv] 1 (Nat.le_refl _) (by unfold maxLen; omega) rfl))
                  clear p1 p2 p3
                  go_wp2_with (at_builtin; refine append_bools rfl (.tmp 63) (.tmp 65) rfl Wk.heap.size _ s (bools (Cir.safes d o (K + 1) s)) rfl (Hu2.out.alloc _) _ 1 [.bool sv] rfl Hlit.out (by simp [Value.oneCell']) (by omega) (by simp; omega) ?_; intro v7 w7 hown7 hg7 hat7; have Ho7 := Lib.hid hown7; have Hg7 := Lib.hid hg7; clear hown7 hg7 hat7)
                  go_roundw
                  case rel => exact ⟨_, s + 1, rfl, by go_num, by omega, Lib.hid (by rw [HSn.out, ← HJe.out, bools_append]; exact Ho7.out), (HbWk.out.alloc HbWk.out.size _).grown Hg7.out (HbWk.out.alloc HbWk.out.size _).size (own_ge0 Hu2.out)⟩
                  case measure => simp [intOf] <;> omega
            · obtain rfl : s = j := by omega
              have hds : decide (s < s) = false := decide_eq_false (by omega)
              have Hu2 : Hid (wr.ownsRow (w.heap.size + 1) 4 1 uu s (bools (Cir.safes d o (k - (q - 1)) s))) := Lib.hid (by rw [Hqs.out]; exact own_mono Hu.out (by omega))
              have hwq : IntKind.i64.wrap ((q : Int) - 1) = (q : Int) - 1 := IntWalk.i64_in _ (by omega)
              go_wp2_with fail
              go_roundw
              case rel => exact ⟨_, q - 1, rfl, by go_num, by omega, Hu2, Hb.out.trans (Hbk.out.mono hzb)⟩
              case measure => simp [intOf] <;> omega
        · obtain rfl : q = 0 := by omega
          have hdq : decide (0 < 0) = false := decide_eq_false (by omega)
          have Hvf : Hid (wr.ownsRow w.heap.size 4 1 (.slice Av j cv) (Cir.safes d o k j).length (bools (Cir.safes d o k j))) := Lib.hid (by rw [Cir.safes_length]; have := Hv.out; rw [Nat.sub_zero] at this; exact own_mono this (by omega))
          clear Hv
          go_wp2_with fail
          go_ret
          exact ⟨_, rfl, Hvf.out, B0.out.trans (Hb.out.mono B0.out.size)⟩
end Go.Proofs.Ytopimdakpnnbhaa

namespace Go.Proofs.Ytopimdakpnnbhaa
open Go.RowKit
set_option maxRecDepth 100000
/-! Inductive, by the reference: the step of the induction, and the whole. -/
set_option maxHeartbeats 16000000 in
theorem l31Step_zero (d : Ci) (o : Nat)  (hd : Cir.Ok d) (ho : o < d.outs.length) (s : Nat) (v : Value) (w : World) (h : CircAt w v (Cir.toCz d)) (hs : s < 8) :
    Calls Try.prog 105 #[v, .int .i64 o, .int .i64 s, .int .i64 (0 : Int)] w fun e w' => e = .returned (.bool (Cir.stepB d o 0 s)) ∧ Below w.heap.size w w' := by
  have l1 := hd.ins
  have l4 := hd.outss
  have HC := Lib.hid h
  obtain ⟨vn, vg, vo, rfl, r1, r2, r3⟩ := h
  obtain ⟨An, cn, rfl, hcn, hcmn⟩ := NatsAt.shape (xs := d.next) r1
  have hins : (Cir.toCz d).ins = (d.ins : Int) := rfl
  rw [hins] at HC ⊢
  have B0 := Lib.hid (bel_new w (.cells #[.int .i64 d.ins, .slice An d.next.length cn, vg, vo] 26))
  have PC := Lib.hid (PCells.boxed w d.ins (.slice An d.next.length cn) vg vo 26)
  have hsz : (w.alloc (.cells #[.int .i64 d.ins, .slice An d.next.length cn, vg, vo] 26)).heap.size = w.heap.size + 1 := by simp
  have HC0 := Lib.hid (HC.out.below B0.out)
  have Hd := Lib.hid hd
  have Ho := Lib.hid ho
  obtain ⟨M, e, hM⟩ : ∃ M : Nat, (2 : Int) ^ d.ins = (M : Int) ∧ M = 2 ^ d.ins := ⟨2 ^ d.ins, two_pow d.ins, rfl⟩
  have hM16 : M ≤ 16 := by rw [hM]; exact Nat.pow_le_pow_right (show 0 < 2 by decide) l1
  have hwM := IntWalk.i64_in (M : Int) (by omega)
  have HM := Lib.hid hM
  have HF : Hid (Cir.stepB d o 0 s = (List.range (2 ^ d.ins)).all fun x => !Cir.bad d o s x) := Lib.hid rfl
  clear r1 r2 r3 hd hins HC ho hM hcn hcmn
  obtain ⟨z, p0, p1, p2, p3⟩ := PC.out
  go_enter Try.func105, Try.ntmps105
  go_wp2_with fail
  generalize w.alloc (.cells #[.int .i64 d.ins, .slice An d.next.length cn, vg, vo] 26) = W at *
  go_loopw [9] (fun i wr => ∃ x : Nat, i = .int .i64 x ∧ x ≤ M ∧ Hid (∀ y, y < x → (!Cir.bad d o s y) = true) ∧ Below W.heap.size W wr) (fun i _ => M - (intOf i).toNat)
  case atStart => exact ⟨0, rfl, Nat.zero_le _, Lib.hid (fun y hy => absurd hy (Nat.not_lt_zero _)), Below.refl _ _⟩
  case round =>
    obtain ⟨x, rfl, hx, HJ, hb⟩ := hrel
    have Hb := Lib.hid hb
    have hzb := hb.size
    have PCr := Lib.hid (PC.out.below hb)
    have HCr := Lib.hid (HC0.out.below hb)
    clear hb p0 p1 p2 p3 z
    obtain ⟨z, p0, p1, p2, p3⟩ := PCr.out
    by_cases hlx : x < M
    · have hdx : decide (x < M) = true := decide_eq_true hlx
      have Hbg := Lib.hid (bad_get (s := s) (x := x) Ho.out)
      have HNo : Hid (∀ (h : (!Cir.bad d o s x) = false), Cir.stepB d o 0 s = false) := Lib.hid (fun h => by
        rw [HF.out]
        refine Bool.eq_false_iff.2 fun ha => ?_
        have := List.all_eq_true.1 ha x (List.mem_range.2 (by rw [← HM.out]; exact hlx))
        rw [h] at this
        cases this)
      have HJ2 : Hid (∀ (h : (!Cir.bad d o s x) = true), ∀ y, y < x + 1 → (!Cir.bad d o s y) = true) := Lib.hid (fun h y hy => by
        rcases Nat.lt_or_ge y x with h2 | h2
        · exact HJ.out y h2
        · obtain rfl : y = x := by omega
          exact h)
      clear HJ HF
      go_wp2_with fail
      refine (l16Outs_any _ d s x _ HCr.out Hd.out (by omega) (by omega)).mono ?_
      rintro e w5 ⟨⟨u5, rfl, hu5⟩, hb5⟩
      obtain ⟨bb, oo, cc, rfl, hbb, hcell⟩ := boolsAt_cell hu5 Hbg.out
      rw [outsOf_length] at *
      have PC5 := Lib.hid (PCr.out.below hb5)
      have HC5 := Lib.hid (HCr.out.below hb5)
      have Hb5 := Lib.hid (Hb.out.trans (hb5.mono hzb))
      have hok := Ho.out
      clear hb5 p0 p1 p2 p3 z hu5 HCr PCr
      obtain ⟨z, p0, p1, p2, p3⟩ := PC5.out
      cases hbad : Cir.bad d o s x
      · rw [hbad] at hcell
        have HJt := Lib.hid (HJ2.out (by rw [hbad]; rfl))
        clear hbad HNo HJ2
        have hz0 : decide (0 < 0) = false := rfl
        go_wp2_with fail
        refine wp_region_grow (by kernel_rfl) (by kernel_rfl) ?_
        repeat (go_big_quiet_step ((fail)))
        refine wpQuiet_nil ?_
        intro _ hw'
        obtain ⟨nq, hw''⟩ := hw'
        subst hw''
        have hgq := gw_below nq
        generalize gw nq = wq at *
        clear nq
        have Hb6 := Lib.hid (Hb5.out.trans (hgq.mono Hb5.out.size))
        clear hgq p0 p1 p2 p3 z
        go_wp2_with fail
        go_roundw
        case rel => exact ⟨x + 1, by go_num, by omega, HJt, Hb6.out⟩
        case measure => simp [intOf] <;> omega
      · have HR := Lib.hid (HNo.out (by rw [hbad]; rfl))
        rw [hbad] at hcell
        clear hbad HNo HJ2
        go_wp2_with fail
        go_ret
        exact ⟨ret_bool HR.out.symm, B0.out.trans (Hb5.out.mono B0.out.size)⟩
    · obtain rfl : x = M := by omega
      have hdx : decide (x < x) = false := decide_eq_false (by omega)
      have HR : Hid (Cir.stepB d o 0 s = true) := Lib.hid (by
        rw [HF.out, List.all_eq_true]
        exact fun y hy => HJ.out y (by rw [HM.out]; exact List.mem_range.1 hy))
      clear HF HJ
      go_wp2_with fail
      go_ret
      exact ⟨ret_bool HR.out.symm, B0.out.trans (Hb.out.mono B0.out.size)⟩

set_option maxHeartbeats 16000000 in
theorem l31Step_succ (d : Ci) (o : Nat) (k : Nat) (hk : k + 1 ≤ 4) (HI : Hid (∀ (s : Nat) (v : Value) (w : World), CircAt w v (Cir.toCz d) → s < 8 → Calls Try.prog 105 #[v, .int .i64 o, .int .i64 s, .int .i64 k] w fun e w' => e = .returned (.bool (Cir.stepB d o k s)) ∧ Below w.heap.size w w')) (hd : Cir.Ok d) (ho : o < d.outs.length) (s : Nat) (v : Value) (w : World) (h : CircAt w v (Cir.toCz d)) (hs : s < 8) :
    Calls Try.prog 105 #[v, .int .i64 o, .int .i64 s, .int .i64 ((k + 1 : Nat) : Int)] w fun e w' => e = .returned (.bool (Cir.stepB d o (k + 1) s)) ∧ Below w.heap.size w w' := by
  have l1 := hd.ins
  have l4 := hd.outss
  have HC := Lib.hid h
  obtain ⟨vn, vg, vo, rfl, r1, r2, r3⟩ := h
  obtain ⟨An, cn, rfl, hcn, hcmn⟩ := NatsAt.shape (xs := d.next) r1
  have hins : (Cir.toCz d).ins = (d.ins : Int) := rfl
  rw [hins] at HC ⊢
  have B0 := Lib.hid (bel_new w (.cells #[.int .i64 d.ins, .slice An d.next.length cn, vg, vo] 26))
  have PC := Lib.hid (PCells.boxed w d.ins (.slice An d.next.length cn) vg vo 26)
  have hsz : (w.alloc (.cells #[.int .i64 d.ins, .slice An d.next.length cn, vg, vo] 26)).heap.size = w.heap.size + 1 := by simp
  have HC0 := Lib.hid (HC.out.below B0.out)
  have Hd := Lib.hid hd
  have Ho := Lib.hid ho
  obtain ⟨M, e, hM⟩ : ∃ M : Nat, (2 : Int) ^ d.ins = (M : Int) ∧ M = 2 ^ d.ins := ⟨2 ^ d.ins, two_pow d.ins, rfl⟩
  have hM16 : M ≤ 16 := by rw [hM]; exact Nat.pow_le_pow_right (show 0 < 2 by decide) l1
  have hwM := IntWalk.i64_in (M : Int) (by omega)
  have HM := Lib.hid hM
  obtain ⟨K, hK⟩ : ∃ K : Nat, K = k + 1 := ⟨_, rfl⟩
  rw [← hK]
  have hK0 : ((K : Int) == 0) = false := by simp; omega
  have hK1 : decide (0 < K) = true := decide_eq_true (by omega)
  have hwk : IntKind.i64.wrap ((K : Int) - 1) = (k : Int) := by rw [hK]; exact (IntWalk.i64_in _ (by omega)).trans (by omega)
  have HF : Hid (Cir.stepB d o K s = (List.range (2 ^ d.ins)).all fun x => Cir.bad d o s x || Cir.stepB d o k (Cir.nextOf d s x)) := Lib.hid (by rw [hK]; rfl)
  clear hK hk
  clear r1 r2 r3 hd hins HC ho hM hcn hcmn
  obtain ⟨z, p0, p1, p2, p3⟩ := PC.out
  go_enter Try.func105, Try.ntmps105
  go_wp2_with fail
  generalize w.alloc (.cells #[.int .i64 d.ins, .slice An d.next.length cn, vg, vo] 26) = W at *
  go_loopw [9] (fun i wr => ∃ x : Nat, i = .int .i64 x ∧ x ≤ M ∧ Hid (∀ y, y < x → (Cir.bad d o s y || Cir.stepB d o k (Cir.nextOf d s y)) = true) ∧ Below W.heap.size W wr) (fun i _ => M - (intOf i).toNat)
  case atStart => exact ⟨0, rfl, Nat.zero_le _, Lib.hid (fun y hy => absurd hy (Nat.not_lt_zero _)), Below.refl _ _⟩
  case round =>
    obtain ⟨x, rfl, hx, HJ, hb⟩ := hrel
    have Hb := Lib.hid hb
    have hzb := hb.size
    have PCr := Lib.hid (PC.out.below hb)
    have HCr := Lib.hid (HC0.out.below hb)
    clear hb p0 p1 p2 p3 z
    obtain ⟨z, p0, p1, p2, p3⟩ := PCr.out
    by_cases hlx : x < M
    · have hdx : decide (x < M) = true := decide_eq_true hlx
      have Hbg := Lib.hid (bad_get (s := s) (x := x) Ho.out)
      have HNo : Hid (∀ (h : (Cir.bad d o s x || Cir.stepB d o k (Cir.nextOf d s x)) = false), Cir.stepB d o K s = false) := Lib.hid (fun h => by
        rw [HF.out]
        refine Bool.eq_false_iff.2 fun ha => ?_
        have := List.all_eq_true.1 ha x (List.mem_range.2 (by rw [← HM.out]; exact hlx))
        rw [h] at this
        cases this)
      have HJ2 : Hid (∀ (h : (Cir.bad d o s x || Cir.stepB d o k (Cir.nextOf d s x)) = true), ∀ y, y < x + 1 → (Cir.bad d o s y || Cir.stepB d o k (Cir.nextOf d s y)) = true) := Lib.hid (fun h y hy => by
        rcases Nat.lt_or_ge y x with h2 | h2
        · exact HJ.out y h2
        · obtain rfl : y = x := by omega
          exact h)
      clear HJ HF
      go_wp2_with fail
      refine (l16Outs_any _ d s x _ HCr.out Hd.out (by omega) (by omega)).mono ?_
      rintro e w5 ⟨⟨u5, rfl, hu5⟩, hb5⟩
      obtain ⟨bb, oo, cc, rfl, hbb, hcell⟩ := boolsAt_cell hu5 Hbg.out
      rw [outsOf_length] at *
      have PC5 := Lib.hid (PCr.out.below hb5)
      have HC5 := Lib.hid (HCr.out.below hb5)
      have Hb5 := Lib.hid (Hb.out.trans (hb5.mono hzb))
      have hok := Ho.out
      clear hb5 p0 p1 p2 p3 z hu5 HCr PCr
      obtain ⟨z, p0, p1, p2, p3⟩ := PC5.out
      cases hbad : Cir.bad d o s x
      · rw [hbad] at hcell
        have HNX := Lib.hid (Cir.next_lt8 Hd.out s x)
        have HNo' : Hid (Cir.stepB d o k (Cir.nextOf d s x) = false → Cir.stepB d o K s = false) := Lib.hid (fun h => HNo.out (by rw [hbad, h]; rfl))
        have HJ2' : Hid (Cir.stepB d o k (Cir.nextOf d s x) = true → ∀ y, y < x + 1 → (Cir.bad d o s y || Cir.stepB d o k (Cir.nextOf d s y)) = true) := Lib.hid (fun h => HJ2.out (by rw [hbad, h]; rfl))
        have g0 := gw_cell p0 z
        have g1 := gw_cell p1 z
        have g2 := gw_cell p2 z
        have g3 := gw_cell p3 z
        have HN : Hid (∀ n : GW w5, Calls Try.prog 100 #[.agg #[.int .i64 d.ins, .slice An d.next.length cn, vg, vo], .int .i64 s, .int .i64 x] (gw n) fun e w' => e = .returned (.int .i64 (Cir.nextOf d s x : Nat)) ∧ Below (gw n).heap.size (gw n) w') := Lib.hid fun n => l16Next_any _ d s x _ (HC5.out.below (gw_below n)) Hd.out (by omega) (by omega)
        have HS : Hid (∀ n : GW w5, Calls Try.prog 105 #[.agg #[.int .i64 d.ins, .slice An d.next.length cn, vg, vo], .int .i64 o, .int .i64 (Cir.nextOf d s x : Nat), .int .i64 k] (gw n) fun e w' => e = .returned (.bool (Cir.stepB d o k (Cir.nextOf d s x))) ∧ Below (gw n).heap.size (gw n) w') := Lib.hid fun n => HI.out _ _ _ (HC5.out.below (gw_below n)) HNX.out
        clear hbad HNo HJ2 HI
        generalize Cir.stepB d o k (Cir.nextOf d s x) = sv at *
        generalize Cir.nextOf d s x = nx at *
        go_wp2_with fail
        refine wp_region_grow (by kernel_rfl) (by kernel_rfl) ?_
        repeat (go_big_quiet_step ((first | (go_at_call 100; exact grow_call (HN.out _)) | (go_at_call 105; exact grow_call (HS.out _)))))
        refine wpQuiet_nil ?_
        intro _ hw'
        obtain ⟨nq, hw''⟩ := hw'
        subst hw''
        have hgq := gw_below nq
        generalize gw nq = wq at *
        clear nq
        have Hb6 := Lib.hid (Hb5.out.trans (hgq.mono Hb5.out.size))
        clear hgq g0 g1 g2 g3 HN HS p0 p1 p2 p3 z
        cases sv
        · have HR := Lib.hid (HNo'.out rfl)
          clear HNo' HJ2'
          go_wp2_with fail
          go_ret
          exact ⟨ret_bool HR.out.symm, B0.out.trans (Hb6.out.mono B0.out.size)⟩
        · go_wp2_with fail
          go_roundw
          case rel => exact ⟨x + 1, by go_num, by omega, Lib.hid (HJ2'.out rfl), Hb6.out⟩
          case measure => simp [intOf] <;> omega
      · have HJt := Lib.hid (HJ2.out (by rw [hbad]; rfl))
        rw [hbad] at hcell
        clear hbad HNo HJ2
        go_wp2_with fail
        go_roundw
        case rel => exact ⟨x + 1, by go_num, by omega, HJt, Hb5.out⟩
        case measure => simp [intOf] <;> omega
    · obtain rfl : x = M := by omega
      have hdx : decide (x < x) = false := decide_eq_false (by omega)
      have HR : Hid (Cir.stepB d o K s = true) := Lib.hid (by
        rw [HF.out, List.all_eq_true]
        exact fun y hy => HJ.out y (by rw [HM.out]; exact List.mem_range.1 hy))
      clear HF HJ
      go_wp2_with fail
      go_ret
      exact ⟨ret_bool HR.out.symm, B0.out.trans (Hb.out.mono B0.out.size)⟩

theorem l31Step_any (d : Ci) (o : Nat) (hd : Cir.Ok d) (ho : o < d.outs.length) : ∀ (k : Nat), k ≤ 4 → ∀ (s : Nat) (v : Value) (w : World), CircAt w v (Cir.toCz d) → s < 8 →
    Calls Try.prog 105 #[v, .int .i64 o, .int .i64 s, .int .i64 k] w fun e w' => e = .returned (.bool (Cir.stepB d o k s)) ∧ Below w.heap.size w w'
  | 0, _, s, v, w, h, hs => l31Step_zero d o hd ho s v w h hs
  | k + 1, hk, s, v, w, h, hs => l31Step_succ d o k hk (Lib.hid (l31Step_any d o hd ho k (by omega))) hd ho s v w h hs
set_option maxHeartbeats 16000000 in
theorem specInd_ok (v : Value) (d : Ci) (o k : Nat) (w : World) (h : CircAt w v (Cir.toCz d)) (hd : Cir.Ok d) (hv : Cir.valid (Cir.toCz d) = true) (ho : o < d.outs.length) (hk1 : 1 ≤ k) (hk4 : k ≤ 4) :
    Calls Try.prog 54 #[v, .int .i64 o, .int .i64 k] w fun e w' => e = .returned (.bool (Cir.ind d o k)) ∧ Below w.heap.size w w' := by
  have l1 := hd.ins
  have l2 := hd.nexts
  have l4 := hd.outss
  have HC := Lib.hid h
  obtain ⟨vn, vg, vo, rfl, r1, r2, r3⟩ := h
  obtain ⟨Ao, co, rfl, hco, hcom⟩ := NatsAt.shape (xs := d.outs) r3
  obtain ⟨An, cn, rfl, hcn, hcmn⟩ := NatsAt.shape (xs := d.next) r1
  have hins : (Cir.toCz d).ins = (d.ins : Int) := rfl
  rw [hins] at HC ⊢
  have B0 := Lib.hid (bel_new w (.cells #[.int .i64 d.ins, .slice An d.next.length cn, vg, .slice Ao d.outs.length co] 26))
  have PC := Lib.hid (PCells.boxed w d.ins (.slice An d.next.length cn) vg (.slice Ao d.outs.length co) 26)
  have hsz : (w.alloc (.cells #[.int .i64 d.ins, .slice An d.next.length cn, vg, .slice Ao d.outs.length co] 26)).heap.size = w.heap.size + 1 := by simp
  obtain ⟨z, p0, p1, p2, p3⟩ := PC.out
  have HC0 := Lib.hid (HC.out.below B0.out)
  have HV := Lib.hid (specValid_any _ _ _ HC0.out)
  rw [hv] at HV
  have Hd := Lib.hid hd
  have Ho := Lib.hid ho
  have HIS := Lib.hid (Cir.ind_spec hd o k)
  obtain ⟨N, eN, hN⟩ : ∃ N : Nat, (2 : Int) ^ d.next.length = (N : Int) ∧ N = 2 ^ d.next.length := ⟨2 ^ d.next.length, two_pow d.next.length, rfl⟩
  have hN8 : N ≤ 8 := by rw [hN]; exact Nat.pow_le_pow_right (show 0 < 2 by decide) l2
  have hN0 : 0 < N := by rw [hN]; exact Nat.pow_pos (by decide)
  have hwN := IntWalk.i64_in (N : Int) (by omega)
  have hwl := IntWalk.i64_in ((d.outs.length : Int) - 1) (by omega)
  have Hin := Lib.hid (fun w' => l1In_any (o : Int) 0 ((d.outs.length : Int) - 1) w')
  rw [show decide ((0 : Int) ≤ (o : Int) ∧ (o : Int) ≤ (d.outs.length : Int) - 1) = true from decide_eq_true (by omega)] at Hin
  have Hik := Lib.hid (fun w' => l1In_any (k : Int) 1 4 w')
  rw [show decide ((1 : Int) ≤ (k : Int) ∧ (k : Int) ≤ 4) = true from decide_eq_true (by omega)] at Hik
  rw [← hN] at HIS
  have HN := Lib.hid hN
  clear r1 r2 r3 hd hins hv HC ho hco hcom hcn hcmn hN
  go_enter Try.func54, Try.ntmps54
  go_wp2_with fail
  generalize w.alloc (.cells #[.int .i64 d.ins, .slice An d.next.length cn, vg, .slice Ao d.outs.length co] 26) = W at *
  refine HV.out.mono ?_
  rintro e w1 ⟨rfl, hb1⟩
  have B1 := Lib.hid (B0.out.trans (hb1.mono B0.out.size))
  have HC1 := Lib.hid (HC0.out.below hb1)
  have PC1 := Lib.hid (PC.out.below hb1)
  have z1 := hb1.size
  clear hb1 p0 p1 p2 p3 z HV HC0 PC
  obtain ⟨z, p0, p1, p2, p3⟩ := PC1.out
  have hrw := (Hin.out w1)
  go_wp2_with fail
  refine hrw.mono ?_
  rintro e w' ⟨rfl, rfl⟩
  clear hrw Hin hwl
  go_wp2_with fail
  refine (Hik.out w1).mono ?_
  rintro e w' ⟨rfl, rfl⟩
  clear Hik
  go_wp2_with fail
  refine (l31Safe_any _ d o k _ HC1.out Hd.out Ho.out (by omega)).mono ?_
  rintro e w2 ⟨u2, rfl, hO2, hb2⟩
  rw [← HN.out] at hO2
  obtain ⟨bb, oo, cc, hu2, hbb, hcell⟩ := boolsAt_cell (bools_at_own hO2 rfl) (Cir.safes_get (c := d) (o := o) (k := k) hN0)
  rw [Cir.safes_length] at hu2
  subst hu2
  have B2 := Lib.hid (B1.out.trans (hb2.mono B1.out.size))
  have HC2 := Lib.hid (HC1.out.below hb2)
  have PC2 := Lib.hid (PC1.out.below hb2)
  have z2 := hb2.size
  clear hb2 hO2 p0 p1 p2 p3 z HC1 PC1
  obtain ⟨z, p0, p1, p2, p3⟩ := PC2.out
  cases hsf : Cir.safe d o k 0
  · have HR : Hid (Cir.ind d o k = false) := Lib.hid (by rw [HIS.out, hsf]; rfl)
    rw [Nat.add_zero] at hcell
    rw [hsf] at hcell
    clear HIS hsf
    go_wp2_with fail
    go_ret
    exact ⟨ret_bool HR.out.symm, B2.out⟩
  · rw [hsf, Bool.true_and] at HIS
    rw [Nat.add_zero] at hcell
    rw [hsf] at hcell
    clear hsf
    go_wp2_with fail
    clear hcell hbb p0 p1 p2 p3 z
    go_loopw [7] (fun i wr => ∃ s : Nat, i = .int .i64 s ∧ s ≤ N ∧ Hid (∀ y, y < s → Cir.stepB d o k y = true) ∧ Below w2.heap.size w2 wr) (fun i _ => N - (intOf i).toNat)
    case atStart => exact ⟨0, rfl, Nat.zero_le _, Lib.hid (fun y hy => absurd hy (Nat.not_lt_zero _)), Below.refl _ _⟩
    case round =>
      obtain ⟨s, rfl, hs, HJ, hb⟩ := hrel
      have Hb := Lib.hid hb
      have hzb := hb.size
      have PCr := Lib.hid (PC2.out.below hb)
      have HCr := Lib.hid (HC2.out.below hb)
      clear hb
      obtain ⟨z, p0, p1, p2, p3⟩ := PCr.out
      by_cases hls : s < N
      · have hds : decide (s < N) = true := decide_eq_true hls
        go_wp2_with fail
        refine (l31Step_any d o Hd.out Ho.out k (by omega) s _ _ HCr.out (by omega)).mono ?_
        rintro e w5 ⟨rfl, hb5⟩
        have Hb5 := Lib.hid (Hb.out.trans (hb5.mono hzb))
        clear hb5 p0 p1 p2 p3 z
        cases hst : Cir.stepB d o k s
        · have HR : Hid (Cir.ind d o k = false) := Lib.hid (by
            rw [HIS.out]
            refine Bool.eq_false_iff.2 fun ha => ?_
            have := List.all_eq_true.1 ha s (List.mem_range.2 hls)
            rw [hst] at this
            cases this)
          clear HIS hst
          go_wp2_with fail
          go_ret
          exact ⟨ret_bool HR.out.symm, B2.out.trans (Hb5.out.mono B2.out.size)⟩
        · have HJ2 : Hid (∀ y, y < s + 1 → Cir.stepB d o k y = true) := Lib.hid (fun y hy => by
            rcases Nat.lt_or_ge y s with h2 | h2
            · exact HJ.out y h2
            · obtain rfl : y = s := by omega
              exact hst)
          clear hst HJ
          go_wp2_with fail
          go_roundw
          case rel => exact ⟨s + 1, by go_num, by omega, HJ2, Hb5.out⟩
          case measure => simp [intOf] <;> omega
      · obtain rfl : s = N := by omega
        have hds : decide (s < s) = false := decide_eq_false (by omega)
        have HR : Hid (Cir.ind d o k = true) := Lib.hid (by
          rw [HIS.out, List.all_eq_true]
          exact fun y hy => HJ.out y (List.mem_range.1 hy))
        clear HIS HJ
        go_wp2_with fail
        go_ret
        exact ⟨ret_bool HR.out.symm, B2.out.trans (Hb.out.mono B2.out.size)⟩
theorem specInd_no (v : Value) (c : Cz) (o k : Int) (w : World) (h : CircAt w v c) (hno : ¬ Cir.indOk c o k) :
    Calls Try.prog 54 #[v, .int .i64 o, .int .i64 k] w fun e w' => e = .returned (.bool false) ∧ Below w.heap.size w w' := by
  have HC := Lib.hid h
  obtain ⟨An, cn, Ag, cg, Ao, co, rfl⟩ := h.shape
  have B0 := Lib.hid (bel_new w (.cells #[.int .i64 c.ins, .slice An c.next.length cn, .slice Ag c.gates.length cg, .slice Ao c.outs.length co] 26))
  have PC := Lib.hid (PCells.boxed w c.ins (.slice An c.next.length cn) (.slice Ag c.gates.length cg) (.slice Ao c.outs.length co) 26)
  have hsz : (w.alloc (.cells #[.int .i64 c.ins, .slice An c.next.length cn, .slice Ag c.gates.length cg, .slice Ao c.outs.length co] 26)).heap.size = w.heap.size + 1 := by simp
  obtain ⟨z, p0, p1, p2, p3⟩ := PC.out
  have HV := Lib.hid (specValid_any _ _ _ (HC.out.below B0.out))
  have Hno := Lib.hid hno
  clear HC h hno
  cases hv : Cir.valid c
  · rw [hv] at HV
    clear hv Hno
    go_enter Try.func54, Try.ntmps54
    go_wp2_with fail
    generalize w.alloc (.cells #[.int .i64 c.ins, .slice An c.next.length cn, .slice Ag c.gates.length cg, .slice Ao c.outs.length co] 26) = W at *
    refine HV.out.mono ?_
    rintro e w1 ⟨rfl, hb1⟩
    have B1 := Lib.hid (B0.out.trans (hb1.mono B0.out.size))
    have PC1 := Lib.hid (PC.out.below hb1)
    have z1 := hb1.size
    clear hb1 p0 p1 p2 p3 z HV PC
    obtain ⟨z, p0, p1, p2, p3⟩ := PC1.out
    go_wp2_with fail
    go_ret
    exact ⟨rfl, B1.out⟩
  · have hl := valid_outs hv
    have hwl := IntWalk.i64_in ((c.outs.length : Int) - 1) (by omega)
    have Hin := Lib.hid (fun w' => l1In_any o 0 ((c.outs.length : Int) - 1) w')
    rw [hv] at HV
    by_cases h1 : 0 ≤ o ∧ o < c.outs.length
    · rw [show decide (0 ≤ o ∧ o ≤ (c.outs.length : Int) - 1) = true from decide_eq_true (by omega)] at Hin
      have Hik := Lib.hid (fun w' => l1In_any k 1 4 w')
      rw [show decide (1 ≤ k ∧ k ≤ 4) = false from decide_eq_false (fun hk => Hno.out (by unfold Cir.indOk; exact ⟨hv, h1, hk.1, hk.2⟩))] at Hik
      clear h1 hl hv Hno
      go_enter Try.func54, Try.ntmps54
      go_wp2_with fail
      generalize w.alloc (.cells #[.int .i64 c.ins, .slice An c.next.length cn, .slice Ag c.gates.length cg, .slice Ao c.outs.length co] 26) = W at *
      refine HV.out.mono ?_
      rintro e w1 ⟨rfl, hb1⟩
      have B1 := Lib.hid (B0.out.trans (hb1.mono B0.out.size))
      have PC1 := Lib.hid (PC.out.below hb1)
      have z1 := hb1.size
      clear hb1 p0 p1 p2 p3 z HV PC
      obtain ⟨z, p0, p1, p2, p3⟩ := PC1.out
      go_wp2_with fail
      refine (Hin.out w1).mono ?_
      rintro e w' ⟨rfl, rfl⟩
      clear Hin hwl
      go_wp2_with fail
      refine (Hik.out w1).mono ?_
      rintro e w' ⟨rfl, rfl⟩
      clear Hik
      go_wp2_with fail
      go_ret
      exact ⟨rfl, B1.out⟩
    · rw [show decide (0 ≤ o ∧ o ≤ (c.outs.length : Int) - 1) = false from decide_eq_false (by omega)] at Hin
      clear h1 hl hv Hno
      go_enter Try.func54, Try.ntmps54
      go_wp2_with fail
      generalize w.alloc (.cells #[.int .i64 c.ins, .slice An c.next.length cn, .slice Ag c.gates.length cg, .slice Ao c.outs.length co] 26) = W at *
      refine HV.out.mono ?_
      rintro e w1 ⟨rfl, hb1⟩
      have B1 := Lib.hid (B0.out.trans (hb1.mono B0.out.size))
      have PC1 := Lib.hid (PC.out.below hb1)
      have z1 := hb1.size
      clear hb1 p0 p1 p2 p3 z HV PC
      obtain ⟨z, p0, p1, p2, p3⟩ := PC1.out
      go_wp2_with fail
      refine (Hin.out w1).mono ?_
      rintro e w' ⟨rfl, rfl⟩
      clear Hin hwl
      go_wp2_with fail
      go_ret
      exact ⟨rfl, B1.out⟩
theorem specInd_any (v : Value) (c : Cz) (o k : Int) (w : World) (h : CircAt w v c) :
    Calls Try.prog 54 #[v, .int .i64 o, .int .i64 k] w fun e w' => e = .returned (.bool (Cir.indI c o k)) ∧ Below w.heap.size w w' := by
  by_cases hc : Cir.indOk c o k
  · rw [Cir.indI_yes hc]
    obtain ⟨hv, ⟨h1, h2⟩, h3, h4⟩ := hc
    obtain ⟨d1, d2⟩ := Cir.nat_ok hv
    obtain ⟨m, rfl⟩ := Int.eq_ofNat_of_zero_le h1
    obtain ⟨q, rfl⟩ := Int.eq_ofNat_of_zero_le (show 0 ≤ k by omega)
    exact specInd_ok v (Cir.nat c) m q w (by rw [← d1]; exact h) d2 (by rw [← d1]; exact hv) (by unfold Cir.nat; simp only [List.length_map]; omega) (by omega) (by omega)
  · rw [Cir.indI_no hc]
    exact specInd_no v c o k w h hc
end Go.Proofs.Ytopimdakpnnbhaa

namespace Go.Proofs.Ytopimdakpnnbhaa
namespace Cir
/-! Induction over clock cycles is sound, plainly. -/
def Sub (S T : Nat → Bool) : Prop := ∀ s, s < 8 → S s = true → T s = true
theorem adv_mono {c : Ci} {o : Nat} {S T : Nat → Bool} (h : Sub S T) : Sub (adv c o S) (adv c o T) := fun y _ hy => by
  obtain ⟨s, hs, h1, h2⟩ := adv_iff.1 hy
  exact adv_iff.2 ⟨s, hs, h s hs h1, h2⟩
theorem advN_mono {c : Ci} {o : Nat} {S T : Nat → Bool} (h : Sub S T) : ∀ j, Sub (advN c o S j) (advN c o T j)
  | 0 => h
  | j + 1 => adv_mono (advN_mono h j)
theorem good_mono {c : Ci} {o : Nat} {S T : Nat → Bool} (h : Sub S T) (hT : good c o T = true) : good c o S = true :=
  good_iff.2 fun s hs hS => good_iff.1 hT s hs (h s hs hS)
theorem advN_add (c : Ci) (o : Nat) (S : Nat → Bool) (i : Nat) : ∀ j, advN c o S (i + j) = advN c o (advN c o S i) j
  | 0 => rfl
  | j + 1 => by
    show adv c o (advN c o S (i + j)) = adv c o (advN c o (advN c o S i) j)
    rw [advN_add c o S i j]
theorem adv_upTo {c : Ci} {o : Nat} {S : Nat → Bool} : Sub (adv c o S) (upTo (2 ^ c.next.length)) := fun y _ hy => by
  obtain ⟨s, _, _, x, _, _, rfl⟩ := adv_iff.1 hy
  exact decide_eq_true (nextOf_lt c s x)
theorem only0_upTo (c : Ci) : Sub only0 (upTo (2 ^ c.next.length)) := fun s _ hs => by
  have : s = 0 := by simpa [only0] using hs
  rw [this]
  exact decide_eq_true (Nat.pow_pos (by decide))
theorem start_upTo (c : Ci) (o : Nat) : ∀ i, Sub (advN c o only0 i) (upTo (2 ^ c.next.length))
  | 0 => only0_upTo c
  | _ + 1 => adv_upTo
theorem ind_parts {c : Ci} {o k : Nat} (h : ind c o k = true) : (∀ j, j < k → good c o (advN c o only0 j) = true) ∧ good c o (advN c o (upTo (2 ^ c.next.length)) k) = true := by
  unfold ind at h
  rw [Bool.and_eq_true, List.all_eq_true] at h
  exact ⟨fun j hj => h.1 j (List.mem_range.2 hj), h.2⟩
theorem ind_all {c : Ci} {o k : Nat} (h : ind c o k = true) (j : Nat) : good c o (advN c o only0 j) = true := by
  obtain ⟨h1, h2⟩ := ind_parts h
  rcases Nat.lt_or_ge j k with hj | hj
  · exact h1 j hj
  · obtain ⟨i, rfl⟩ : ∃ i, j = i + k := ⟨j - k, by omega⟩
    rw [advN_add]
    exact good_mono (advN_mono (start_upTo c o i) k) h2
theorem ind_succ {c : Ci} {o k : Nat} (h : ind c o k = true) : ind c o (k + 1) = true := by
  rw [ind_yes fun j _ => ind_all h j, advN_adv]
  exact good_mono (advN_mono adv_upTo k) (ind_parts h).2
theorem run_adv {c : Ci} (hc : Ok c) {o : Nat} (h : ∀ j, good c o (advN c o only0 j) = true) : ∀ (n : Nat) (p : List Nat), p.length = n → Inputs c p → advN c o only0 n (runN c 0 p) = true ∧ runN c 0 p < 2 ^ c.next.length
  | 0, p, hl, _ => by
    obtain rfl := List.eq_nil_of_length_eq_zero hl
    exact ⟨rfl, Nat.pow_pos (by decide)⟩
  | n + 1, p, hl, hp => by
    have hne : p ≠ [] := by intro e; rw [e] at hl; simp at hl
    obtain ⟨q, x, rfl⟩ : ∃ q x, p = q ++ [x] := ⟨p.dropLast, p.getLast hne, (List.dropLast_concat_getLast hne).symm⟩
    have hq : q.length = n := by simpa using hl
    obtain ⟨h1, h2⟩ := run_adv hc h n q hq fun y hy => hp y (List.mem_append_left _ hy)
    have hx : x < 2 ^ c.ins := hp x (by simp)
    have h8 : 2 ^ c.next.length ≤ 2 ^ 3 := Nat.pow_le_pow_right (show 0 < 2 by decide) hc.nexts
    have hb := good_iff.1 (h n) (runN c 0 q) (by omega) h1 x hx
    rw [runN_snoc]
    exact ⟨adv_iff.2 ⟨runN c 0 q, by omega, h1, x, hx, hb, rfl⟩, nextOf_lt c _ _⟩
theorem ind_viol {c : Ci} (hc : Ok c) {o k : Nat} (h : ind c o k = true) : viol c o = none := by
  refine (viol_none hc).2 fun s hs x hx => ?_
  obtain ⟨p, hp, rfl⟩ := reach_run hs
  obtain ⟨h1, h2⟩ := run_adv hc (ind_all h) p.length p rfl hp
  have h8 : 2 ^ c.next.length ≤ 2 ^ 3 := Nat.pow_le_pow_right (show 0 < 2 by decide) hc.nexts
  exact good_iff.1 (ind_all h p.length) _ (by omega) h1 x hx
end Cir
end Go.Proofs.Ytopimdakpnnbhaa
