import Derived.Test.YtlbfejdbfhgifaaS03
import Derived.Test.YtlbfejdbfhgifaaProg
import Derived.Test.YtlbfejdbfhgifaaS01
import Derived.Lib.SmallJoins
import Derived.ProofKit
import Derived.Deep.Slices
import Derived.Deep.Fields
import Derived.ChangeSame
import Derived.Test.YtlbfejdbfhgifaaS02
import Derived.Maps.Views
import Derived.Maps.OwnOps
import Derived.Maps.RangeWalk
set_option linter.unusedVariables false
set_option linter.unusedSimpArgs false
namespace Go.Proofs.Ytlbfejdbfhgifaa
open Go.RowKit
set_option maxRecDepth 100000
/-! Rows of inputs; ternary values of bits. -/
theorem all_dropG' {α : Type} {p : α → Bool} {l : List α} {k : Nat} {x : α} (h : l[k]? = some x) : (l.drop k).all p = (p x && (l.drop (k + 1)).all p) := by
  obtain ⟨hk, rfl⟩ := List.getElem?_eq_some_iff.1 h
  rw [List.drop_eq_getElem_cons hk, List.all_cons]
namespace Cir
def rowOk (i : Int) (r : List Bool) : Bool := decide ((r.length : Int) = i)
def rowsOk (c : Cz) (rss : List (List Bool)) : Bool := valid c && (decide (rss.length ≤ 40) && rss.all (rowOk c.ins))
def terns (r : List Bool) : List Nat := r.map Bool.toNat
theorem terns_length (r : List Bool) : (terns r).length = r.length := List.length_map _
theorem terns_le (r : List Bool) : ∀ x ∈ terns r, x ≤ 2 := fun x hx => by
  obtain ⟨b, _, rfl⟩ := List.mem_map.1 hx
  cases b <;> simp
theorem terns_snoc {r : List Bool} {k : Nat} {b : Bool} (h : r[k]? = some b) : terns (r.take (k + 1)) = terns (r.take k) ++ [b.toNat] := by
  unfold terns
  rw [take_snoc h, List.map_append]
  rfl
end Cir
theorem ternaryOf_any (v : Value) (xs : List Bool) (w : World) (h : BoolsAt w v xs) (hx : xs.length ≤ 1000) :
    Calls Try.prog 49 #[v] w (OwnInts (nats (Cir.terns xs)) w) := by
  obtain ⟨A, c, rfl, hc, hcm⟩ := Row.shape h
  have hmk := run_make_cap (P := Try.prog) 22 3 (.int .i64 0) 1 8 Try.underlying22 info_int .i64 .i64 xs.length (by omega) (by omega)
  simp only [Value.cells, Nat.mul_one] at hmk
  have H := Lib.hid h
  clear h
  go_enter Try.func49, Try.ntmps49
  go_wp2_with fail
  have hown0 := World.ownsRow_made (base := w.heap.size) (e := 3) (size := 1) w (madeCells #[Value.int .i64 0] xs.length) xs.length (Nat.le_refl _) (by unfold maxLen; omega) (by simp [madeCells])
  have hb0 : Below w.heap.size w (w.alloc (.cells (madeCells #[Value.int .i64 0] xs.length) 3)) := bel_new _ _
  clear hmk
  go_loopw [3, 12] (fun v i wr => ∃ (vv : Value) (k : Nat), vv = v ∧ k ≤ xs.length ∧ i = .int .i64 k ∧ Hid (wr.ownsRow w.heap.size 3 1 v k (nints (Cir.terns (xs.take k)))) ∧ Below w.heap.size w wr) (fun _ i _ => xs.length - (intOf i).toNat)
  case atStart => exact ⟨_, 0, rfl, Nat.zero_le _, rfl, Lib.hid hown0, hb0⟩
  case round =>
    obtain ⟨vv, k, hvv, hk, rfl, Ho, hb⟩ := hrel
    subst hvv
    clear hown0 hb0
    by_cases hlt : k < xs.length
    · have hz := hb.size
      have Hb := Lib.hid hb
      obtain ⟨b, o, u, rfl, hbl, hx0, hs0⟩ := bools_open H.out hb rfl hlt
      have HS : Hid (nints (Cir.terns (xs.take (k + 1))) = nints (Cir.terns (xs.take k)) ++ [.int .i64 (u.toNat : Nat)]) := Lib.hid (by rw [Cir.terns_snoc hx0.out, nints_snoc])
      clear hb
      cases u
      all_goals
        have Hlit := fun i : Int => Lib.hid (Row.of_own (World.ownsRow_lit (base := wr.heap.size) (e := 3) (size := 1) wr #[.int .i64 i] 1 (Nat.le_refl _) (by unfold maxLen; omega) rfl))
        go_wp2_with (at_builtin; refine append_ints rfl (.tmp 17) (.tmp 19) rfl w.heap.size _ k _ rfl (Ho.out.alloc _) _ 1 [.int .i64 _] rfl (Hlit _).out (by simp [Value.oneCell']) (by omega) (by simp; omega) ?_; intro v7 w7 hown7 hg7 hat7; have Ho7 := Lib.hid hown7; have Hg7 := Lib.hid hg7; clear hown7 hg7 hat7)
        go_roundw
        case rel => exact ⟨_, k + 1, rfl, by omega, by go_num, Lib.hid (by rw [HS.out]; exact Ho7.out), (Hb.out.alloc hz _).grown Hg7.out (Hb.out.alloc hz _).size (own_ge0 Ho.out)⟩
        case measure => simp [intOf] <;> omega
    · obtain rfl : k = xs.length := by omega
      go_wp2_with fail
      go_ret
      exact ⟨_, rfl, by rw [nats_length, Cir.terns_length]; have := Ho.out; rwa [List.take_length] at this, hb⟩
end Go.Proofs.Ytlbfejdbfhgifaa

namespace Go.Proofs.Ytlbfejdbfhgifaa
open Go.RowKit
set_option maxRecDepth 100000
theorem cell_only {E : Nat → Prop} {w w' : World} {g i : Nat} {u : Value} (ho : Only E w w') (hn : ¬ E g) (hl : g < w.heap.size) (h : w.cell? ⟨g, i, none⟩ = some u) : w'.cell? ⟨g, i, none⟩ = some u := cell_on ho hn hl h
set_option maxHeartbeats 16000000 in
theorem specEvalT_ok (v vs vi : Value) (d : Ci) (st inp : List Nat) (w : World) (h : CircAt w v (Cir.toCz d)) (hd : Cir.Ok d) (hv : Cir.valid (Cir.toCz d) = true) (hs : NatsAt w vs st) (hi : NatsAt w vi inp) (h1 : inp.length = d.ins) (h2 : st.length = d.next.length) (t1 : ∀ x ∈ st, x ≤ 2) (t2 : ∀ x ∈ inp, x ≤ 2) :
    Calls Try.prog 43 #[v, vs, vi] w (OwnInts (nats (Cir.tvals d st inp)) w) := by
  have l1 := hd.ins
  have l2 := hd.nexts
  have l3 := hd.gatess
  have HG := Lib.hid hd.gate
  have hnl : (Cir.toCz d).next.length = d.next.length := List.length_map _
  have hgl : (Cir.toCz d).gates.length = d.gates.length := List.length_map _
  have HCa := Lib.hid h
  obtain ⟨vn, vg, vo, rfl, r1, r2, r3⟩ := h
  obtain ⟨An, cn, hvn, hcn, hcmn⟩ := r1.shape
  obtain ⟨Ag, cg, hvg, hcg, hcmg⟩ := Row.shape r2
  rw [hnl] at hvn
  rw [hgl] at hvg hcg
  subst hvn hvg
  have hins : (Cir.toCz d).ins = (d.ins : Int) := rfl
  rw [hins] at HCa ⊢
  have B0 := Lib.hid (bel_al w (.cells #[.int .i64 d.ins, .slice An d.next.length cn, .slice Ag d.gates.length cg, vo] 31))
  have PC := Lib.hid (PCells.boxed w d.ins (.slice An d.next.length cn) (.slice Ag d.gates.length cg) vo 31)
  have R2 : Hid (Row w 2 (.slice Ag d.gates.length cg) d.gates.length (cubes (Cir.toCz d).gates)) := Lib.hid (by have := r2; unfold CubesAt at this; rwa [hgl] at this)
  have HV : Hid (Calls Try.prog 39 #[.agg #[.int .i64 d.ins, .slice An d.next.length cn, .slice Ag d.gates.length cg, vo]] (w.alloc (.cells #[.int .i64 d.ins, .slice An d.next.length cn, .slice Ag d.gates.length cg, vo] 31)) fun e w' => e = .returned (.bool true) ∧ Below (w.alloc (.cells #[.int .i64 d.ins, .slice An d.next.length cn, .slice Ag d.gates.length cg, vo] 31)).heap.size (w.alloc (.cells #[.int .i64 d.ins, .slice An d.next.length cn, .slice Ag d.gates.length cg, vo] 31)) w') := Lib.hid (by
    have := specValid_any _ _ _ (HCa.out.below B0.out)
    rwa [hv] at this)
  have a1 : (nats st).all Cir.tern = true := by
    rw [List.all_eq_true]
    intro x hx
    obtain ⟨y, hy, rfl⟩ := List.mem_map.1 hx
    have := t1 y hy
    exact decide_eq_true (by simp; omega)
  have a2 : (nats inp).all Cir.tern = true := by
    rw [List.all_eq_true]
    intro x hx
    obtain ⟨y, hy, rfl⟩ := List.mem_map.1 hx
    have := t2 y hy
    exact decide_eq_true (by simp; omega)
  have HO1 : Hid (∀ w', Below w.heap.size w w' → Calls Try.prog 99 #[vs, .int .i64 d.next.length] w' fun e w'' => e = .returned (.bool true) ∧ w' = w'') := Lib.hid fun w' hb => by
    have := l27Ok_any vs (nats st) d.next.length w' (Row.below hs hb)
    rwa [a1, nats_length, h2, decide_eq_true rfl] at this
  have HO2 : Hid (∀ w', Below w.heap.size w w' → Calls Try.prog 99 #[vi, .int .i64 d.ins] w' fun e w'' => e = .returned (.bool true) ∧ w' = w'') := Lib.hid fun w' hb => by
    have := l27Ok_any vi (nats inp) d.ins w' (Row.below hi hb)
    rwa [a2, nats_length, h1, decide_eq_true rfl] at this
  have Hs := Lib.hid hs
  have Hi := Lib.hid hi
  have HE : Hid (∀ k, k ≤ d.gates.length → (Cir.tevalG (d.gates.take k) (0 :: (inp ++ st))).length = Cir.nfirst d + k) := Lib.hid fun k hk => by
    rw [Cir.tevalG_length]
    simp [Cir.nfirst, h1, h2]
    omega
  have HT : Hid (∀ k, ∀ x ∈ Cir.tevalG (d.gates.take k) (0 :: (inp ++ st)), x ≤ 2) := Lib.hid fun k => Cir.tevalG_le _ fun x hx => by
    rcases List.mem_cons.1 hx with rfl | hx
    · omega
    · rcases List.mem_append.1 hx with h | h
      · exact t2 x h
      · exact t1 x h
  have hnf : Cir.nfirst d ≤ 8 := by unfold Cir.nfirst; omega
  have HVV : Hid (Cir.tevalG (d.gates.take d.gates.length) (0 :: (inp ++ st)) = Cir.tvals d st inp) := Lib.hid (by rw [List.take_length]; rfl)
  have HI0 : Hid (nints (0 :: (inp ++ st)) = [.int .i64 0] ++ nints inp ++ nints st ∧ (0 :: (inp ++ st)).length = 1 + inp.length + st.length) := Lib.hid (by simp [nints, ints, nats]; omega)
  have hi4 : inp.length ≤ 4 := by omega
  have hs3 : st.length ≤ 3 := by omega
  generalize Cir.tvals d st inp = res at *
  generalize Cir.nfirst d = nf at *
  generalize (0 :: (inp ++ st)) = I0 at *
  generalize hW : w.alloc (.cells #[.int .i64 d.ins, .slice An d.next.length cn, .slice Ag d.gates.length cg, vo] 31) = W at *
  obtain ⟨z, p0, p1, p2, p3⟩ := PC.out
  clear r1 r2 r3 hs hi h1 h2 t1 t2 a1 a2 hv hd hnl HCa hins
  obtain ⟨i0, hi0, hz0, hz1, hz2⟩ := info_parts info_int
  go_enter Try.func43, Try.ntmps43
  go_wp2_with fail
  refine HV.out.mono ?_
  rintro e w1 ⟨rfl, hb1⟩
  have B1 := Lib.hid (B0.out.trans (hb1.mono B0.out.size))
  have PC1 := Lib.hid (PC.out.below hb1)
  clear z p0 p1 p2 p3 hb1 PC
  obtain ⟨z, p0, p1, p2, p3⟩ := PC1.out
  go_wp2_with fail
  refine (HO1.out _ B1.out).mono ?_
  rintro e w' ⟨rfl, rfl⟩
  go_wp2_with fail
  refine (HO2.out _ B1.out).mono ?_
  rintro e w' ⟨rfl, rfl⟩
  have hzw : w.heap.size + 1 ≤ w1.heap.size := by omega
  have Hlit : Hid ((w1.alloc (.cells #[.int .i64 0] 3)).ownsRow (w.heap.size + 1) 3 1 (.slice (some ⟨w1.heap.size, 0, none⟩) 1 1) 1 [.int .i64 0]) := Lib.hid (World.ownsRow_lit (base := w.heap.size + 1) (e := 3) (size := 1) w1 #[.int .i64 0] 1 hzw (by unfold maxLen; omega) rfl)
  have Bl := Lib.hid (B1.out.alloc B1.out.size (.cells #[.int .i64 0] 3))
  have PCl := Lib.hid (cells_alloc PC1.out (.cells #[.int .i64 0] 3))
  clear HO1 HO2 HV hW p0 p1 p2 p3 z
  go_wp2_with (first
    | (at_builtin; refine append_ints rfl (.tmp 28) (.tmp 29) rfl (w.heap.size + 1) _ 1 [.int .i64 0] rfl Hlit.out _ inp.length (nints inp) rfl (by have := Row.below Hi.out Bl.out; rwa [nats_length] at this) (nints_one _) (by omega) (by simp; omega) ?_; intro v5 w5 hown5 hg5 hat5; have Ho5 := Lib.hid hown5; have P5 := Lib.hid (PCl.out.grown hg5 (own_ne Hlit.out (by omega))); have B5 := Lib.hid (Bl.out.grown hg5 Bl.out.size (fun q hq => by have := (Hlit.out.lt q hq).1; omega)); have z5 := hg5.size; clear hown5 hg5 hat5)
    | (at_builtin; refine append_ints rfl (.tmp 31) (.tmp 32) rfl (w.heap.size + 1) _ (1 + inp.length) ([Value.int .i64 0] ++ nints inp) rfl Ho5.out _ st.length (nints st) rfl (by have := Row.below Hs.out B5.out; rwa [nats_length] at this) (nints_one _) (by omega) (by simp at z5; omega) ?_; intro v6 w6 hown6 hg6 hat6; have Ho6 := Lib.hid hown6; have P6 := Lib.hid (P5.out.grown hg6 (own_ne Ho5.out (by omega))); have B6 := Lib.hid (B5.out.grown hg6 B5.out.size (fun q hq => by have := (Ho5.out.lt q hq).1; omega)); clear hown6 hg6 hat6))
  go_loopw [7, 8] (fun v i wr => ∃ (vv : Value) (k : Nat), vv = v ∧ k ≤ d.gates.length ∧ i = .int .i64 k ∧ Hid (wr.ownsRow (w.heap.size + 1) 3 1 v (nf + k) (nints (Cir.tevalG (d.gates.take k) I0))) ∧ Hid (PCells wr w.heap.size d.ins (.slice An d.next.length cn) (.slice Ag d.gates.length cg) vo) ∧ Below w.heap.size w wr) (fun _ i _ => d.gates.length - (intOf i).toNat)
  case atStart =>
    refine ⟨_, 0, rfl, Nat.zero_le _, rfl, Lib.hid ?_, P6, B6.out⟩
    have := Ho6.out
    have e : Cir.tevalG (d.gates.take 0) I0 = I0 := rfl
    have hl0 := HE.out 0 (Nat.zero_le _)
    rw [e] at hl0
    rw [e, HI0.out.1, ← hl0, HI0.out.2]
    exact this
  case round =>
    obtain ⟨vv, k, hvv, hk, rfl, Ho, P, hb⟩ := hrel
    subst hvv
    by_cases hlt : k < d.gates.length
    · obtain ⟨b, o, x, rfl, hbl, hx, hs1, hs2⟩ := cubes_open R2.out hb hgl.symm (i := k) (by omega)
      obtain ⟨gt, hgt⟩ := at_some hlt
      have hxe : x = ((gt.1 : Int), (gt.2 : Int)) := by
        have h1 := hx.out
        unfold Cir.toCz at h1
        simp only [List.getElem?_map, hgt] at h1
        exact (Option.some.inj h1).symm
      subst hxe
      obtain ⟨g1, g2⟩ := HG.out k gt hgt
      have hEk := HE.out k (by omega)
      have hTk := HT.out k
      have HS : Hid (nints (Cir.tevalG (d.gates.take (k + 1)) I0) = nints (Cir.tevalG (d.gates.take k) I0) ++ [.int .i64 (Cir.tand (Cir.tlit (Cir.tevalG (d.gates.take k) I0) gt.1) (Cir.tlit (Cir.tevalG (d.gates.take k) I0) gt.2) : Nat)]) := Lib.hid (by rw [Cir.tevalG_take_snoc hgt, nints_append]; rfl)
      clear hx hgt
      obtain ⟨E2, hE2⟩ : ∃ E2, Cir.tevalG (d.gates.take (k + 1)) I0 = E2 := ⟨_, rfl⟩
      rw [hE2] at HS
      have HE2 := Lib.hid hE2
      clear hE2
      generalize Cir.tevalG (d.gates.take k) I0 = E at *
      have Hb := Lib.hid hb
      have hzr := hb.size
      have hl1 := Cir.tlit_le hTk gt.1
      have hl2 := Cir.tlit_le hTk gt.2
      obtain ⟨G1, hG1⟩ : ∃ G1, G1 = gt.1 := ⟨_, rfl⟩
      obtain ⟨G2, hG2⟩ : ∃ G2, G2 = gt.2 := ⟨_, rfl⟩
      rw [← hG1] at g1 HS hs1 hl1
      rw [← hG2] at g2 HS hs2 hl2
      have HTk := Lib.hid hTk
      have HEk := Lib.hid hEk
      obtain ⟨z, p0, p1, p2, p3⟩ := P.out
      have hNb : ¬ (vv.ownBlock = some b) := fun e => by have := (Ho.out.lt _ e).1; omega
      have hNg : ¬ (vv.ownBlock = some w.heap.size) := fun e => by have := (Ho.out.lt _ e).1; omega
      have HR : Hid (∀ w', w'.ownsRow (w.heap.size + 1) 3 1 vv (nf + k) (nints E) → NatsAt w' vv E) := Lib.hid fun w' h => nats_own h hEk
      clear hb hG1 hG2 hEk hTk
      go_wp2_with fail
      have hO := fun ops a => appRS_ok (Pg := Try.prog) (ops := ops) (a := a) (news := [.int .i64 (Cir.tand (Cir.tlit E G1) (Cir.tlit E G2) : Nat)]) (d := 19) Ho.out
      refine wp_region_rs (appRS Try.prog _ wr _ (w.heap.size + 1) 3 1 vv (nf + k) (nints E) [.int .i64 (Cir.tand (Cir.tlit E G1) (Cir.tlit E G2) : Nat)] 19) (hO _ _) (by kernel_rfl) (by kernel_rfl) (by kernel_rfl) (Nat.le_of_ble_eq_true rfl) trivial Ho.out ?_
      have HGS : ∀ w', Only (fun g => vv.ownBlock = some g) wr w' → w'.cell? ⟨w.heap.size, 2, none⟩ = some (.slice (some ⟨b, o, none⟩) d.gates.length cg) := fun w' ho => cell_only ho hNg z p2
      have HB1 : ∀ w', Only (fun g => vv.ownBlock = some g) wr w' → w'.cell? ⟨b, o + k * 2, none⟩ = some (.int .i64 (G1 : Nat)) := fun w' ho => cell_only ho hNb (by omega) hs1
      have HB2 : ∀ w', Only (fun g => vv.ownBlock = some g) wr w' → w'.cell? ⟨b, o + k * 2 + 1, none⟩ = some (.int .i64 (G2 : Nat)) := fun w' ho => cell_only ho hNb (by omega) hs2
      refine rs_old (hO _ _) (.inl (Nat.ne_of_beq_eq_false rfl)) _ (.inl rfl) _ rfl rfl ?_
      refine rs_old (hO _ _) (.inl (Nat.ne_of_beq_eq_false rfl)) _ (.inl rfl) _ rfl rfl ?_
      refine rs_look (hO _ _) (.inl (Nat.ne_of_beq_eq_false rfl)) (TEq (.pointer (some ⟨w.heap.size, 2, none⟩))) (stb_eq _ _) (fun ρ w' ho hK => by
        obtain ⟨h0, -⟩ := hK
        have h0' : ρ (.tmp 3) = .pointer (some ⟨w.heap.size, 0, none⟩) := h0
        refine ⟨_, ?_, rfl⟩
        go_simp) ?_
      refine rs_look (hO _ _) (.inl (Nat.ne_of_beq_eq_false rfl)) (TEq (.slice (some ⟨b, o, none⟩) d.gates.length cg)) (stb_eq _ _) (fun ρ w' ho hK => by
        obtain ⟨h0, -⟩ := hK
        have h0' : ρ (.tmp 43) = .pointer (some ⟨w.heap.size, 2, none⟩) := h0
        have q := HGS w' ho
        refine ⟨_, ?_, rfl⟩
        go_simp) ?_
      refine rs_old (hO _ _) (.inl (Nat.ne_of_beq_eq_false rfl)) _ (.inl rfl) _ rfl rfl ?_
      refine rs_look (hO _ _) (.inl (Nat.ne_of_beq_eq_false rfl)) (TEq (.pointer (some ⟨b, o + k * 2, none⟩))) (stb_eq _ _) (fun ρ w' ho hK => by
        obtain ⟨h0, h1, -⟩ := hK
        have h0' : ρ (.tmp 44) = .slice (some ⟨b, o, none⟩) d.gates.length cg := h0
        have h1' : ρ (.tmp 45) = .int .i64 (k : Nat) := h1
        refine ⟨_, ?_, rfl⟩
        go_simp) ?_
      refine rs_look (hO _ _) (.inl (Nat.ne_of_beq_eq_false rfl)) (TEq (.pointer (some ⟨b, o + k * 2, none⟩))) (stb_eq _ _) (fun ρ w' ho hK => by
        obtain ⟨h0, -⟩ := hK
        have h0' : ρ (.tmp 46) = .pointer (some ⟨b, o + k * 2, none⟩) := h0
        refine ⟨_, ?_, rfl⟩
        go_simp) ?_
      refine rs_look (hO _ _) (.inl (Nat.ne_of_beq_eq_false rfl)) (TEq (.int .i64 (G1 : Nat))) (stb_eq _ _) (fun ρ w' ho hK => by
        obtain ⟨h0, -⟩ := hK
        have h0' : ρ (.tmp 47) = .pointer (some ⟨b, o + k * 2, none⟩) := h0
        have q := HB1 w' ho
        refine ⟨_, ?_, rfl⟩
        go_simp) ?_
      refine rs_call_before (hO _ _) (Nat.ne_of_beq_eq_false rfl) (by kernel_rfl) (TEq (.int .i64 (Cir.tlit E G1 : Nat))) (stb_eq _ _) 44 _ _ rfl (fun ρ w' ho hJ hK => by
        obtain ⟨hf, h0, h1, -⟩ := hK
        have hf' : ρ (.func 44) = .func (.func 44) #[] #[] := hf
        have h0' : ρ (.tmp 42) = vv := h0
        have h1' : ρ (.tmp 48) = .int .i64 (G1 : Nat) := h1
        refine ⟨#[vv, .int .i64 (G1 : Nat)], ?_, ?_⟩
        · go_simp
        · refine (l27Lit_any vv E G1 w' (HR.out w' hJ) (by rw [HEk.out]; exact g1) (by omega) HTk.out).mono ?_
          rintro e w2 ⟨rfl, rfl⟩
          exact ⟨_, rfl, rfl, Below.refl _ _⟩) ?_
      refine rs_old (hO _ _) (.inl (Nat.ne_of_beq_eq_false rfl)) _ (.inl rfl) _ rfl rfl ?_
      refine rs_look (hO _ _) (.inl (Nat.ne_of_beq_eq_false rfl)) (TEq (.pointer (some ⟨w.heap.size, 2, none⟩))) (stb_eq _ _) (fun ρ w' ho hK => by
        obtain ⟨h0, -⟩ := hK
        have h0' : ρ (.tmp 3) = .pointer (some ⟨w.heap.size, 0, none⟩) := h0
        refine ⟨_, ?_, rfl⟩
        go_simp) ?_
      refine rs_look (hO _ _) (.inl (Nat.ne_of_beq_eq_false rfl)) (TEq (.slice (some ⟨b, o, none⟩) d.gates.length cg)) (stb_eq _ _) (fun ρ w' ho hK => by
        obtain ⟨h0, -⟩ := hK
        have h0' : ρ (.tmp 51) = .pointer (some ⟨w.heap.size, 2, none⟩) := h0
        have q := HGS w' ho
        refine ⟨_, ?_, rfl⟩
        go_simp) ?_
      refine rs_old (hO _ _) (.inl (Nat.ne_of_beq_eq_false rfl)) _ (.inl rfl) _ rfl rfl ?_
      refine rs_look (hO _ _) (.inl (Nat.ne_of_beq_eq_false rfl)) (TEq (.pointer (some ⟨b, o + k * 2, none⟩))) (stb_eq _ _) (fun ρ w' ho hK => by
        obtain ⟨h0, h1, -⟩ := hK
        have h0' : ρ (.tmp 52) = .slice (some ⟨b, o, none⟩) d.gates.length cg := h0
        have h1' : ρ (.tmp 53) = .int .i64 (k : Nat) := h1
        refine ⟨_, ?_, rfl⟩
        go_simp) ?_
      refine rs_look (hO _ _) (.inl (Nat.ne_of_beq_eq_false rfl)) (TEq (.pointer (some ⟨b, o + k * 2 + 1, none⟩))) (stb_eq _ _) (fun ρ w' ho hK => by
        obtain ⟨h0, -⟩ := hK
        have h0' : ρ (.tmp 54) = .pointer (some ⟨b, o + k * 2, none⟩) := h0
        refine ⟨_, ?_, rfl⟩
        go_simp) ?_
      refine rs_look (hO _ _) (.inl (Nat.ne_of_beq_eq_false rfl)) (TEq (.int .i64 (G2 : Nat))) (stb_eq _ _) (fun ρ w' ho hK => by
        obtain ⟨h0, -⟩ := hK
        have h0' : ρ (.tmp 55) = .pointer (some ⟨b, o + k * 2 + 1, none⟩) := h0
        have q := HB2 w' ho
        refine ⟨_, ?_, rfl⟩
        go_simp) ?_
      refine rs_call_before (hO _ _) (Nat.ne_of_beq_eq_false rfl) (by kernel_rfl) (TEq (.int .i64 (Cir.tlit E G2 : Nat))) (stb_eq _ _) 44 _ _ rfl (fun ρ w' ho hJ hK => by
        obtain ⟨hf, h0, h1, -⟩ := hK
        have hf' : ρ (.func 44) = .func (.func 44) #[] #[] := hf
        have h0' : ρ (.tmp 50) = vv := h0
        have h1' : ρ (.tmp 56) = .int .i64 (G2 : Nat) := h1
        refine ⟨#[vv, .int .i64 (G2 : Nat)], ?_, ?_⟩
        · go_simp
        · refine (l27Lit_any vv E G2 w' (HR.out w' hJ) (by rw [HEk.out]; exact g2) (by omega) HTk.out).mono ?_
          rintro e w2 ⟨rfl, rfl⟩
          exact ⟨_, rfl, rfl, Below.refl _ _⟩) ?_
      refine rs_call (hO _ _) (.inl (Nat.ne_of_beq_eq_false rfl)) (TEq (.int .i64 (Cir.tand (Cir.tlit E G1) (Cir.tlit E G2) : Nat))) (stb_eq _ _) 100 _ _ rfl (fun ρ w' ho hK => by
        obtain ⟨hf, h0, h1, -⟩ := hK
        have hf' : ρ (.func 100) = .func (.func 100) #[] #[] := hf
        have h0' : ρ (.tmp 49) = .int .i64 (Cir.tlit E G1 : Nat) := h0
        have h1' : ρ (.tmp 57) = .int .i64 (Cir.tlit E G2 : Nat) := h1
        refine ⟨#[.int .i64 (Cir.tlit E G1 : Nat), .int .i64 (Cir.tlit E G2 : Nat)], ?_, ?_⟩
        · go_simp
        · refine (l27And_any _ _ w' hl1 hl2).mono ?_
          rintro e w2 ⟨rfl, rfl⟩
          exact ⟨_, rfl, rfl, Below.refl _ _⟩) ?_
      refine rs_build1 (hO _ _) (.inl (Nat.ne_of_beq_eq_false rfl)) 1 [.int .i64 (Cir.tand (Cir.tlit E G1) (Cir.tlit E G2) : Nat)] 3 rfl (fun ρ w' ho hK => by
        obtain ⟨h1, -⟩ := hK
        have h1' : ρ (.tmp 58) = .int .i64 (Cir.tand (Cir.tlit E G1) (Cir.tlit E G2) : Nat) := h1
        go_simp) ?_
      refine rs_append1 rfl (w.heap.size + 1) 3 22 1 vv (nf + k) (nints E) _ rfl rfl (fun g hg => hg) (show w.heap.size + 1 ≤ wr.heap.size by omega) _ _ rfl _ _ rfl rfl rfl rfl i0 _ 8 Try.underlying22 hi0 hz0 hz1 hz2 rfl (by decide) (by omega) (by decide) (by simp [Value.oneCell']) ?_
      refine rs_same (hO _ _) (.inl (Nat.ne_of_beq_eq_false rfl)) _ _ (.inr rfl) rfl _ rfl ?_
      intro f w9 k9 hk9 hI9 ht9 hcp9
      have hfe : f 20 = f 19 := (hcp9 20 _ 60 19 rfl rfl rfl rfl).2
      have hown9 : w9.ownsRow (w.heap.size + 1) 3 1 (f 19) (nf + k + 1) (nints E ++ [.int .i64 (Cir.tand (Cir.tlit E G1) (Cir.tlit E G2) : Nat)]) := hI9.2.2
      have Ho9 := Lib.hid hown9
      have hon : Only (fun g => vv.ownBlock = some g) wr w9 := hI9.2.1
      have HB9 : Hid (Below w.heap.size w w9) := Lib.hid (Only.below Hb.out hon hzr (fun g hg => by have := (Ho.out.lt g hg).1; omega))
      have P9 : Hid (PCells w9 w.heap.size d.ins (.slice An d.next.length cn) (.slice (some ⟨b, o, none⟩) d.gates.length cg) vo) := Lib.hid ⟨Nat.lt_of_lt_of_le z hon.size, cell_only hon hNg z p0, cell_only hon hNg z p1, cell_only hon hNg z p2, cell_only hon hNg z p3⟩
      simp only [putAll, hfe, Nat.zero_add, Nat.reduceAdd, Act.put, List.setIfInBounds_toArray, List.set_cons_succ, List.set_cons_zero]
      generalize f 19 = v9 at *
      generalize f 0 = z0, f 1 = z1, f 2 = z2, f 3 = z3, f 4 = z4, f 5 = z5, f 6 = z6, f 7 = z7, f 8 = z8, f 9 = z9, f 10 = z10, f 11 = z11, f 12 = z12, f 13 = z13, f 14 = z14, f 15 = z15, f 16 = z16, f 17 = z17, f 18 = z18
      clear hI9 ht9 hcp9 hk9 hfe hown9 hon HGS HB1 HB2 hO p0 p1 p2 p3
      go_wp2_with fail
      go_roundw
      case rel => exact ⟨v9, k + 1, rfl, by omega, by go_num, Lib.hid (by rw [HE2.out, HS.out]; exact Ho9.out), P9, HB9.out⟩
      case measure => simp [intOf] <;> omega
    · obtain rfl : k = d.gates.length := by omega
      obtain ⟨z, p0, p1, p2, p3⟩ := P.out
      have HLn := Lib.hid (HE.out d.gates.length (Nat.le_refl _))
      go_wp2_with fail
      go_ret
      refine ⟨_, rfl, ?_, hb⟩
      rw [nats_length, ← HVV.out, HLn.out]
      exact own_mono Ho.out (by omega)
set_option maxHeartbeats 8000000 in
theorem specEvalT_any (v vs vi : Value) (c : Cz) (st inp : List Int) (w : World) (h : CircAt w v c) (hs : IntsAt w vs st) (hi : IntsAt w vi inp) :
    Calls Try.prog 43 #[v, vs, vi] w (OwnInts (Cir.evalT c st inp) w) := by
  cases hok : Cir.evalOk c st inp
  · rw [Cir.evalT_no hok]
    obtain ⟨vn, vg, vo, rfl, r1, r2, r3⟩ := h
    obtain ⟨An, cn, hvn, hcn, hcmn⟩ := r1.shape
    subst hvn
    have B0 := Lib.hid (bel_al w (.cells #[.int .i64 c.ins, .slice An c.next.length cn, vg, vo] 31))
    obtain ⟨z, p0, p1, p2, p3⟩ := PCells.boxed w c.ins (.slice An c.next.length cn) vg vo 31
    have HC : Hid (CircAt (w.alloc (.cells #[.int .i64 c.ins, .slice An c.next.length cn, vg, vo] 31)) (.agg #[.int .i64 c.ins, .slice An c.next.length cn, vg, vo]) c) := Lib.hid (CircAt.below ⟨_, _, _, rfl, r1, r2, r3⟩ B0.out)
    generalize hW : w.alloc (.cells #[.int .i64 c.ins, .slice An c.next.length cn, vg, vo] 31) = W at *
    have HV := Lib.hid (specValid_any _ c _ HC.out)
    have HO1 := Lib.hid fun w' (hb : Below w.heap.size w w') => l27Ok_any vs st c.next.length w' (Row.below hs hb)
    have HO2 := Lib.hid fun w' (hb : Below w.heap.size w w') => l27Ok_any vi inp c.ins w' (Row.below hi hb)
    clear r1 r2 r3 hs hi HC
    have hcs : Cir.valid c = false ∨ (Cir.valid c = true ∧ (st.all Cir.tern && decide ((st.length : Int) = c.next.length)) = false) ∨ (Cir.valid c = true ∧ (st.all Cir.tern && decide ((st.length : Int) = c.next.length)) = true ∧ (inp.all Cir.tern && decide ((inp.length : Int) = c.ins)) = false) := by
      unfold Cir.evalOk at hok
      have e : decide ((st.length : Int) = c.next.length) = decide (st.length = c.next.length) := decide_eq_decide.2 (by omega)
      rw [e]
      revert hok
      cases Cir.valid c <;> cases decide (st.length = c.next.length) <;> cases decide ((inp.length : Int) = c.ins) <;> cases st.all Cir.tern <;> cases inp.all Cir.tern <;> simp
    rcases hcs with h1 | ⟨h1, h2⟩ | ⟨h1, h2, h3⟩
    · rw [h1] at HV
      clear h1 hok
      go_enter Try.func43, Try.ntmps43
      go_wp2_with fail
      refine HV.out.mono ?_
      rintro e w1 ⟨rfl, hb1⟩
      have B1 := Lib.hid (B0.out.trans (hb1.mono B0.out.size))
      clear hb1
      go_wp2_with fail
      go_ret
      exact own_lit0 w w1 B1.out 3
    · rw [h1] at HV
      rw [h2] at HO1
      clear h1 h2 hok
      go_enter Try.func43, Try.ntmps43
      go_wp2_with fail
      refine HV.out.mono ?_
      rintro e w1 ⟨rfl, hb1⟩
      have B1 := Lib.hid (B0.out.trans (hb1.mono B0.out.size))
      have k0 := (hb1.cell (p := ⟨w.heap.size, 0, none⟩) z).trans p0
      have k1 := (hb1.cell (p := ⟨w.heap.size, 1, none⟩) z).trans p1
      clear hb1 p0 p1 p2 p3
      go_wp2_with fail
      refine (HO1.out _ B1.out).mono ?_
      rintro e w' ⟨rfl, rfl⟩
      go_wp2_with fail
      go_ret
      exact own_lit0 w w1 B1.out 3
    · rw [h1] at HV
      rw [h2] at HO1
      rw [h3] at HO2
      clear h1 h2 h3 hok
      go_enter Try.func43, Try.ntmps43
      go_wp2_with fail
      refine HV.out.mono ?_
      rintro e w1 ⟨rfl, hb1⟩
      have B1 := Lib.hid (B0.out.trans (hb1.mono B0.out.size))
      have k0 := (hb1.cell (p := ⟨w.heap.size, 0, none⟩) z).trans p0
      have k1 := (hb1.cell (p := ⟨w.heap.size, 1, none⟩) z).trans p1
      clear hb1 p0 p1 p2 p3
      go_wp2_with fail
      refine (HO1.out _ B1.out).mono ?_
      rintro e w' ⟨rfl, rfl⟩
      go_wp2_with fail
      refine (HO2.out _ B1.out).mono ?_
      rintro e w' ⟨rfl, rfl⟩
      go_wp2_with fail
      go_ret
      exact own_lit0 w w1 B1.out 3
  · have hk := hok
    unfold Cir.evalOk at hk
    simp only [Bool.and_eq_true, decide_eq_true_eq] at hk
    obtain ⟨hv, k1, k2, k3, k4⟩ := hk
    obtain ⟨d1, d2⟩ := Cir.nat_ok hv
    obtain ⟨n1, m1⟩ := Cir.tern_nats k3
    obtain ⟨n2, m2⟩ := Cir.tern_nats k4
    have hR : Cir.evalT c st inp = nats (Cir.tvals (Cir.nat c) (st.map Int.toNat) (inp.map Int.toNat)) := by unfold Cir.evalT; rw [if_pos hok]
    rw [hR]
    refine specEvalT_ok v vs vi (Cir.nat c) _ _ w (by rw [← d1]; exact h) d2 (by rw [← d1]; exact hv) (by unfold NatsAt; rw [← n1]; exact hs) (by unfold NatsAt; rw [← n2]; exact hi) ?_ ?_ m1 m2
    · rw [List.length_map]
      have e : (Cir.nat c).ins = c.ins.toNat := rfl
      omega
    · rw [List.length_map]
      have e : (Cir.nat c).next.length = c.next.length := List.length_map _
      rw [e]
      exact k1
end Go.Proofs.Ytlbfejdbfhgifaa

namespace Go.Proofs.Ytlbfejdbfhgifaa
set_option maxRecDepth 100000
open Go.RowKit Go.Joins Go.ChangeShapes Go.WideShapes Go.ChangeAt Go.Deep
/-! Arguments that are slices, whatever their elements. -/
theorem flat_at {α : Type} {size : Nat} : ∀ {els : List (List α)}, (∀ e ∈ els, e.length = size) → ∀ {j : Nat} {u : α}, els.flatten[j]? = some u → ∃ (i r : Nat) (e : List α), j = i * size + r ∧ r < size ∧ els[i]? = some e ∧ e[r]? = some u
  | [], _, j, u, h => by simp at h
  | e :: els, hl, j, u, h => by
    have he := hl e (by simp)
    rw [List.flatten_cons, List.getElem?_append] at h
    split at h
    · rename_i hlt
      exact ⟨0, j, e, by omega, by omega, rfl, h⟩
    · rename_i hge
      obtain ⟨i, r, e', hj, hr, hi, hu⟩ := flat_at (fun e' h' => hl e' (List.mem_cons_of_mem _ h')) h
      refine ⟨i + 1, r, e', ?_, hr, by simpa using hi, hu⟩
      rw [Nat.add_mul]
      omega
theorem flat_length {α : Type} {size : Nat} : ∀ {els : List (List α)}, (∀ e ∈ els, e.length = size) → els.flatten.length = els.length * size
  | [], _ => by simp
  | e :: els, h => by
    rw [List.flatten_cons, List.length_append, flat_length (fun e' h' => h e' (List.mem_cons_of_mem _ h')), h e (by simp), List.length_cons, Nat.add_mul]
    omega
section
variable {H : Type} {enc : TypeId × Value → H} {P : Program} {w : World} {base : Nat} {spare : Nat → Bool} {held : Bool}
theorem slice_rd {t e : TypeId} {size fuel : Nat} {cs : List Value} {x : DataW H × List MemPlace} (ht : P.underlying t = some (.slice e)) (hc : P.cellsOf e = size) (hs : 0 < size) (G : List Value → Prop)
    (hG : ∀ n cs' y, cs'.length = size → DataW.trod enc P w base spare held n e cs' = some y → G cs') (h : DataW.trod enc P w base spare held fuel t cs = some x) :
    ∃ (A : Option Addr) (n c : Nat) (els : List (List Value)), cs = [.slice A n c] ∧ Row w size (.slice A n c) n els.flatten ∧ els.length = n ∧ (∀ e ∈ els, e.length = size) ∧ ∀ e ∈ els, G e := by
  rcases open_slice ht h with ⟨rfl, _⟩ | ⟨a, len, cap, m, n, D, Pl, rfl, hb, hl, hm, hmm, _, hx⟩
  · exact ⟨none, 0, 0, [], rfl, Row.nil w size, rfl, by simp, by simp⟩
  · have hx' : ∀ i, i < len → ∃ cs', cs'.length = size ∧ (∀ j, j < size → w.cell? (a.add (i * size + j)) = cs'[j]?) ∧ G cs' := by
      intro i hi
      have him : i < m := by rw [hmm]; split <;> omega
      obtain ⟨cs', h1, h2⟩ := hx i him
      rw [hc] at h1
      obtain ⟨_, h3, h4⟩ := World.cells?_some h1
      refine ⟨cs', h3, fun j hj => ?_, hG _ _ _ h3 h2⟩
      rw [← Go.Deep.add_add]
      exact h4 j hj
    let f : Nat → List Value := fun i => if h : i < len then (hx' i h).choose else []
    have hf : ∀ i, i < len → (f i).length = size ∧ (∀ j, j < size → w.cell? (a.add (i * size + j)) = (f i)[j]?) ∧ G (f i) := by
      intro i hi
      have := (hx' i hi).choose_spec
      simp only [f, hi, dite_true]
      exact this
    have hel : ∀ e ∈ (List.range len).map f, e.length = size := by
      intro e he
      obtain ⟨i, hi, rfl⟩ := List.mem_map.1 he
      exact (hf i (List.mem_range.1 hi)).1
    refine ⟨some a, len, cap, (List.range len).map f, rfl, ⟨by rw [flat_length hel]; simp, some a, cap, rfl, hl, hm, fun hn => ?_⟩, by simp, hel, fun e he => ?_⟩
    · obtain ⟨b, off, spot⟩ := a
      obtain ⟨h5, h6, _⟩ := hf 0 hn
      have h0 := h6 0 hs
      rw [List.getElem?_eq_getElem (by omega)] at h0
      have hspot : spot = none := by simpa [Addr.add] using World.cell?_spot h0
      subst hspot
      refine ⟨b, off, rfl, ?_, fun j u hu => ?_⟩
      · rcases Nat.lt_or_ge b w.heap.size with hl | hl
        · exact hl
        · simp [World.cell?, Addr.add, Array.getElem?_eq_none hl] at h0
      · obtain ⟨i, r, e', rfl, hr, hi, hu'⟩ := flat_at hel hu
        have hil : i < len := by
          obtain ⟨hi', _⟩ := List.getElem?_eq_some_iff.1 hi
          simpa using hi'
        have : e' = f i := by simpa [hil] using hi.symm
        subst this
        rw [← Go.WideShapes.add_plain, (hf i hil).2.1 r hr]
        exact hu'
    · obtain ⟨i, hi, rfl⟩ := List.mem_map.1 he
      exact (hf i (List.mem_range.1 hi)).2.2
end
def WfI (x : Int) : Prop := -9223372036854775808 ≤ x ∧ x ≤ 9223372036854775807
theorem wf_i {x : Int} (h : (Lit.int .i64 x).wf = true) : WfI x := by
  have := Go.bounds_i64 h
  unfold WfI
  omega
/-- What the cells of the elements come to. -/
theorem els_of {α : Type} (f : α → List Value) (G : α → Prop) : ∀ {els : List (List Value)}, (∀ e ∈ els, ∃ x, e = f x ∧ G x) → ∃ xs : List α, els.flatten = xs.flatMap f ∧ xs.length = els.length ∧ ∀ x ∈ xs, G x
  | [], _ => ⟨[], rfl, rfl, by simp⟩
  | e :: els, h => by
    obtain ⟨xs, h1, h2, h3⟩ := els_of f G (fun e' h' => h e' (List.mem_cons_of_mem _ h'))
    obtain ⟨x, rfl, hx⟩ := h e (by simp)
    refine ⟨x :: xs, by simp [h1], by simp [h2], ?_⟩
    intro y hy
    rcases List.mem_cons.1 hy with e | hy
    · exact e ▸ hx
    · exact h3 y hy
theorem flatMap_one {α : Type} (f : α → Value) : ∀ xs : List α, (xs.flatMap fun x => [f x]) = xs.map f
  | [] => rfl
  | x :: xs => by rw [List.flatMap_cons, flatMap_one f xs]; rfl
/-- What is known of an argument's cells. -/
def GInts (w : World) (cs : List Value) : Prop := ∃ (A : Option Addr) (n c : Nat) (xs : List Int), cs = [.slice A n c] ∧ IntsAt w (.slice A n c) xs ∧ xs.length = n ∧ ∀ x ∈ xs, WfI x
def GBools (w : World) (cs : List Value) : Prop := ∃ (A : Option Addr) (n c : Nat) (xs : List Bool), cs = [.slice A n c] ∧ BoolsAt w (.slice A n c) xs ∧ xs.length = n
def GPairs (w : World) (cs : List Value) : Prop := ∃ (A : Option Addr) (n c : Nat) (xs : List (Int × Int)), cs = [.slice A n c] ∧ CubesAt w (.slice A n c) xs ∧ xs.length = n ∧ ∀ x ∈ xs, WfI x.1 ∧ WfI x.2
section
variable {H : Type} {enc : TypeId × Value → H} {w : World} {base : Nat} {spare : Nat → Bool} {held : Bool}
theorem rd_int {n : Nat} {cs : List Value} {y : DataW H × List MemPlace} (h : DataW.trod enc Try.prog w base spare held n 3 cs = some y) : ∃ x, cs = [.int .i64 x] ∧ WfI x := by
  obtain ⟨x, e, _, hw⟩ := DataW.trod_int Try.underlying3 h
  exact ⟨x, e, wf_i hw⟩
theorem rd_bool {n : Nat} {cs : List Value} {y : DataW H × List MemPlace} (h : DataW.trod enc Try.prog w base spare held n 4 cs = some y) : ∃ x, cs = [.bool x] := by
  obtain ⟨x, e, _⟩ := DataW.trod_bool Try.underlying4 h
  exact ⟨x, e⟩
theorem rd_ints {n : Nat} {cs : List Value} {y : DataW H × List MemPlace} (h : DataW.trod enc Try.prog w base spare held n 22 cs = some y) : GInts w cs := by
  obtain ⟨A, n, c, els, rfl, hr, rfl, _, hg⟩ := slice_rd (size := 1) Try.underlying22 (by kernel_rfl) (by decide) (fun cs => ∃ x, cs = [.int .i64 x] ∧ WfI x) (fun _ _ _ _ h => rd_int h) h
  obtain ⟨xs, h1, h2, h3⟩ := els_of (fun x : Int => [Value.int .i64 x]) WfI hg
  rw [flatMap_one] at h1
  exact ⟨A, _, c, xs, rfl, by rw [h1, ← h2] at hr; rw [← h2]; exact hr, h2, h3⟩
theorem rd_bools {n : Nat} {cs : List Value} {y : DataW H × List MemPlace} (h : DataW.trod enc Try.prog w base spare held n 62 cs = some y) : GBools w cs := by
  obtain ⟨A, n, c, els, rfl, hr, rfl, _, hg⟩ := slice_rd (size := 1) Try.underlying62 (by kernel_rfl) (by decide) (fun cs => ∃ x, cs = [.bool x]) (fun _ _ _ _ h => rd_bool h) h
  obtain ⟨xs, h1, h2, _⟩ := els_of (fun x : Bool => [Value.bool x]) (fun _ => True) (fun e he => by obtain ⟨x, hx⟩ := hg e he; exact ⟨x, hx, trivial⟩)
  rw [flatMap_one] at h1
  exact ⟨A, _, c, xs, rfl, by rw [h1, ← h2] at hr; rw [← h2]; exact hr, h2⟩
theorem rd_pair {t : TypeId} {f0 f1 : Field} (hs : Try.prog.underlying t = some (.struct #[f0, f1])) (h0 : f0.type = 3) (h1 : f1.type = 3) (hone : oneCellFields Try.prog #[f0, f1] = true) (hC : Try.prog.cellsOf t = 2) {n : Nat} {cs : List Value} {y : DataW H × List MemPlace} (hl : cs.length = 2) (h : DataW.trod enc Try.prog w base spare held n t cs = some y) : ∃ x : Int × Int, cs = [.int .i64 x.1, .int .i64 x.2] ∧ WfI x.1 ∧ WfI x.2 := by
  match cs, hl with
  | [c0, c1], _ =>
    obtain ⟨xs, n, _, hx, _, hlen, hg⟩ := DataW.trod_struct hs h
    obtain ⟨o0, k0⟩ := hone_of hone 0 f0 rfl
    obtain ⟨o1, k1⟩ := hone_of hone 1 f1 rfl
    match xs, hlen with
    | [y0, y1], _ =>
      have g0 : DataW.trod enc Try.prog w base spare held n f0.type [c0] = some y0 := by simpa [Value.cells, o0, k0] using hg 0 f0 rfl
      have g1 : DataW.trod enc Try.prog w base spare held n f1.type [c1] = some y1 := by simpa [Value.cells, o1, k1] using hg 1 f1 rfl
      rw [h0] at g0
      rw [h1] at g1
      obtain ⟨a, e0, w0⟩ := rd_int g0
      obtain ⟨b, e1, w1⟩ := rd_int g1
      injection e0 with e0
      injection e1 with e1
      subst e0 e1
      exact ⟨(a, b), rfl, w0, w1⟩
theorem rd_pairs {t e : TypeId} {f0 f1 : Field} (ht : Try.prog.underlying t = some (.slice e)) (hs : Try.prog.underlying e = some (.struct #[f0, f1])) (h0 : f0.type = 3) (h1 : f1.type = 3) (hone : oneCellFields Try.prog #[f0, f1] = true) (hC : Try.prog.cellsOf e = 2) {n : Nat} {cs : List Value} {y : DataW H × List MemPlace} (h : DataW.trod enc Try.prog w base spare held n t cs = some y) : GPairs w cs := by
  obtain ⟨A, n, c, els, rfl, hr, rfl, _, hg⟩ := slice_rd (size := 2) ht hC (by decide) (fun cs => ∃ x : Int × Int, cs = [.int .i64 x.1, .int .i64 x.2] ∧ WfI x.1 ∧ WfI x.2) (fun _ _ _ hl h => rd_pair hs h0 h1 hone hC hl h) h
  obtain ⟨xs, g1, g2, g3⟩ := els_of (fun x : Int × Int => [Value.int .i64 x.1, Value.int .i64 x.2]) (fun x => WfI x.1 ∧ WfI x.2) hg
  exact ⟨A, _, c, xs, rfl, by rw [g1, ← g2] at hr; rw [← g2]; exact hr, g2, g3⟩
end
theorem slice_val {P : Program} {w : World} {r : Reach} {b0 : Nat} {t e : TypeId} {v : Value} (ht : P.underlying t = some (.slice e)) (hv : Value.okWide P w r b0 t v) : ∃ A n c, v = .slice A n c := by
  simp only [Value.okWide, ht, Cell.okWide] at hv
  cases v <;> simp_all [Cell.ok]
section
variable {H : Type} {enc : TypeId × Value → H} {w : World} {r : Reach} {b0 base : Nat} {spare : Nat → Bool} {held : Bool} {v : Value} {d : DataW H} {p : List MemPlace}
/-- Arguments: an int, a slice of ints, of booleans, of pairs of ints. -/
def AInt (_ : World) (v : Value) : Prop := ∃ x : Int, v = .int .i64 x ∧ WfI x
theorem open_aint (hv : Value.okWide Try.prog w r b0 3 v) (h : DataW.Trod enc Try.prog w base spare held 3 v d p) : AInt w v := by
  obtain ⟨x, rfl, rfl, rfl, hw⟩ := open_int Try.underlying3 hv h
  exact ⟨x, rfl, wf_i hw⟩
def AInts (w : World) (v : Value) : Prop := ∃ xs : List Int, IntsAt w v xs ∧ ∀ x ∈ xs, WfI x
theorem open_aints (hv : Value.okWide Try.prog w r b0 22 v) (h : DataW.Trod enc Try.prog w base spare held 22 v d p) : AInts w v := by
  obtain ⟨A, n, c, rfl⟩ := slice_val Try.underlying22 hv
  obtain ⟨m, hm⟩ := h
  obtain ⟨A', n', c', xs, e, h1, h2, h3⟩ := rd_ints hm
  simp [Value.cells] at e
  obtain ⟨rfl, rfl, rfl⟩ := e
  exact ⟨xs, h1, h3⟩
def ABools (w : World) (v : Value) : Prop := ∃ xs : List Bool, BoolsAt w v xs
theorem open_abools (hv : Value.okWide Try.prog w r b0 62 v) (h : DataW.Trod enc Try.prog w base spare held 62 v d p) : ABools w v := by
  obtain ⟨A, n, c, rfl⟩ := slice_val Try.underlying62 hv
  obtain ⟨m, hm⟩ := h
  obtain ⟨A', n', c', xs, e, h1, h2⟩ := rd_bools hm
  simp [Value.cells] at e
  obtain ⟨rfl, rfl, rfl⟩ := e
  exact ⟨xs, h1⟩
def APairs (w : World) (v : Value) : Prop := ∃ xs : List (Int × Int), CubesAt w v xs ∧ ∀ x ∈ xs, WfI x.1 ∧ WfI x.2
end
end Go.Proofs.Ytlbfejdbfhgifaa

namespace Go.Proofs.Ytlbfejdbfhgifaa
set_option maxRecDepth 100000
open Go.RowKit Go.Joins Go.ChangeShapes Go.WideShapes Go.ChangeAt Go.Deep
section
variable {H : Type} {enc : TypeId × Value → H} {w : World} {r : Reach} {b0 base : Nat} {spare : Nat → Bool} {held : Bool} {v : Value} {d : DataW H} {p : List MemPlace}
theorem rd_gates {n : Nat} {cs : List Value} {y : DataW H × List MemPlace} (h : DataW.trod enc Try.prog w base spare held n 23 cs = some y) : GPairs w cs :=
  rd_pairs Try.underlying23 Try.underlying121 rfl rfl (by kernel_rfl) (by kernel_rfl) h
/-- A circuit, as an argument. -/
def ACirc (w : World) (v : Value) : Prop := ∃ c : Cz, CircAt w v c ∧ WfI c.ins ∧ (∀ x ∈ c.next, WfI x) ∧ (∀ x ∈ c.gates, WfI x.1 ∧ WfI x.2) ∧ (∀ x ∈ c.outs, WfI x)
theorem open_acirc (hv : Value.okWide Try.prog w r b0 25 v) (h : DataW.Trod enc Try.prog w base spare held 25 v d p) : ACirc w v := by
  obtain ⟨v0, v1, v2, v3, y0, y1, y2, y3, n, rfl, rfl, rfl, h0, h1, h2, h3⟩ := open_agg4 Try.underlying25 (by kernel_rfl) (by kernel_rfl) hv h
  obtain ⟨x, e0, w0⟩ := rd_int h0
  obtain ⟨A1, n1, c1, xs, e1, i1, l1, w1⟩ := rd_ints h1
  obtain ⟨A2, n2, c2, gs, e2, i2, l2, w2⟩ := rd_gates h2
  obtain ⟨A3, n3, c3, os, e3, i3, l3, w3⟩ := rd_ints h3
  simp only [List.cons.injEq, and_true] at e0 e1 e2 e3
  subst e0 e1 e2 e3
  exact ⟨{ ins := x, next := xs, gates := gs, outs := os }, ⟨_, _, _, rfl, i1, i2, i3⟩, w0, w1, w2, w3⟩
end
theorem CircAt.shape {w : World} {v : Value} {c : Cz} (h : CircAt w v c) : ∃ An cn Ag cg Ao co, v = .agg #[.int .i64 c.ins, .slice An c.next.length cn, .slice Ag c.gates.length cg, .slice Ao c.outs.length co] := by
  obtain ⟨vn, vg, vo, rfl, r1, r2, r3⟩ := h
  obtain ⟨An, cn, rfl, -⟩ := Row.shape r1
  obtain ⟨Ag, cg, rfl, -⟩ := Row.shape r2
  obtain ⟨Ao, co, rfl, -⟩ := Row.shape r3
  exact ⟨An, cn, Ag, cg, Ao, co, rfl⟩
def TCirc (c : Cz) : Ty := fun w v => CircAt w v c
theorem stb_circ (c : Cz) : Stb (fun _ => False) (TCirc c) := fun _ _ _ h ho => h.below (only_below ho)
/-- A circuit in a box of the law's. -/
structure BoxC (w : World) (g : Nat) (c : Cz) (vn vg vo : Value) : Prop where
  pc : PCells w g c.ins vn vg vo
  at_ : CircAt w (.agg #[.int .i64 c.ins, vn, vg, vo]) c
theorem BoxC.below {w w' : World} {g : Nat} {c : Cz} {vn vg vo : Value} (h : BoxC w g c vn vg vo) (hb : Below w.heap.size w w') : BoxC w' g c vn vg vo := ⟨h.pc.below hb, h.at_.below hb⟩
theorem BoxC.made {w : World} {c : Cz} {vn vg vo : Value} (t : TypeId) (h : CircAt w (.agg #[.int .i64 c.ins, vn, vg, vo]) c) : BoxC (w.alloc (.cells #[.int .i64 c.ins, vn, vg, vo] t)) w.heap.size c vn vg vo :=
  ⟨PCells.boxed _ _ _ _ _ _, h.below ((Below.refl _ _).alloc (Nat.le_refl _) _)⟩
end Go.Proofs.Ytlbfejdbfhgifaa

namespace Go.Proofs.Ytlbfejdbfhgifaa
open Go.RowKit
/-- A value of an own row of booleans, as it lies in memory. -/
theorem bools_at_own {w : World} {B n : Nat} {v : Value} {xs : List Bool} (h : w.ownsRow B 4 1 v n (bools xs)) (hn : xs.length = n) : BoolsAt w v xs := by subst hn; exact Row.of_own h
theorem boolsAt_cell {w : World} {u : Value} {xs : List Bool} {i : Nat} {b : Bool} (h : BoolsAt w u xs) (hx : xs[i]? = some b) : ∃ bb oo c, u = .slice (some ⟨bb, oo, none⟩) xs.length c ∧ bb < w.heap.size ∧ w.cell? ⟨bb, oo + i, none⟩ = some (.bool b) := by
  have hi := (List.getElem?_eq_some_iff.1 hx).1
  obtain ⟨A, c, rfl, -, -⟩ := Row.shape h
  obtain ⟨b', o', x, hA, hbl, hxx, hcell⟩ := bools_open (w := w) (wr := w) h (Below.refl _ _) (i := i) rfl hi
  subst hA
  obtain rfl : x = b := Option.some.inj (hxx.out.symm.trans hx)
  exact ⟨b', o', c, rfl, hbl, hcell⟩
end Go.Proofs.Ytlbfejdbfhgifaa

namespace Go.Proofs.Ytlbfejdbfhgifaa
open Go.RowKit
/-! Slices of slices of the call's own, whose blocks are among a set. -/
section
variable {α : Type} {enc : List α → List Value} {w w' : World} {v : Value} {xss : List (List α)}
/-- A slice of the call's own whose elements are slices of the call's own, all in blocks apart; tO and ti: the types of the cells; its blocks are among E. -/
def OwnSE (enc : List α → List Value) (tO ti : TypeId) (B : Nat) (E : Nat → Prop) (w : World) (v : Value) (xss : List (List α)) : Prop :=
  ∃ vs : List Value, vs.length = xss.length ∧ w.ownsRow B tO 1 v xss.length vs ∧ (∀ (i : Nat) (x : List α) (u : Value), xss[i]? = some x → vs[i]? = some u → w.ownsRow B ti 1 u x.length (enc x)) ∧
    vs.Pairwise Apart ∧ (∀ u ∈ vs, Apart u v) ∧ (∀ g, v.ownBlock = some g → E g) ∧ ∀ u ∈ vs, ∀ g, u.ownBlock = some g → E g
variable {tO ti : TypeId} {B : Nat} {E : Nat → Prop}
theorem OwnSE.at (h : OwnSE enc tO ti B E w v xss) : SSAt enc w v xss := by
  obtain ⟨vs, h1, h2, h3, _⟩ := h
  exact ⟨vs, h1, Row.of_own h2, fun i x u hx hu => Row.of_own (h3 i x u hx hu)⟩
theorem OwnSE.nil (enc : List α → List Value) (tO ti : TypeId) (B : Nat) (E : Nat → Prop) (w : World) : OwnSE enc tO ti B E w (.slice none 0 0) [] :=
  ⟨[], rfl, World.ownsRow_nil _ _ _ _, by simp, List.Pairwise.nil, by simp, by simp [Value.ownBlock], by simp⟩
theorem OwnSE.below (h : OwnSE enc tO ti B E w v xss) (hb : Below w.heap.size w w') : OwnSE enc tO ti B E w' v xss := by
  obtain ⟨vs, h1, h2, h3, h4⟩ := h
  exact ⟨vs, h1, own_below h2 hb, fun i x u hx hu => own_below (h3 i x u hx hu) hb, h4⟩
theorem OwnSE.mono {B' : Nat} {E' : Nat → Prop} (h : OwnSE enc tO ti B E w v xss) (hB : B' ≤ B) (hT : ∀ g, E g → E' g) : OwnSE enc tO ti B' E' w v xss := by
  obtain ⟨vs, h1, h2, h3, h4, h5, h6, h7⟩ := h
  exact ⟨vs, h1, own_mono h2 hB, fun i x u hx hu => own_mono (h3 i x u hx hu) hB, h4, h5, fun g hg => hT g (h6 g hg), fun u hu g hg => hT g (h7 u hu g hg)⟩
theorem OwnSE.only {X : Nat → Prop} (h : OwnSE enc tO ti B E w v xss) (ho : Only X w w') (hE : ∀ g, B ≤ g → E g → ¬ X g) : OwnSE enc tO ti B E w' v xss := by
  obtain ⟨vs, h1, h2, h3, h4, h5, h6, h7⟩ := h
  refine ⟨vs, h1, own_only h2 ho fun g hg => hE g (h2.lt g hg).1 (h6 g hg), fun i x u hx hu => own_only (h3 i x u hx hu) ho fun g hg => hE g ((h3 i x u hx hu).lt g hg).1 (h7 u (List.mem_of_getElem? hu) g hg), h4, h5, h6, h7⟩
/-- An element more, behind an append. -/
theorem OwnSE.snoc {v2 u : Value} {x : List α} {vs : List Value} (h1 : vs.length = xss.length) (h2 : w.ownsRow B tO 1 v2 (xss.length + 1) (vs ++ [u])) (h3 : ∀ (i : Nat) (x : List α) (u : Value), xss[i]? = some x → vs[i]? = some u → w.ownsRow B ti 1 u x.length (enc x))
    (hu : w.ownsRow B ti 1 u x.length (enc x)) (h4 : vs.Pairwise Apart) (h5 : ∀ z ∈ vs, Apart z v2) (h6 : ∀ z ∈ vs, Apart z u) (h7 : Apart u v2) (t2 : ∀ g, v2.ownBlock = some g → E g) (t1 : ∀ z ∈ vs, ∀ g, z.ownBlock = some g → E g) (t0 : ∀ g, u.ownBlock = some g → E g) :
    OwnSE enc tO ti B E w v2 (xss ++ [x]) := by
  refine ⟨vs ++ [u], by simp [h1], by simpa using h2, fun i x' u' hx' hu' => ?_, ?_, ?_, t2, ?_⟩
  · rcases Nat.lt_or_ge i xss.length with hi | hi
    · rw [List.getElem?_append_left hi] at hx'
      rw [List.getElem?_append_left (by omega)] at hu'
      exact h3 i _ _ hx' hu'
    · rw [List.getElem?_append_right hi] at hx'
      rw [List.getElem?_append_right (by omega), h1] at hu'
      rcases hj : i - xss.length with _ | j
      · rw [hj] at hx' hu'
        simp at hx' hu'
        subst hx' hu'
        exact hu
      · rw [hj] at hx'
        simp at hx'
  · rw [List.pairwise_append]
    exact ⟨h4, by simp, fun a ha b hb => by rw [List.mem_singleton.1 hb]; exact h6 a ha⟩
  · intro z hz
    rcases List.mem_append.1 hz with h | h
    · exact h5 z h
    · rw [List.mem_singleton.1 h]; exact h7
  · intro z hz
    rcases List.mem_append.1 hz with h | h
    · exact t1 z h
    · rw [List.mem_singleton.1 h]; exact t0
/-- An element of which the cells turn. -/
theorem OwnSE.update {j : Nat} {x' : List α} {vs : List Value} {u : Value} (h1 : vs.length = xss.length) (h2 : w.ownsRow B tO 1 v xss.length vs) (h3 : ∀ (i : Nat) (x : List α) (u : Value), xss[i]? = some x → vs[i]? = some u → w.ownsRow B ti 1 u x.length (enc x))
    (h4 : vs.Pairwise Apart) (h5 : ∀ u ∈ vs, Apart u v) (h6 : ∀ g, v.ownBlock = some g → E g) (h7 : ∀ u ∈ vs, ∀ g, u.ownBlock = some g → E g) (hu : vs[j]? = some u) (hg : w.grownBy w' u.ownBlock) (hx : w'.ownsRow B ti 1 u x'.length (enc x')) :
    OwnSE enc tO ti B E w' v (xss.set j x') := by
  have hum := List.mem_of_getElem? hu
  refine ⟨vs, by simp [h1], by rw [List.length_set]; exact own_kept h2 hg fun g hg' e => h5 u hum g e hg', fun i x u' hi hu' => ?_, h4, h5, h6, h7⟩
  by_cases hij : j = i
  · subst hij
    rw [hu] at hu'
    obtain rfl := Option.some.inj hu'
    rw [List.getElem?_set] at hi
    simp at hi
    obtain ⟨_, rfl⟩ := hi
    exact hx
  · rw [List.getElem?_set_ne hij] at hi
    refine own_kept (h3 i x u' hi hu') hg fun g hg' e => ?_
    have hp := List.pairwise_iff_getElem.1 h4
    obtain ⟨hjl, rfl⟩ := List.getElem?_eq_some_iff.1 hu
    obtain ⟨hil, rfl⟩ := List.getElem?_eq_some_iff.1 hu'
    rcases Nat.lt_or_ge j i with hlt | hge
    · exact hp j i hjl hil hlt g e hg'
    · exact hp i j hil hjl (by omega) g hg' e
end
theorem OwnSE.raw {α : Type} {enc : List α → List Value} {tO ti : TypeId} {B : Nat} {E : Nat → Prop} {w : World} {v : Value} {xss : List (List α)} (hl : ∀ x, (enc x).length = x.length) (h : OwnSE enc tO ti B E w v xss) : OwnSE id tO ti B E w v (xss.map enc) := by
  obtain ⟨vs, h1, h2, h3, h4⟩ := h
  refine ⟨vs, by simp [h1], by simpa using h2, fun i x u hx hu => ?_, h4⟩
  rw [List.getElem?_map] at hx
  obtain ⟨x', hx', rfl⟩ := Option.map_eq_some_iff.1 hx
  rw [hl]
  exact h3 i x' u hx' hu
/-- A row more, behind an append. -/
theorem se_append {α : Type} {enc : List α → List Value} {tO ti : TypeId} {B : Nat} {E : Nat → Prop} {w w' : World} {v v' u : Value} {x : List α} {xss : List (List α)} {vs : List Value}
    (q1 : vs.length = xss.length) (q3 : ∀ (i : Nat) (x : List α) (u : Value), xss[i]? = some x → vs[i]? = some u → w.ownsRow B ti 1 u x.length (enc x)) (q4 : vs.Pairwise Apart) (q5 : ∀ u ∈ vs, Apart u v) (q6 : ∀ g, v.ownBlock = some g → E g) (q7 : ∀ u ∈ vs, ∀ g, u.ownBlock = some g → E g)
    (hu : w.ownsRow B ti 1 u x.length (enc x)) (hne : ∀ g, u.ownBlock = some g → ¬ E g) (hown : w'.ownsRow B tO 1 v' (xss.length + 1) (vs ++ [u])) (hg : w.grownBy w' v.ownBlock) (hat : v'.ownBlock = v.ownBlock ∨ v'.ownBlock = some w.heap.size) :
    OwnSE enc tO ti B (fun g => E g ∨ u.ownBlock = some g ∨ v'.ownBlock = some g) w' v' (xss ++ [x]) := by
  have hvs : ∀ z ∈ vs, ∀ g, z.ownBlock = some g → g < w.heap.size := fun z hz g hg => by
    obtain ⟨i, hi, rfl⟩ := List.mem_iff_getElem.1 hz
    exact ((q3 i _ _ (List.getElem?_eq_getElem (by omega)) (List.getElem?_eq_getElem hi)).lt g hg).2
  have huv : Apart u v' := fun g h1 h2 => by
    rcases hat with e | e
    · rw [e] at h2
      exact hne g h1 (q6 g h2)
    · rw [e] at h2
      have h3 := (hu.lt g h1).2
      have h4 := Option.some.inj h2
      omega
  have hzv : ∀ z ∈ vs, Apart z v' := fun z hz g h1 h2 => by
    rcases hat with e | e
    · rw [e] at h2
      exact q5 z hz g h1 h2
    · rw [e] at h2
      have h3 := hvs z hz g h1
      have h4 := Option.some.inj h2
      omega
  refine OwnSE.snoc (vs := vs) q1 hown (fun i x' u' hx hu' => own_kept (q3 i x' u' hx hu') hg fun g h1 h2 => q5 u' (List.mem_of_getElem? hu') g h1 h2) (own_kept hu hg fun g h1 h2 => hne g h1 (q6 g h2)) q4 hzv (fun z hz g h1 h2 => hne g h2 (q7 z hz g h1)) huv (fun g h => .inr (.inr h)) (fun z hz g h => .inl (q7 z hz g h)) (fun g h => .inr (.inl h))
theorem apart_new {w : World} {v v' u : Value} (h : Apart v u) (hat : v'.ownBlock = v.ownBlock ∨ v'.ownBlock = some w.heap.size) (hu : ∀ g, u.ownBlock = some g → g < w.heap.size) : Apart v' u := fun g h1 h2 => by
  rcases hat with e | e
  · rw [e] at h1
    exact h g h1 h2
  · rw [e] at h1
    have h3 := hu g h2
    have h4 := Option.some.inj h1
    omega
theorem OwnSS.se {α : Type} {enc : List α → List Value} {tO ti : TypeId} {B T : Nat} {w : World} {v : Value} {xss : List (List α)} (h : OwnSS enc tO ti B T w v xss) : OwnSE enc tO ti B (fun g => B ≤ g ∧ g < T) w v xss := by
  obtain ⟨vs, h1, h2, h3, h4, h5, h6, h7⟩ := h
  refine ⟨vs, h1, h2, h3, h4, h5, fun g hg => ⟨(h2.lt g hg).1, h6 g hg⟩, fun u hu g hg => ⟨?_, h7 u hu g hg⟩⟩
  obtain ⟨i, hi, rfl⟩ := List.mem_iff_getElem.1 hu
  exact ((h3 i _ _ (List.getElem?_eq_getElem (by omega)) (List.getElem?_eq_getElem hi)).lt g hg).1
end Go.Proofs.Ytlbfejdbfhgifaa

namespace Go.Proofs.Ytlbfejdbfhgifaa
open Go.RowKit Go.Maps
set_option maxRecDepth 100000
/-! Sets of natural numbers: maps of int to bool that the call has made, and in which only 'true' is stored. -/
theorem set_keyed : Keyed Try.prog 3 := int_keyed Try.underlying3
/-- Block b is a map of at most n entries; the elements are those of S. -/
def SetAt (w : World) (b n : Nat) (S : Nat → Bool) : Prop := ∃ D : DataW Unit, w.ownsMap Try.prog 3 (plainElem Try.prog 4) b n D ∧ IsMap D ∧ (∀ x : Nat, D.atKey (.int .i64 (x : Int)) (.lit (.bool false)) = .lit (.bool (S x))) ∧ (∀ kl, Maps.has D kl = true → ∃ x : Nat, kl = .int .i64 (x : Int) ∧ S x = true ∧ (x : Int) ≤ 9223372036854775807) ∧ ∀ x : Nat, S x = true → Maps.has D (.int .i64 (x : Int)) = true
theorem SetAt.lt {w : World} {b n : Nat} {S : Nat → Bool} (h : SetAt w b n S) : b < w.heap.size := by
  obtain ⟨D, h1, _⟩ := h
  exact h1.lt
theorem SetAt.only {E : Nat → Prop} {w w' : World} {b n : Nat} {S : Nat → Bool} (h : SetAt w b n S) (ho : Only E w w') (hE : ¬ E b) : SetAt w' b n S := by
  have hl := h.lt
  obtain ⟨D, ⟨es, clock, h1, h2, h3, h4⟩, h5⟩ := h
  exact ⟨D, ⟨es, clock, (ho.block b hl hE).trans h1, h2, h3, h4⟩, h5⟩
theorem SetAt.below {w w' : World} {b n : Nat} {S : Nat → Bool} (h : SetAt w b n S) (hb : Below w.heap.size w w') : SetAt w' b n S :=
  h.only (E := fun _ => False) ⟨hb.os, hb.tape, hb.output, hb.size, fun k hk _ => hb.block k hk⟩ id
theorem SetAt.mono {w : World} {b n n' : Nat} {S : Nat → Bool} (h : SetAt w b n S) (hn : n ≤ n') : SetAt w b n' S := by
  obtain ⟨D, h1, h2⟩ := h
  exact ⟨D, h1.mono hn, h2⟩
theorem SetAt.congr {w : World} {b n : Nat} {S S' : Nat → Bool} (h : SetAt w b n S) (he : ∀ x, S x = S' x) : SetAt w b n S' := by
  rwa [← funext he]
theorem setAt_made (w : World) : SetAt (w.alloc (.map #[] 0)) w.heap.size 0 (fun _ => false) :=
  ⟨.map [], World.ownsMap_made w _ _ _, isMap_empty, fun x => rfl, fun kl h => (by cases h), fun x h => (by cases h)⟩
theorem i64_wf {x : Nat} (h : (x : Int) ≤ 9223372036854775807) : (Lit.int .i64 (x : Int)).wf = true := by
  simp [Lit.wf, IntKind.min, IntKind.max, IntKind.signed, IntKind.bits]
  omega
theorem i64_ne {x y : Nat} (h : x ≠ y) : Lit.int .i64 (x : Int) ≠ Lit.int .i64 (y : Int) := by
  intro e
  injection e with e1 e2
  exact h (by omega)
section
variable (w : World) {ops : Array Oper} {rest : List Oper} {o : Oper} {a : Act} {Q : Exit → Act → World → Prop}
theorem zero_bool (w : World) : (zeroValue 4).run Try.prog w = .ok (.bool false) w := by kernel_rfl
/-- seen[x] -/
theorem wpList_look_set (hg : o.guard = none) (m x : Operand) (hop : o.op = Op.lookup 138 m x false) (b n : Nat) (S : Nat → Bool) (hm : a.eval m = .map (some b)) (h : SetAt w b n S) (k : Nat) (hk : (k : Int) ≤ 9223372036854775807) (hx : a.eval x = .int .i64 (k : Int))
    (hK : wpList Try.prog ops Q rest (a.put o.dst (.bool (S k))) w) : wpList Try.prog ops Q (o :: rest) a w := by
  refine wpList_plain hg fun K' hK' => ?_
  obtain ⟨D, h1, h2, h3, -⟩ := h
  obtain ⟨v, ps, hrun, hv⟩ := h1.lookup set_keyed Try.underlying138 (zero_bool w) (plainElem_bool Try.underlying4 false) (keyOf_int_mk Try.underlying3 (i64_wf hk))
  rw [h3 k] at hv
  have hvb : v = .bool (S k) := by
    unfold plainElem at hv
    rw [Try.underlying4] at hv
    cases v <;> simp at hv
    rw [hv.1]
  subst hvb
  unfold Oper.wp
  simp [execOp, hop, hm, hx, hrun, Result.andThen]
  exact hK' _ _ hK
/-- seen[x] = true -/
theorem wpList_add_set (hg : o.guard = none) (m x v : Operand) (hop : o.op = Op.mapUpdate 138 m x v ∨ o.op = Op.insert 138 m x v) (b n : Nat) (S : Nat → Bool) (hm : a.eval m = .map (some b)) (h : SetAt w b n S) (hn : n ≤ 1000000) (k : Nat) (hk : (k : Int) ≤ 9223372036854775807) (hx : a.eval x = .int .i64 (k : Int)) (hv : a.eval v = .bool true)
    (hK : ∀ w', SetAt w' b (n + 1) (fun z => S z || z == k) → w.grownBy w' (some b) → wpList Try.prog ops Q rest (a.put o.dst undef) w') : wpList Try.prog ops Q (o :: rest) a w := by
  refine wpList_plain hg fun K' hK' => ?_
  obtain ⟨D, h1, h2, h3, h4, h5⟩ := h
  have hkey := keyOf_int_mk (P := Try.prog) Try.underlying3 (i64_wf hk)
  obtain ⟨w', hrun, r1, r2⟩ := h1.update set_keyed Try.underlying138 (by unfold maxLen; omega) hkey (plainElem_bool Try.underlying4 true)
  have hlit : WideAt.IsKeyLit (.int .i64 (k : Int)) := set_keyed.key hkey
  unfold Oper.wp
  have hq : SetAt w' b (n + 1) (fun z => S z || z == k) := by
    refine ⟨_, r1, h2.put _ _, fun x => ?_, fun kl hh => ?_, fun x hS => ?_⟩
    · by_cases hxk : x = k
      · subst hxk
        rw [atKey_put_same h2 hlit]
        simp
      · rw [atKey_put_other (i64_ne hxk), h3 x]
        have : (x == k) = false := by simpa using hxk
        simp [this]
    · by_cases hkl : kl = .int .i64 (k : Int)
      · exact ⟨k, hkl, by simp, hk⟩
      · rw [has_put_other hkl] at hh
        obtain ⟨x, e1, e2, e3⟩ := h4 kl hh
        exact ⟨x, e1, by simp [e2], e3⟩
    · by_cases hxk : x = k
      · subst hxk
        exact has_put_same h2 hlit _
      · rw [has_put_other (i64_ne hxk)]
        have h6 : (x == k) = false := by simpa using hxk
        simp [h6] at hS
        exact h5 x hS
  have hw2 := hK w' hq r2
  rcases hop with hop | hop
  · simp [execOp, hop, hm, hx, hv, hrun, Result.andThen]
    exact hK' _ _ hw2
  · simp [execOp, hop, hm, hx, hv, hrun, Result.andThen]
    exact hK' _ _ hw2
end
end Go.Proofs.Ytlbfejdbfhgifaa

namespace Go.Proofs.Ytlbfejdbfhgifaa
open Go.RowKit
/-- What marking a slice of ints comes to. -/
def MarkedInts (B : Nat) (v : Value) (n k : Nat) (w : World) (e : Ending) (w' : World) : Prop :=
  e = .returned (.int .i64 ((k + n : Nat) : Int)) ∧ w'.ownsRow B 3 1 v n (runI k n) ∧ w.grownBy w' v.ownBlock
theorem markIntS_any (B : Nat) (v : Value) (n k : Nat) (cs : List Value) (w : World) (h : w.ownsRow B 3 1 v n cs) (hn : n ≤ 1048576) (hk : k ≤ 100000000) :
    Calls Try.prog 58 #[v, .int .i64 k] w (MarkedInts B v n k w) := by
  obtain ⟨A, c, hv, hc, hcm⟩ := (Row.of_own h).shape
  subst hv
  have H := Lib.hid h
  clear h
  go_enter Try.func58, Try.ntmps58
  go_wp2_with fail
  go_loopw [1, 5] (fun q i wr => ∃ (j : Nat) (ds : List Value), j ≤ n ∧ i = .int .i64 j ∧ q = .int .i64 ((k + j : Nat) : Int) ∧ wr.ownsRow B 3 1 (.slice A n c) n ds ∧ ds.take j = runI k j ∧ w.grownBy wr (Value.slice A n c).ownBlock) (fun _ i _ => n - (intOf i).toNat)
  case atStart => exact ⟨0, cs, Nat.zero_le _, rfl, rfl, H.out, rfl, World.grownBy.refl w _⟩
  case round =>
    obtain ⟨j, ds, hj, rfl, rfl, hown, htk, hg⟩ := hrel
    by_cases hlt : j < n
    · obtain ⟨g, c', hv, _, hgl, _⟩ := own_open hown (by omega)
      injection hv with hA _ hcc
      subst hA hcc
      have hl := hown.1
      obtain ⟨u0, _, hd0, hf0⟩ := own_slot hown (j := j) (by omega)
      have s1 := Lib.hid (hown.stored j (.int .i64 ((k : Int) + (j : Int))))
      have t1 := Lib.hid (set_run_at (m := n) (x := (k : Int) + (j : Int)) (by omega) (by omega) hlt htk)
      have G := Lib.hid hg
      clear hown htk hl hg H
      go_wp2_with fail
      go_roundw
      case rel => exact ⟨j + 1, _, by omega, by go_num, by rw [show k + (j + 1) = k + j + 1 from by omega]; go_num, s1.out.1, t1.out, grownBy_comp G.out s1.out.2⟩
      case measure => simp [intOf]; omega
    · obtain rfl : j = n := by omega
      go_wp2
      go_ret
      exact ⟨rfl, by have := own_of_take (k := k) hown (by rw [Nat.mul_one]; exact htk); rwa [Nat.mul_one] at this, hg⟩
theorem heldIntS_any (v : Value) (n k : Nat) (w : World) (h : Row w 1 v n (runI k n)) (hn : n ≤ 1048576) (hk : k ≤ 100000000) :
    Calls Try.prog 113 #[v, .int .i64 k] w fun e w' => e = .returned (.int .i64 ((k + n : Nat) : Int)) ∧ w = w' := by
  obtain ⟨A, c, hv, hc, hcm⟩ := h.shape
  subst hv
  go_enter Try.func113, Try.ntmps113
  go_wp2_with fail
  go_loop [1, 5] (fun q i => ∃ (j : Nat), j ≤ n ∧ i = .int .i64 j ∧ q = .int .i64 ((k + j : Nat) : Int)) (fun _ i => n - (intOf i).toNat)
  case atStart => exact ⟨0, Nat.zero_le _, rfl, rfl⟩
  case round =>
    obtain ⟨j, hj, rfl, rfl⟩ := hrel
    by_cases hlt : j < n
    · obtain ⟨b, o, c', hv, _, _, hbl, hcell⟩ := h.open (by omega)
      injection hv with hA _ hcc
      subst hA hcc
      have c0 := hcell j _ (runI_get (by omega))
      clear hcell h
      go_wp2_with fail
      go_round
      case rel => exact ⟨j + 1, by omega, by go_num, by rw [show k + (j + 1) = k + j + 1 from by omega]; go_num⟩
      case measure => simp [intOf]; omega
    · obtain rfl : j = n := by omega
      go_wp2
      go_ret
      exact ⟨rfl, rfl⟩
end Go.Proofs.Ytlbfejdbfhgifaa

namespace Go.Proofs.Ytlbfejdbfhgifaa
open Go.RowKit
set_option maxRecDepth 100000
/-! Slices of slices of ints. -/
theorem info_ints : (Try.prog.info? 22).map (fun i => (i.zero, i.size, i.bytes)) = some (some (.slice none 0 0), 1, 24) := by kernel_rfl
def OwnIntSS (B T : Nat) (w : World) (v : Value) (xss : List (List Int)) : Prop := OwnSS ints 22 3 B T w v xss
end Go.Proofs.Ytlbfejdbfhgifaa

namespace Go.Proofs.Ytlbfejdbfhgifaa
open Go.RowKit
set_option maxRecDepth 100000
theorem take_eq_get {α : Type} {xs ys : List α} {k : Nat} {x : α} (h : xs.take k = ys.take k) (hx : xs[k]? = some x) (hy : ys[k]? = some x) : xs.take (k + 1) = ys.take (k + 1) := by
  rw [take_snoc hx, take_snoc hy, h]
set_option maxHeartbeats 4000000 in
theorem eqIntSS_any (v v2 : Value) (xss yss : List (List Int)) (w : World) (h : SSAt ints w v xss) (h2 : SSAt ints w v2 yss) (hlen : ∀ x ∈ xss, x.length ≤ 1048576) :
    Calls Try.prog 69 #[v, v2] w fun e w' => e = .returned (.bool (decide (xss = yss))) ∧ Below w.heap.size w w' := by
  obtain ⟨A, c, hv, hc, hcm⟩ := h.shape
  obtain ⟨A2, c2, hv2, hc2, hcm2⟩ := h2.shape
  subst hv hv2
  unfold maxLen at hcm hcm2
  have H := Lib.hid h
  have H2 := Lib.hid h2
  clear h h2
  obtain ⟨res, hres⟩ : ∃ res, decide (xss = yss) = res := ⟨_, rfl⟩
  rw [hres]
  have HR := Lib.hid hres
  clear hres
  by_cases hl : xss.length = yss.length
  · have HL := Lib.hid hl
    have hl1 : ((xss.length : Int) != (yss.length : Int)) = false := by rw [hl]; simp
    have hl2 : xss.length ≤ yss.length := by omega
    have hl3 : yss.length ≤ xss.length := by omega
    clear hl
    go_enter Try.func69, Try.ntmps69
    go_wp2_with fail
    go_loopw [5] (fun i wr => ∃ k : Nat, k ≤ xss.length ∧ i = .int .i64 k ∧ Hid (xss.take k = yss.take k) ∧ Below w.heap.size w wr) (fun i _ => xss.length - (intOf i).toNat)
    case atStart => exact ⟨0, Nat.zero_le _, rfl, Lib.hid rfl, Below.refl _ _⟩
    case round =>
      obtain ⟨k, hk, rfl, htk, hb⟩ := hrel
      by_cases hlt : k < xss.length
      · obtain ⟨x, hx⟩ := at_some hlt
        obtain ⟨y, hy⟩ := at_some (show k < yss.length by omega)
        obtain ⟨b, o, Bx, m, rfl, hbl, hc1, hm1, hm2, hr⟩ := ss_open H.out hb hx
        obtain ⟨b', o', Bx', m', rfl, hbl', hc1', hm1', hm2', hr'⟩ := ss_open H2.out hb hy
        have hxl := hlen x (List.mem_of_getElem? hx)
        have Hx := Lib.hid hx
        have Hy := Lib.hid hy
        have Hb := Lib.hid hb
        have hz := hb.size
        have g1 := gw_cell hc1 (show b < wr.heap.size by omega)
        have g2 := gw_cell hc1' (show b' < wr.heap.size by omega)
        have HC : Hid (∀ n : GW wr, Calls Try.prog 56 #[.slice Bx x.length m, .slice Bx' y.length m'] (gw n) fun e w' => e = .returned (.bool (decide (x = y))) ∧ Drew (gw n) w') := Lib.hid fun n => eqIntS_any _ _ x y _ (hr.below (gw_below n)) (hr'.below (gw_below n)) hxl
        clear hx hy hb hr hr'
        cases hd : decide (x = y)
        · rw [hd] at HC
          obtain rfl : res = false := by rw [← HR.out]; exact decide_eq_false (take_ne Hx.out Hy.out (of_decide_eq_false hd))
          go_wp2_with fail
          refine wp_region_grow (by kernel_rfl) (by kernel_rfl) ?_
          repeat (go_big_quiet_step ((go_at_call 56; exact grow_drew (HC.out _))))
          refine wpQuiet_nil ?_
          intro _ hw'
          obtain ⟨nq, hw''⟩ := hw'
          subst hw''
          have hgq := gw_below nq
          generalize gw nq = wq at *
          clear nq
          have Hb5 := Lib.hid (Hb.out.trans (hgq.mono hz))
          clear hgq g1 g2
          go_wp2_with fail
          go_ret
          exact ⟨rfl, Hb5.out⟩
        · rw [hd] at HC
          have hxy := of_decide_eq_true hd
          subst hxy
          have Hn := Lib.hid (take_eq_get htk.out Hx.out Hy.out)
          clear hd
          go_wp2_with fail
          refine wp_region_grow (by kernel_rfl) (by kernel_rfl) ?_
          repeat (go_big_quiet_step ((go_at_call 56; exact grow_drew (HC.out _))))
          refine wpQuiet_nil ?_
          intro _ hw'
          obtain ⟨nq, hw''⟩ := hw'
          subst hw''
          have hgq := gw_below nq
          generalize gw nq = wq at *
          clear nq
          have Hb5 := Lib.hid (Hb.out.trans (hgq.mono hz))
          clear hgq g1 g2
          go_wp2_with fail
          go_roundw
          case rel => exact ⟨k + 1, by omega, by go_num, Hn, Hb5.out⟩
          case measure => simp [intOf] <;> omega
      · obtain rfl : k = xss.length := by omega
        obtain rfl : res = true := by
          rw [← HR.out]
          refine decide_eq_true ?_
          have := htk.out
          rwa [List.take_length, List.take_of_length_le (by omega)] at this
        go_wp2_with fail
        go_ret
        exact ⟨rfl, hb⟩
  · have hl1 : ((xss.length : Int) != (yss.length : Int)) = true := by simp; omega
    obtain rfl : res = false := by rw [← HR.out]; exact decide_eq_false fun e => hl (by rw [e])
    go_enter Try.func69, Try.ntmps69
    go_wp2_with fail
    go_ret
    exact ⟨rfl, Below.refl _ _⟩
/-- Rows of values of the call's own, all apart, of such lengths. -/
def OwnIntSE (B : Nat) (E : Nat → Prop) (w : World) (v : Value) (xss : List (List Int)) : Prop := OwnSE ints 22 3 B E w v xss
def OwnVS (B : Nat) (E : Nat → Prop) (w : World) (v : Value) (rows : List (List Value)) : Prop := OwnSE id 22 3 B E w v rows
theorem OwnIntSE.raw {B : Nat} {E : Nat → Prop} {w : World} {v : Value} {xss : List (List Int)} (h : OwnIntSE B E w v xss) : OwnVS B E w v (xss.map ints) := OwnSE.raw ints_length h
/-- What marking comes to. -/
def MarkedSS (B : Nat) (E : Nat → Prop) (v : Value) (ns : List Nat) (k : Nat) (w : World) (e : Ending) (w' : World) : Prop :=
  e = .returned (.int .i64 ((k + ns.sum : Nat) : Int)) ∧ OwnVS B E w' v (runs k ns) ∧ Only (fun g => B ≤ g ∧ E g) w w'
theorem lens_get {rows : List (List Value)} {ns : List Nat} (hl : rows.map List.length = ns) {j : Nat} {n : Nat} (h : ns[j]? = some n) : ∃ r, rows[j]? = some r ∧ r.length = n := by
  subst hl
  rw [List.getElem?_map] at h
  obtain ⟨r, hr, rfl⟩ := Option.map_eq_some_iff.1 h
  exact ⟨r, hr, rfl⟩
set_option maxHeartbeats 4000000 in
theorem markIntSS_any (B : Nat) (E : Nat → Prop) (v : Value) (k : Nat) (rows : List (List Value)) (ns : List Nat) (w : World) (h : OwnVS B E w v rows) (hns : rows.map List.length = ns) (hl : ns.length ≤ 1048576) (hn : ns.sum ≤ 1048576) (hk : k ≤ 10000000) :
    Calls Try.prog 70 #[v, .int .i64 k] w (MarkedSS B E v ns k w) := by
  have hrl : rows.length = ns.length := by rw [← hns, List.length_map]
  have hsh : ∃ A c, v = .slice A ns.length c := by
    obtain ⟨A, c, hv, _⟩ := (OwnSE.at h).shape
    exact ⟨A, c, by rw [← hrl]; exact hv⟩
  obtain ⟨A, c, hv⟩ := hsh
  subst hv
  have H := Lib.hid h
  have Hns := Lib.hid hns
  have Hrl := Lib.hid hrl
  clear h hns hrl
  go_enter Try.func70, Try.ntmps70
  go_wp2_with fail
  go_loopw [1, 5] (fun q i wr => ∃ j : Nat, j ≤ ns.length ∧ i = .int .i64 j ∧ q = .int .i64 ((k + (ns.take j).sum : Nat) : Int) ∧ Hid (OwnVS B E wr (.slice A ns.length c) (runs k (ns.take j) ++ rows.drop j)) ∧ Only (fun g => B ≤ g ∧ E g) w wr) (fun _ i _ => ns.length - (intOf i).toNat)
  case atStart => exact ⟨0, Nat.zero_le _, rfl, by simp, H, Only.refl _ _⟩
  case round =>
    obtain ⟨j, hj, rfl, rfl, Ho, hon⟩ := hrel
    clear H
    by_cases hlt : j < ns.length
    · obtain ⟨n, hnj⟩ := at_some hlt
      obtain ⟨r, hr, hrn⟩ := lens_get Hns.out hnj
      obtain ⟨vs, q1, q2, q3, q4, q5, q6, q7⟩ := Ho.out
      have hlenR : (runs k (ns.take j) ++ rows.drop j).length = ns.length := by
        rw [List.length_append, runs_length, List.length_take, List.length_drop, Hrl.out]; omega
      have hrj : (runs k (ns.take j) ++ rows.drop j)[j]? = some r := by
        rw [List.getElem?_append_right (by rw [runs_length, List.length_take]; omega), runs_length, List.length_take, List.getElem?_drop, show j + (j - min j ns.length) = j from by omega]
        exact hr
      obtain ⟨u, hu⟩ : ∃ u, vs[j]? = some u := ⟨vs[j]'(by omega), List.getElem?_eq_getElem _⟩
      have hown := q3 j r u hrj hu
      rw [hrn] at hown
      have hS := Lib.hid (runs_set (k := k) (rows := rows) Hrl.out hnj)
      have hT := Lib.hid (sum_take_succ hnj)
      have hsl := sum_take_le ns j
      have hsl2 := sum_take_le ns (j + 1)
      have hTT := hT.out
      have hQ := Lib.hid q2
      obtain ⟨b, o, c', hv, _, _, hbl, hcell⟩ := (Row.of_own q2).open (by omega)
      rw [hlenR] at hv
      injection hv with hA _ hcc
      subst hA hcc
      have hc0 := hcell j u hu
      obtain ⟨Au, cu, hvu, hcu, hcmu⟩ := (Row.of_own hown).shape
      subst hvu
      have Hown := Lib.hid hown
      have Hon := Lib.hid hon
      have HU := Lib.hid (fun (w' : World) (x' : List Value) (hg : wr.grownBy w' (Value.slice Au n cu).ownBlock) (hx : w'.ownsRow B 3 1 (.slice Au n cu) x'.length (id x')) => OwnSE.update (enc := id) q1 q2 q3 q4 q5 q6 q7 hu hg hx)
      have HE : Hid (∀ g, (Value.slice Au n cu).ownBlock = some g → B ≤ g ∧ E g) := Lib.hid fun g hg => ⟨(hown.lt g hg).1, q7 _ (List.mem_of_getElem? hu) g hg⟩
      generalize (ns.take j).sum = s at *
      clear hcell hown hon q1 q2 q3 q4 q5 q6 q7 hu hr hrn hrj hlenR hnj hTT
      go_wp2_with fail
      refine (markIntS_any B _ n (k + s) _ _ Hown.out (by have := hT.out; omega) (by omega)).mono ?_
      rintro e w2 ⟨rfl, hown2, hg2⟩
      have Hown2 := Lib.hid hown2
      have Hg2 := Lib.hid hg2
      clear hown2 hg2
      go_wp2_with fail
      go_roundw
      case rel =>
        refine ⟨j + 1, by omega, by go_num, by have := hT.out; go_num, Lib.hid ?_, Hon.out.trans (Only.grown Hg2.out HE.out)⟩
        rw [← hS.out]
        exact HU.out w2 (runI (k + s) n) Hg2.out (by rw [runI_length]; exact Hown2.out)
      case measure => simp [intOf] <;> omega
    · obtain rfl : j = ns.length := by omega
      go_wp2_with fail
      go_ret
      refine ⟨ret_int (by rw [List.take_length]), ?_, hon⟩
      have := Ho.out
      rwa [List.take_length, List.drop_eq_nil_of_le (by rw [Hrl.out]; exact Nat.le_refl _), List.append_nil] at this
theorem heldIntSS_any (v : Value) (k : Nat) (ns : List Nat) (w : World) (h : SSAt id w v (runs k ns)) (hl : ns.length ≤ 1048576) (hn : ns.sum ≤ 1048576) (hk : k ≤ 10000000) :
    Calls Try.prog 71 #[v, .int .i64 k] w fun e w' => e = .returned (.int .i64 ((k + ns.sum : Nat) : Int)) ∧ w = w' := by
  have hsh : ∃ A c, v = .slice A ns.length c := by
    obtain ⟨A, c, hv, _⟩ := h.shape
    exact ⟨A, c, by rw [← runs_length k ns]; exact hv⟩
  obtain ⟨A, c, hv⟩ := hsh
  subst hv
  have H := Lib.hid h
  clear h
  go_enter Try.func71, Try.ntmps71
  go_wp2_with fail
  go_loop [1, 5] (fun q i => ∃ j : Nat, j ≤ ns.length ∧ i = .int .i64 j ∧ q = .int .i64 ((k + (ns.take j).sum : Nat) : Int)) (fun _ i => ns.length - (intOf i).toNat)
  case atStart => exact ⟨0, Nat.zero_le _, rfl, by simp⟩
  case round =>
    obtain ⟨j, hj, rfl, rfl⟩ := hrel
    by_cases hlt : j < ns.length
    · obtain ⟨n, hnj⟩ := at_some hlt
      obtain ⟨b, o, Bx, m, rfl, hbl, hc1, hm1, hm2, hr⟩ := ss_open H.out (Below.refl _ _) (runs_get hnj)
      rw [runI_length] at hc1 hm1 hr
      have Hr := Lib.hid hr
      have hT := Lib.hid (sum_take_succ hnj)
      have hsl := sum_take_le ns j
      have hsl2 := sum_take_le ns (j + 1)
      generalize (ns.take j).sum = s at *
      clear hr hnj
      go_wp2_with fail
      refine (heldIntS_any _ n (k + s) _ Hr.out (by have := hT.out; omega) (by omega)).mono ?_
      rintro e w' ⟨rfl, rfl⟩
      have hpos : ¬ (((k + s + n : Nat) : Int) < 0) := by omega
      go_wp2_with fail
      go_round
      case rel => exact ⟨j + 1, by omega, by go_num, by have := hT.out; go_num⟩
      case measure => simp [intOf] <;> omega
    · obtain rfl : j = ns.length := by omega
      go_wp2_with fail
      go_ret
      exact ⟨ret_int (by simp), rfl⟩
end Go.Proofs.Ytlbfejdbfhgifaa

namespace Go.Proofs.Ytlbfejdbfhgifaa
/-! Machines, plainly. -/
/-- A machine as it lies in memory. -/
structure Mz where
  ins : Int
  next : List (List Int)
  out : List (List Int)
namespace Mac
def lenOk (ins : Int) (r : List Int) : Bool := decide ((r.length : Int) = ((2 ^ ins.toNat : Nat) : Int))
def inOk (limit x : Int) : Bool := decide (0 ≤ x ∧ x < limit)
def rowOk (ins limit : Int) (r : List Int) : Bool := lenOk ins r && r.all (inOk limit)
def sizes (m : Mz) : Bool := decide (0 ≤ m.ins ∧ m.ins ≤ 4 ∧ 1 ≤ m.next.length ∧ m.next.length ≤ 8 ∧ m.out.length = m.next.length)
def valid (m : Mz) : Bool := sizes m && (m.next.all (rowOk m.ins m.next.length) && m.out.all (rowOk m.ins 8))
/-- Row by row, as the reference looks at it. -/
def entOk (n : Int) (p : Int × Int) : Bool := inOk n p.1 && inOk 8 p.2
def pairOk (ins n : Int) (p : List Int × List Int) : Bool := lenOk ins p.1 && lenOk ins p.2 && (p.1.zip p.2).all (entOk n)
theorem all_zip {α β : Type} (f : α → Bool) (g : β → Bool) : ∀ (l : List α) (l' : List β), l.length = l'.length → (l.zip l').all (fun p => f p.1 && g p.2) = (l.all f && l'.all g)
  | [], [], _ => rfl
  | a :: l, b :: l', h => by
    rw [List.zip_cons_cons, List.all_cons, List.all_cons, List.all_cons, all_zip f g l l' (by simpa using h)]
    cases f a <;> cases g b <;> simp
  | [], _ :: _, h => by simp at h
  | _ :: _, [], h => by simp at h
theorem pair_row (ins n : Int) (p : List Int × List Int) : pairOk ins n p = (rowOk ins n p.1 && rowOk ins 8 p.2) := by
  unfold pairOk rowOk
  cases h1 : lenOk ins p.1
  · simp
  · cases h2 : lenOk ins p.2
    · simp
    · unfold lenOk at h1 h2
      rw [decide_eq_true_eq] at h1 h2
      have := all_zip (inOk n) (inOk 8) p.1 p.2 (by omega)
      simp only [Bool.true_and]
      exact this
theorem valid_zip (m : Mz) : valid m = (sizes m && (m.next.zip m.out).all (pairOk m.ins m.next.length)) := by
  unfold valid
  cases h : sizes m
  · rfl
  · unfold sizes at h
    rw [decide_eq_true_eq] at h
    rw [show (pairOk m.ins m.next.length) = fun p => rowOk m.ins m.next.length p.1 && rowOk m.ins 8 p.2 from funext (pair_row _ _), all_zip _ _ _ _ h.2.2.2.2.symm]
theorem sizes_cases {m : Mz} (h : sizes m = false) : m.ins < 0 ∨ (0 ≤ m.ins ∧ 4 < m.ins) ∨ (0 ≤ m.ins ∧ m.ins ≤ 4 ∧ (m.next.length : Int) < 1) ∨ (0 ≤ m.ins ∧ m.ins ≤ 4 ∧ (1 : Int) ≤ m.next.length ∧ (8 : Int) < m.next.length) ∨ (0 ≤ m.ins ∧ m.ins ≤ 4 ∧ (1 : Int) ≤ m.next.length ∧ (m.next.length : Int) ≤ 8 ∧ (m.out.length : Int) ≠ m.next.length) := by
  unfold sizes at h
  rw [decide_eq_false_iff_not] at h
  omega
theorem all_dropG {α : Type} {p : α → Bool} {l : List α} {k : Nat} {x : α} (h : l[k]? = some x) : (l.drop k).all p = (p x && (l.drop (k + 1)).all p) := by
  obtain ⟨hk, rfl⟩ := List.getElem?_eq_some_iff.1 h
  rw [List.drop_eq_getElem_cons hk, List.all_cons]
theorem zip_get {α β : Type} {l : List α} {l' : List β} {k : Nat} {x : α} {y : β} (h : l[k]? = some x) (h' : l'[k]? = some y) : (l.zip l')[k]? = some (x, y) := by
  rw [List.getElem?_zip_eq_some]
  exact ⟨h, h'⟩
end Mac
end Go.Proofs.Ytlbfejdbfhgifaa

namespace Go.Proofs.Ytlbfejdbfhgifaa
open Go.RowKit
set_option maxRecDepth 100000
/-! What laws do with machines. -/
def MachAt (w : World) (v : Value) (m : Mz) : Prop := ∃ vn vo, v = .agg #[.int .i64 m.ins, vn, vo] ∧ SSAt ints w vn m.next ∧ SSAt ints w vo m.out
theorem MachAt.below {w w' : World} {v : Value} {m : Mz} (h : MachAt w v m) (hb : Below w.heap.size w w') : MachAt w' v m := by
  obtain ⟨vn, vo, hv, h1, h2⟩ := h
  exact ⟨vn, vo, hv, h1.below hb, h2.below hb⟩
theorem MachAt.shape {w : World} {v : Value} {m : Mz} (h : MachAt w v m) : ∃ An cn Ao co, v = .agg #[.int .i64 m.ins, .slice An m.next.length cn, .slice Ao m.out.length co] ∧ cn ≤ maxLen ∧ co ≤ maxLen ∧ m.next.length ≤ cn ∧ m.out.length ≤ co := by
  obtain ⟨vn, vo, rfl, h1, h2⟩ := h
  obtain ⟨An, cn, rfl, h3, h4⟩ := h1.shape
  obtain ⟨Ao, co, rfl, h5, h6⟩ := h2.shape
  exact ⟨An, cn, Ao, co, rfl, h4, h6, h3, h5⟩
/-- The cells of a machine in memory. -/
def MCells (w : World) (g : Nat) (i : Int) (vn vo : Value) : Prop := g < w.heap.size ∧ w.cell? ⟨g, 0, none⟩ = some (.int .i64 i) ∧ w.cell? ⟨g, 1, none⟩ = some vn ∧ w.cell? ⟨g, 2, none⟩ = some vo
theorem MCells.below {w w' : World} {g : Nat} {i : Int} {vn vo : Value} (h : MCells w g i vn vo) (hb : Below w.heap.size w w') : MCells w' g i vn vo := by
  obtain ⟨hg, c0, c1, c2⟩ := h
  exact ⟨Nat.lt_of_lt_of_le hg hb.size, (hb.cell (p := ⟨g, 0, none⟩) hg).trans c0, (hb.cell (p := ⟨g, 1, none⟩) hg).trans c1, (hb.cell (p := ⟨g, 2, none⟩) hg).trans c2⟩
theorem MCells.boxed (w : World) (i : Int) (vn vo : Value) (t : TypeId) : MCells (w.alloc (.cells #[.int .i64 i, vn, vo] t)) w.heap.size i vn vo :=
  ⟨by simp, World.cell?_alloc_new _ _ _ 0, World.cell?_alloc_new _ _ _ 1, World.cell?_alloc_new _ _ _ 2⟩
theorem bel_alloc (w : World) (o : Obj) : Below w.heap.size w (w.alloc o) := (Below.refl _ _).alloc (Nat.le_refl _) o
theorem set_grownM (w : World) (g i : Nat) (v : Value) : w.grownBy (w.setCell ⟨g, i, none⟩ v) (some g) :=
  ⟨rfl, rfl, rfl, by simp [World.setCell], fun k _ hk => heap_setCell_other w ⟨g, i, none⟩ k _ (fun e => hk (by simp [e]))⟩
theorem own_setSS {α : Type} {enc : List α → List Value} {tO ti : TypeId} {B T : Nat} {w : World} {v : Value} {xss : List (List α)} {g i : Nat} {u : Value} (h : OwnSS enc tO ti B T w v xss) (hg : g < B) : OwnSS enc tO ti B T (w.setCell ⟨g, i, none⟩ u) v xss :=
  OwnSS.only h (Only.grown (E := fun k => k = g) (set_grownM w g i u) (fun k hk => (Option.some.inj hk).symm)) (fun k hk _ e => by omega)
end Go.Proofs.Ytlbfejdbfhgifaa

namespace Go.Proofs.Ytlbfejdbfhgifaa
open Go.RowKit
set_option maxRecDepth 100000
/-! A machine under construction: its box, its rows. -/
theorem append_intss {w : World} {ops : Array Oper} {rest : List Oper} {o : Oper} {a : Act} {Q : Exit → Act → World → Prop} (hgd : o.guard = none) (s x : Operand)
    (ho : o.op = .call { callee := .builtin .append, args := #[s, x], argTypes := #[39, 39] })
    (base : Nat) (v : Value) (n : Nat) (xs : List Value) (hs : a.eval s = v) (hown : w.ownsRow base 22 1 v n xs) (sv : Value) (m : Nat) (news : List Value) (hx : a.eval x = sv) (hr : Row w 1 sv m news) (h1 : ∀ u ∈ news, u.oneCell' = true)
    (h63 : n + m ≤ 1000000) (hbase : base ≤ w.heap.size)
    (h : ∀ v' w', w'.ownsRow base 22 1 v' (n + m) (xs ++ news) → w.grownBy w' v.ownBlock → (v'.ownBlock = v.ownBlock ∨ v'.ownBlock = some w.heap.size) → wpList Try.prog ops Q rest (a.put o.dst v') w') : wpList Try.prog ops Q (o :: rest) a w := by
  obtain ⟨i, hi, hz0, hz1, hz2⟩ := info_parts info_ints
  exact wpList_append_at hgd s x 39 ho base 22 i _ 1 24 Try.underlying39 hi hz0 hz1 hz2 rfl (by decide) v n xs hs hown sv m news hx hr h1 (by unfold maxLen; omega) (by omega) hbase h
section
variable {α : Type} {enc : List α → List Value} {tO ti : TypeId} {B : Nat} {E : Nat → Prop} {w w' : World} {v : Value} {xss : List (List α)}
theorem OwnSE.grown (h : OwnSE enc tO ti B E w v xss) {r : Option Nat} (hg : w.grownBy w' r) (hr : ∀ g, r = some g → ¬ E g) : OwnSE enc tO ti B E w' v xss :=
  OwnSE.only (X := fun g => r = some g) h (Only.grown hg fun k hk => hk) fun g _ he hx => hr g hx he
theorem OwnSE.set (h : OwnSE enc tO ti B E w v xss) {g i : Nat} {u : Value} (hg : g < B) : OwnSE enc tO ti B E (w.setCell ⟨g, i, none⟩ u) v xss :=
  OwnSE.only (X := fun k => k = g) h (Only.grown (set_grown w g i u) fun k hk => (Option.some.inj hk).symm) fun k hk _ e => by omega
end
structure MB (gm : Nat) (ins : Int) (E1 E2 : Nat → Prop) (vN vO : Value) (xs ys : List (List Int)) (w : World) : Prop where
  box : w.heap[gm]? = some (.cells #[.int .i64 ins, vN, vO] 43 (0, 0))
  n : OwnIntSE (gm + 1) E1 w vN xs
  o : OwnIntSE (gm + 1) E2 w vO ys
  d : ∀ g, E1 g → ¬ E2 g
  l1 : ∀ g, E1 g → g < w.heap.size
  l2 : ∀ g, E2 g → g < w.heap.size
theorem mb_lt {gm : Nat} {ins : Int} {E1 E2 : Nat → Prop} {vN vO : Value} {xs ys : List (List Int)} {w : World} (h : MB gm ins E1 E2 vN vO xs ys w) : gm < w.heap.size := by
  rcases Nat.lt_or_ge gm w.heap.size with hl | hl
  · exact hl
  · have := h.box
    rw [Array.getElem?_eq_none hl] at this
    cases this
theorem MB.start {ins : Int} {w : World} (_ : True) : MB w.heap.size ins (fun _ => False) (fun _ => False) (.slice none 0 0) (.slice none 0 0) [] [] (w.alloc (.cells #[.int .i64 ins, .slice none 0 0, .slice none 0 0] 43)) :=
  ⟨heap_alloc_new _ _, OwnSE.nil _ _ _ _ _ _, OwnSE.nil _ _ _ _ _ _, fun _ h => h.elim, fun _ h => h.elim, fun _ h => h.elim⟩
section
variable {gm : Nat} {ins : Int} {E1 E2 : Nat → Prop} {vN vO : Value} {xs ys : List (List Int)} {w w' : World}
theorem MB.grown (h : MB gm ins E1 E2 vN vO xs ys w) {r : Option Nat} (hg : w.grownBy w' r) (h0 : r ≠ some gm) (h1 : ∀ g, r = some g → ¬ E1 g) (h2 : ∀ g, r = some g → ¬ E2 g) : MB gm ins E1 E2 vN vO xs ys w' :=
  ⟨(hg.block gm (mb_lt h) (fun e => h0 e.symm)).trans h.box, h.n.grown hg h1, h.o.grown hg h2, h.d, fun g he => Nat.lt_of_lt_of_le (h.l1 g he) hg.size, fun g he => Nat.lt_of_lt_of_le (h.l2 g he) hg.size⟩
theorem MB.below (h : MB gm ins E1 E2 vN vO xs ys w) (hb : Below w.heap.size w w') : MB gm ins E1 E2 vN vO xs ys w' :=
  h.grown (r := none) ⟨hb.os, hb.tape, hb.output, hb.size, fun k hk _ => hb.block k hk⟩ (by simp) (by simp) (by simp)
theorem MB.cells (h : MB gm ins E1 E2 vN vO xs ys w) : w.cell? ⟨gm, 0, none⟩ = some (.int .i64 ins) ∧ w.cell? ⟨gm, 1, none⟩ = some vN ∧ w.cell? ⟨gm, 2, none⟩ = some vO ∧ w.frozen? ⟨gm, 1, none⟩ = false ∧ w.frozen? ⟨gm, 2, none⟩ = false :=
  ⟨blk_cell h.box 0, blk_cell h.box 1, blk_cell h.box 2, blk_free h.box 1, blk_free h.box 2⟩
/-- A row more of next states. -/
theorem MB.addN {u v' : Value} {x : List Int} {vs : List Value} (h : MB gm ins E1 E2 vN vO xs ys w) (q1 : vs.length = xs.length) (q3 : ∀ (i : Nat) (x : List Int) (u : Value), xs[i]? = some x → vs[i]? = some u → w.ownsRow (gm + 1) 3 1 u x.length (ints x)) (q4 : vs.Pairwise Apart) (q5 : ∀ u ∈ vs, Apart u vN) (q6 : ∀ g, vN.ownBlock = some g → E1 g) (q7 : ∀ u ∈ vs, ∀ g, u.ownBlock = some g → E1 g)
    (hu : w.ownsRow (gm + 1) 3 1 u x.length (ints x)) (n1 : ∀ g, u.ownBlock = some g → ¬ E1 g) (n2 : ∀ g, u.ownBlock = some g → ¬ E2 g) (hown : w'.ownsRow (gm + 1) 22 1 v' (xs.length + 1) (vs ++ [u])) (hg : w.grownBy w' vN.ownBlock) (hat : v'.ownBlock = vN.ownBlock ∨ v'.ownBlock = some w.heap.size) :
    MB gm ins (fun g => E1 g ∨ u.ownBlock = some g ∨ v'.ownBlock = some g) E2 v' vO (xs ++ [x]) ys (w'.setCell ⟨gm, 1, none⟩ v') := by
  have hgm : vN.ownBlock ≠ some gm := fun e => by
    obtain ⟨vs', _, p2, _⟩ := h.n
    have := (p2.lt gm e).1
    omega
  have hbox := (hg.block gm (mb_lt h) (fun e => hgm e.symm)).trans h.box
  have hv2 : ∀ g, v'.ownBlock = some g → ¬ E2 g := fun g hv => by
    rcases hat with e | e
    · rw [e] at hv
      exact h.d g (q6 g hv)
    · rw [e] at hv
      intro he
      have h3 := h.l2 g he
      have h4 := Option.some.inj hv
      omega
  refine ⟨heap_setCell_same w' gm 1 _ _ v' hbox, OwnSE.set (se_append q1 q3 q4 q5 q6 q7 hu n1 hown hg hat) (Nat.lt_succ_self _), (h.o.grown hg fun g hv => h.d g (q6 g hv)).set (Nat.lt_succ_self _), ?_, ?_, ?_⟩
  · rintro g (he | he | he)
    · exact h.d g he
    · exact n2 g he
    · exact hv2 g he
  · rintro g (he | he | he)
    · have h1 := h.l1 g he; have h2 := hg.size; have h3 := (set_grown w' gm 1 v').size; omega
    · have h1 := (hu.lt g he).2; have h2 := hg.size; have h3 := (set_grown w' gm 1 v').size; omega
    · have h1 := (hown.lt g he).2; have h3 := (set_grown w' gm 1 v').size; omega
  · intro g he
    have h1 := h.l2 g he; have h2 := hg.size; have h3 := (set_grown w' gm 1 v').size; omega
/-- A row more of outputs. -/
theorem MB.addO {u v' : Value} {x : List Int} {vs : List Value} (h : MB gm ins E1 E2 vN vO xs ys w) (q1 : vs.length = ys.length) (q3 : ∀ (i : Nat) (x : List Int) (u : Value), ys[i]? = some x → vs[i]? = some u → w.ownsRow (gm + 1) 3 1 u x.length (ints x)) (q4 : vs.Pairwise Apart) (q5 : ∀ u ∈ vs, Apart u vO) (q6 : ∀ g, vO.ownBlock = some g → E2 g) (q7 : ∀ u ∈ vs, ∀ g, u.ownBlock = some g → E2 g)
    (hu : w.ownsRow (gm + 1) 3 1 u x.length (ints x)) (n1 : ∀ g, u.ownBlock = some g → ¬ E1 g) (n2 : ∀ g, u.ownBlock = some g → ¬ E2 g) (hown : w'.ownsRow (gm + 1) 22 1 v' (ys.length + 1) (vs ++ [u])) (hg : w.grownBy w' vO.ownBlock) (hat : v'.ownBlock = vO.ownBlock ∨ v'.ownBlock = some w.heap.size) :
    MB gm ins E1 (fun g => E2 g ∨ u.ownBlock = some g ∨ v'.ownBlock = some g) vN v' xs (ys ++ [x]) (w'.setCell ⟨gm, 2, none⟩ v') := by
  have hgm : vO.ownBlock ≠ some gm := fun e => by
    obtain ⟨vs', _, p2, _⟩ := h.o
    have := (p2.lt gm e).1
    omega
  have hbox := (hg.block gm (mb_lt h) (fun e => hgm e.symm)).trans h.box
  have hv1 : ∀ g, v'.ownBlock = some g → ¬ E1 g := fun g hv => by
    rcases hat with e | e
    · rw [e] at hv
      exact fun he => h.d g he (q6 g hv)
    · rw [e] at hv
      intro he
      have h3 := h.l1 g he
      have h4 := Option.some.inj hv
      omega
  refine ⟨heap_setCell_same w' gm 2 _ _ v' hbox, (h.n.grown hg fun g hv he => h.d g he (q6 g hv)).set (Nat.lt_succ_self _), OwnSE.set (se_append q1 q3 q4 q5 q6 q7 hu n2 hown hg hat) (Nat.lt_succ_self _), ?_, ?_, ?_⟩
  · rintro g h1 (he | he | he)
    · exact h.d g h1 he
    · exact n1 g he h1
    · exact hv1 g he h1
  · intro g he
    have h1 := h.l1 g he; have h2 := hg.size; have h3 := (set_grown w' gm 2 v').size; omega
  · rintro g (he | he | he)
    · have h1 := h.l2 g he; have h2 := hg.size; have h3 := (set_grown w' gm 2 v').size; omega
    · have h1 := (hu.lt g he).2; have h2 := hg.size; have h3 := (set_grown w' gm 2 v').size; omega
    · have h1 := (hown.lt g he).2; have h3 := (set_grown w' gm 2 v').size; omega
end
end Go.Proofs.Ytlbfejdbfhgifaa

namespace Go.Proofs.Ytlbfejdbfhgifaa
open Go.RowKit
/-! Rows that lie in blocks of a set: they stay while only other blocks are written. -/
def RowIn (F : Nat → Prop) (w : World) (size : Nat) (v : Value) (n : Nat) (cs : List Value) : Prop := Row w size v n cs ∧ (0 < n → ∀ g, v.ownBlock = some g → F g)
/-- The blocks from B on. -/
def From (B : Nat) : Nat → Prop := fun g => B ≤ g
theorem RowIn.only {F E : Nat → Prop} {w w' : World} {size n : Nat} {v : Value} {cs : List Value} (h : RowIn F w size v n cs) (ho : Only E w w') (hE : ∀ g, F g → ¬ E g) : RowIn F w' size v n cs := by
  obtain ⟨⟨h1, A, c, rfl, h2, h3, h4⟩, h5⟩ := h
  refine ⟨⟨h1, A, c, rfl, h2, h3, fun hn => ?_⟩, h5⟩
  obtain ⟨b, o, rfl, hb, hc⟩ := h4 hn
  refine ⟨b, o, rfl, Nat.lt_of_lt_of_le hb ho.size, fun j u hu => ?_⟩
  rw [World.cell?_of_block (ho.block b hb (hE b (h5 hn b rfl)))]
  exact hc j u hu
theorem RowIn.mono {F F' : Nat → Prop} {w : World} {size n : Nat} {v : Value} {cs : List Value} (h : RowIn F w size v n cs) (hF : ∀ g, F g → F' g) : RowIn F' w size v n cs := ⟨h.1, fun hn g hg => hF g (h.2 hn g hg)⟩
theorem RowIn.below {F : Nat → Prop} {w w' : World} {size n : Nat} {v : Value} {cs : List Value} (h : RowIn F w size v n cs) (hb : Below w.heap.size w w') : RowIn F w' size v n cs := ⟨h.1.below hb, h.2⟩
theorem RowIn.of_own {w : World} {B size n : Nat} {e : TypeId} {v : Value} {cs : List Value} (h : w.ownsRow B e size v n cs) : RowIn (fun g => B ≤ g ∧ g < w.heap.size) w size v n cs := ⟨Row.of_own h, fun _ g hg => h.lt g hg⟩
def SSIn {α : Type} (enc : List α → List Value) (F : Nat → Prop) (w : World) (v : Value) (xss : List (List α)) : Prop :=
  ∃ vs : List Value, vs.length = xss.length ∧ RowIn F w 1 v xss.length vs ∧ ∀ (i : Nat) (x : List α) (u : Value), xss[i]? = some x → vs[i]? = some u → RowIn F w 1 u x.length (enc x)
variable {α : Type} {enc : List α → List Value} {F : Nat → Prop} {w w' : World} {v : Value} {xss : List (List α)}
theorem SSIn.at (h : SSIn enc F w v xss) : SSAt enc w v xss := by
  obtain ⟨vs, h1, h2, h3⟩ := h
  exact ⟨vs, h1, h2.1, fun i x u hx hu => (h3 i x u hx hu).1⟩
theorem SSIn.only {E : Nat → Prop} (h : SSIn enc F w v xss) (ho : Only E w w') (hE : ∀ g, F g → ¬ E g) : SSIn enc F w' v xss := by
  obtain ⟨vs, h1, h2, h3⟩ := h
  exact ⟨vs, h1, h2.only ho hE, fun i x u hx hu => (h3 i x u hx hu).only ho hE⟩
theorem SSIn.below (h : SSIn enc F w v xss) (hb : Below w.heap.size w w') : SSIn enc F w' v xss := by
  obtain ⟨vs, h1, h2, h3⟩ := h
  exact ⟨vs, h1, h2.below hb, fun i x u hx hu => (h3 i x u hx hu).below hb⟩
theorem SSIn.mono {F' : Nat → Prop} (h : SSIn enc F w v xss) (hF : ∀ g, F g → F' g) : SSIn enc F' w v xss := by
  obtain ⟨vs, h1, h2, h3⟩ := h
  exact ⟨vs, h1, h2.mono hF, fun i x u hx hu => (h3 i x u hx hu).mono hF⟩
theorem SSIn.nil (enc : List α → List Value) (F : Nat → Prop) (w : World) : SSIn enc F w (.slice none 0 0) [] := ⟨[], rfl, ⟨Row.nil w 1, fun h => absurd h (Nat.lt_irrefl 0)⟩, fun i x u hx _ => by simp at hx⟩
/-- A row that was copied, and one more row behind it. -/
theorem SSIn.snoc {B : Nat} {e ti : TypeId} {v' u : Value} {x : List α} {vs : List Value} (h1 : vs.length = xss.length) (h3 : ∀ (i : Nat) (x : List α) (u : Value), xss[i]? = some x → vs[i]? = some u → RowIn F w 1 u x.length (enc x))
    (hu : w.ownsRow B ti 1 u x.length (enc x)) (hv : w.ownsRow B e 1 v' (xss.length + 1) (vs ++ [u])) : SSIn enc (fun g => F g ∨ (B ≤ g ∧ g < w.heap.size)) w v' (xss ++ [x]) := by
  refine ⟨vs ++ [u], by simp [h1], ?_, fun i y z hy hz => ?_⟩
  · rw [List.length_append, List.length_singleton]
    exact (RowIn.of_own hv).mono fun g hg => .inr hg
  · rcases Nat.lt_or_ge i xss.length with hi | hi
    · rw [List.getElem?_append_left hi] at hy
      rw [List.getElem?_append_left (by omega)] at hz
      exact (h3 i y z hy hz).mono fun g hg => .inl hg
    · have hil : i = xss.length := by
        rcases Nat.lt_or_ge xss.length i with h | h
        · rw [List.getElem?_eq_none (by simp; omega)] at hy; cases hy
        · omega
      subst hil
      rw [List.getElem?_append_right (Nat.le_refl _), Nat.sub_self] at hy
      rw [List.getElem?_append_right (by omega), h1, Nat.sub_self] at hz
      obtain rfl := Option.some.inj hy
      obtain rfl := Option.some.inj hz
      exact (RowIn.of_own hu).mono fun g hg => .inr hg
end Go.Proofs.Ytlbfejdbfhgifaa
