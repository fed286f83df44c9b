import Derived.Test.YtmlcbikljlhhkaaCirE
import Derived.Test.YtmlcbikljlhhkaaBoolS
namespace Go.Proofs.Ytmlcbikljlhhkaa
open Go.RowKit
/-! The values of a circuit, by the reference. -/
theorem bools_open {w wr : World} {A : Option Addr} {n c : Nat} {xs : List Bool} (h : Row w 1 (.slice A n c) n (bools xs)) (hb : Below w.heap.size w wr) {i : Nat} (hn : n = xs.length) (hi : i < xs.length) :
    ∃ b o x, A = some ⟨b, o, none⟩ ∧ b < w.heap.size ∧ Hid (xs[i]? = some x) ∧ wr.cell? ⟨b, o + i, none⟩ = some (.bool x) := by
  subst hn
  obtain ⟨b, o, c', hv, _, _, hbl, hcell⟩ := h.open (by omega)
  obtain ⟨rfl, _⟩ : A = some ⟨b, o, none⟩ ∧ True := by injection hv with e1; exact ⟨e1, trivial⟩
  obtain ⟨x, hx, hs⟩ := bools_at hi
  exact ⟨b, o, x, rfl, hbl, Lib.hid hx, (hb.cell (p := ⟨b, _, none⟩) hbl).trans (hcell _ _ hs)⟩
theorem tmod_two (y : Nat) : (y : Int).tmod 2 = ((y % 2 : Nat) : Int) := by
  rw [Int.tmod_eq_emod_of_nonneg (by omega)]
  omega
theorem lit_of {v : List Bool} {l : Nat} {x : Bool} (h : v[l / 2]? = some x) : Cir.lit v l = (x != (l % 2 == 1)) := by
  unfold Cir.lit
  rw [List.getD_eq_getElem?_getD, h]
  rfl
theorem l2Lit_any (v : Value) (xs : List Bool) (l : Nat) (w : World) (h : BoolsAt w v xs) (hl : l < 2 * xs.length) (hb : l ≤ 1000000) :
    Calls Try.prog 62 #[v, .int .i64 l] w fun e w' => e = .returned (.bool (Cir.lit xs l)) ∧ w = w' := by
  obtain ⟨A, c, hv, hc, hcm⟩ := Row.shape h
  subst hv
  have hi : l / 2 < xs.length := by omega
  obtain ⟨b, o, x, rfl, hbl, hx, hs⟩ := bools_open h (Below.refl _ _) rfl hi
  have HL := Lib.hid (lit_of hx.out)
  have hq : (l : Int).tdiv 2 = ((l / 2 : Nat) : Int) := by rw [Int.tdiv_eq_ediv_of_nonneg (by omega)]; omega
  have hm : (l : Int).tmod 2 = ((l % 2 : Nat) : Int) := by rw [Int.tmod_eq_emod_of_nonneg (by omega)]; omega
  have he : (((l % 2 : Nat) : Int) == 1) = (l % 2 == 1) := by
    rw [Bool.eq_iff_iff, beq_iff_eq, beq_iff_eq]
    omega
  have hqb : l / 2 ≤ 1000000 := by omega
  generalize l / 2 = q at *
  generalize l % 2 = r at *
  have hwr : IntKind.i64.wrap (q : Int) = q := IntWalk.i64_in _ (by omega)
  go_enter Try.func62, Try.ntmps62
  go_wp2
  go_ret
  refine ⟨ret_bool ?_, rfl⟩
  rw [HL.out]
  simp
  generalize (r == 1) = p
  cases x <;> cases p <;> rfl
theorem append_bools {w : World} {ops : Array Oper} {rest : List Oper} {o : Oper} {a : Act} {Q : Exit → Act → World → Prop} (hgd : o.guard = none) (s x : Operand)
    (ho : o.op = .call { callee := .builtin .append, args := #[s, x], argTypes := #[78, 78] })
    (base : Nat) (v : Value) (n : Nat) (xs : List Value) (hs : a.eval s = v) (hown : w.ownsRow base 4 1 v n xs) (sv : Value) (m : Nat) (news : List Value) (hx : a.eval x = sv) (hr : Row w 1 sv m news) (h1 : ∀ u ∈ news, u.oneCell' = true)
    (h63 : n + m ≤ 10000000) (hbase : base ≤ w.heap.size)
    (h : ∀ v' w', w'.ownsRow base 4 1 v' (n + m) (xs ++ news) → w.grownBy w' v.ownBlock → (v'.ownBlock = v.ownBlock ∨ v'.ownBlock = some w.heap.size) → wpList Try.prog ops Q rest (a.put o.dst v') w') : wpList Try.prog ops Q (o :: rest) a w := by
  obtain ⟨i, hi, hz0, hz1, hz2⟩ := info_parts info_bool
  exact wpList_append_at hgd s x 78 ho base 4 i _ 1 1 Try.underlying78 hi hz0 hz1 hz2 rfl (by decide) v n xs hs hown sv m news hx hr h1 (by unfold maxLen; omega) (by omega) hbase h
theorem bools_one (xs : List Bool) : ∀ u ∈ bools xs, u.oneCell' = true := by
  intro u hu
  obtain ⟨x, _, rfl⟩ := List.mem_map.1 hu
  rfl
theorem bools_append (a b : List Bool) : bools (a ++ b) = bools a ++ bools b := List.map_append
def OwnBools (xs : List Bool) (w : World) (e : Ending) (w' : World) : Prop := ∃ v, e = .returned v ∧ w'.ownsRow w.heap.size 4 1 v xs.length (bools xs) ∧ Below w.heap.size w w'
theorem l4Bits_any (x n : Nat) (w : World) (hx : x ≤ 1000000) (hn : n ≤ 16) :
    Calls Try.prog 64 #[.int .i64 x, .int .i64 n] w (OwnBools (Cir.bits x n) w) := by
  go_enter Try.func64, Try.ntmps64
  go_wp2_with fail
  go_loopw [5, 6] (fun v i wr => ∃ (vv : Value) (k : Nat), vv = v ∧ k ≤ n ∧ i = .int .i64 k ∧ Hid (wr.ownsRow w.heap.size 4 1 v k (bools (Cir.bits x k))) ∧ Below w.heap.size w wr) (fun _ i _ => n - (intOf i).toNat)
  case atStart => exact ⟨_, 0, rfl, Nat.zero_le _, rfl, Lib.hid (World.ownsRow_lit (base := w.heap.size) (e := 4) (size := 1) w #[] 0 (Nat.le_refl _) (by unfold maxLen; omega) rfl), (Below.refl _ _).alloc (Nat.le_refl _) _⟩
  case round =>
    obtain ⟨vv, k, hvv, hk, rfl, Ho, hb⟩ := hrel
    subst hvv
    by_cases hlt : k < n
    · have hz := hb.size
      have Hb := Lib.hid hb
      have HS : Hid (bools (Cir.bits x (k + 1)) = bools (Cir.bits x k) ++ [.bool (x.testBit k)]) := Lib.hid (by unfold Cir.bits; rw [List.range_succ, List.map_append, bools_append]; rfl)
      have hq : (x : Int) / 2 ^ k = ((x / 2 ^ k : Nat) : Int) := by
        rw [Int.natCast_ediv, two_pow]
      have hm := tmod_two (x / 2 ^ k)
      have he : (((x / 2 ^ k % 2 : Nat) : Int) == 1) = x.testBit k := by
        rw [Nat.testBit_eq_decide_div_mod_eq, Bool.eq_iff_iff, beq_iff_eq, decide_eq_true_iff]
        omega
      generalize x / 2 ^ k = y at hq hm he
      generalize y % 2 = r at hm he
      generalize x.testBit k = b at *
      have Hlit := Lib.hid (Row.of_own (World.ownsRow_lit (base := wr.heap.size) (e := 4) (size := 1) wr #[.bool b] 1 (Nat.le_refl _) (by unfold maxLen; omega) rfl))
      clear hb
      go_wp2_with (at_builtin; refine append_bools rfl (.tmp 13) (.tmp 19) rfl w.heap.size _ k _ rfl (Ho.out.alloc _) _ 1 [.bool b] rfl Hlit.out (by simp [Value.oneCell']) (by omega) (by simp; omega) ?_; intro v7 w7 hown7 hg7 hat7; have Ho7 := Lib.hid hown7; have Hg7 := Lib.hid hg7; clear hown7 hg7 hat7)
      go_roundw
      case rel => exact ⟨_, k + 1, rfl, by omega, by go_num, Lib.hid (by rw [HS.out]; exact Ho7.out), (Hb.out.alloc hz _).grown Hg7.out (Hb.out.alloc hz _).size (own_ge0 Ho.out)⟩
      case measure => simp [intOf] <;> omega
    · obtain rfl : k = n := by omega
      go_wp2
      go_ret
      exact ⟨_, rfl, by simpa [Cir.bits] using Ho.out, hb⟩
theorem ownBools_at {w : World} {b : Nat} {v : Value} {xs : List Bool} (h : w.ownsRow b 4 1 v xs.length (bools xs)) : BoolsAt w v xs := Row.of_own h
theorem PCells.grown {w w' : World} {g : Nat} {i : Int} {vn vg vo : Value} {row : Option Nat} (h : PCells w g i vn vg vo) (hb : w.grownBy w' row) (hr : row ≠ some g) : PCells w' g i vn vg vo := by
  obtain ⟨hg, c0, c1, c2, c3⟩ := h
  have hk := hb.block g hg fun e => hr e.symm
  exact ⟨Nat.lt_of_lt_of_le hg hb.size, (World.cell?_of_block (a := ⟨g, 0, none⟩) hk).trans c0, (World.cell?_of_block (a := ⟨g, 1, none⟩) hk).trans c1, (World.cell?_of_block (a := ⟨g, 2, none⟩) hk).trans c2, (World.cell?_of_block (a := ⟨g, 3, none⟩) hk).trans c3⟩
theorem own_ne {w : World} {base n size : Nat} {e : TypeId} {v : Value} {xs : List Value} {g : Nat} (h : w.ownsRow base e size v n xs) (hg : g < base) : v.ownBlock ≠ some g := fun e => by
  have := (h.lt g e).1
  omega
set_option maxHeartbeats 4000000 in
set_option maxRecDepth 100000 in
theorem l2Values_any (v vs vi : Value) (c : Ci) (st inp : List Bool) (w : World) (h : CircAt w v (Cir.toCz c)) (hc : Cir.Ok c) (hs : BoolsAt w vs st) (hi : BoolsAt w vi inp) (h1 : inp.length = c.ins) (h2 : st.length = c.next.length) :
    Calls Try.prog 63 #[v, vs, vi] w (OwnBools (Cir.vals c st inp) w) := by
  obtain ⟨vn, vg, vo, rfl, r1, r2, r3⟩ := h
  have l1 := hc.ins
  have l2 := hc.nexts
  have l3 := hc.gatess
  have HG := Lib.hid hc.gate
  have hglen : (Cir.toCz c).gates.length = c.gates.length := List.length_map _
  obtain ⟨Ag, cg, hvg, hcg, hcmg⟩ := Row.shape r2
  subst hvg
  rw [hglen] at hcg
  have R2 : Hid (Row w 2 (.slice Ag c.gates.length cg) c.gates.length (cubes (Cir.toCz c).gates)) := Lib.hid (by have := r2; unfold CubesAt at this; rwa [hglen] at this)
  have Hs := Lib.hid hs
  have Hi := Lib.hid hi
  clear r1 r2 r3 hs hi
  have hE : Hid (∀ k, k ≤ c.gates.length → (Cir.evalG (c.gates.take k) (false :: (inp ++ st))).length = Cir.nfirst c + k) := Lib.hid fun k hk => by
    rw [Cir.evalG_length]
    simp [Cir.nfirst]
    omega
  have hnf : Cir.nfirst c ≤ 8 := by unfold Cir.nfirst; omega
  have HV : Hid (Cir.evalG (c.gates.take c.gates.length) (false :: (inp ++ st)) = Cir.vals c st inp) := Lib.hid (by rw [List.take_length]; rfl)
  generalize Cir.vals c st inp = res at *
  generalize Cir.nfirst c = nf at *
  rw [hglen]
  generalize (Cir.toCz c).ins = ci at *
  have Hlit : Hid (((w.alloc (.cells #[.int .i64 ci, vn, .slice Ag c.gates.length cg, vo] 30)).alloc (.cells #[.bool false] 4)).ownsRow (w.heap.size + 1) 4 1 (.slice (some ⟨w.heap.size + 1, 0, none⟩) 1 1) 1 [.bool false]) := Lib.hid (by
    have := World.ownsRow_lit (base := w.heap.size + 1) (e := 4) (size := 1) (w.alloc (.cells #[.int .i64 ci, vn, .slice Ag c.gates.length cg, vo] 30)) #[.bool false] 1 (by simp) (by unfold maxLen; omega) rfl
    rwa [World.size_alloc] at this)
  have P0 := Lib.hid (cells_alloc (PCells.boxed w ci vn (.slice Ag c.gates.length cg) vo 30) (.cells #[.bool false] 4))
  have B0 := Lib.hid ((((Below.refl w.heap.size w).alloc (Nat.le_refl _) (.cells #[.int .i64 ci, vn, .slice Ag c.gates.length cg, vo] 30))).alloc (by simp) (.cells #[.bool false] 4))
  go_enter Try.func63, Try.ntmps63
  go_wp2_with (first
    | (at_builtin; refine append_bools rfl (.tmp 9) (.tmp 10) rfl (w.heap.size + 1) _ 1 [.bool false] rfl Hlit.out _ inp.length (bools inp) rfl (Row.below Hi.out B0.out) (bools_one _) (by omega) (by simp) ?_; intro v5 w5 hown5 hg5 hat5; have Ho5 := Lib.hid hown5; have P5 := Lib.hid (P0.out.grown hg5 (own_ne Hlit.out (by omega))); have B5 := Lib.hid (B0.out.grown hg5 B0.out.size (fun q hq => by have := (Hlit.out.lt q hq).1; omega)); have z5 := hg5.size; clear hown5 hg5 hat5)
    | (at_builtin; refine append_bools rfl (.tmp 12) (.tmp 13) rfl (w.heap.size + 1) _ (1 + inp.length) ([Value.bool false] ++ bools inp) rfl Ho5.out _ st.length (bools st) rfl (Row.below Hs.out B5.out) (bools_one _) (by omega) (by simp at z5; omega) ?_; intro v6 w6 hown6 hg6 hat6; have Ho6 := Lib.hid hown6; have P6 := Lib.hid (P5.out.grown hg6 (own_ne Ho5.out (by omega))); have B6 := Lib.hid (B5.out.grown hg6 B5.out.size (fun q hq => by have := (Ho5.out.lt q hq).1; omega)); have z6 : w.heap.size + 1 ≤ w6.heap.size := (by have := hg6.size; simp at z5; omega); clear hown6 hg6 hat6))
  go_loopw [7, 8] (fun v i wr => ∃ (vv : Value) (k : Nat), vv = v ∧ k ≤ c.gates.length ∧ i = .int .i64 k ∧ Hid (wr.ownsRow (w.heap.size + 1) 4 1 v (Cir.evalG (c.gates.take k) (false :: (inp ++ st))).length (bools (Cir.evalG (c.gates.take k) (false :: (inp ++ st))))) ∧ Hid (PCells wr w.heap.size ci vn (.slice Ag c.gates.length cg) vo) ∧ Below w.heap.size w wr) (fun _ i _ => c.gates.length - (intOf i).toNat)
  case atStart =>
    refine ⟨_, 0, rfl, Nat.zero_le _, rfl, Lib.hid ?_, P6, B6.out⟩
    have := Ho6.out
    have e : (Cir.evalG (c.gates.take 0) (false :: (inp ++ st))) = false :: (inp ++ st) := rfl
    rw [e]
    have e2 : bools (false :: (inp ++ st)) = [.bool false] ++ bools inp ++ bools st := by simp [bools]
    rw [e2, show (false :: (inp ++ st)).length = 1 + inp.length + st.length by simp; omega]
    exact this
  case round =>
    obtain ⟨vv, k, hvv, hk, rfl, Ho, P, hb⟩ := hrel
    subst hvv
    by_cases hlt : k < c.gates.length
    · obtain ⟨b, o, x, rfl, hbl, hx, hs1, hs2⟩ := cubes_open R2.out hb hglen.symm (i := k) (by omega)
      obtain ⟨g, hg⟩ := at_some hlt
      have hxe : x = ((g.1 : Int), (g.2 : Int)) := by
        have h1 := hx.out
        unfold Cir.toCz at h1
        simp only [List.getElem?_map, hg] at h1
        exact (Option.some.inj h1).symm
      subst hxe
      obtain ⟨g1, g2⟩ := HG.out k g hg
      have hEk := hE.out k hk
      have HS : Hid (bools (Cir.evalG (c.gates.take (k + 1)) (false :: (inp ++ st))) = bools (Cir.evalG (c.gates.take k) (false :: (inp ++ st))) ++ [.bool (Cir.gval (Cir.evalG (c.gates.take k) (false :: (inp ++ st))) g)] ∧ (Cir.evalG (c.gates.take (k + 1)) (false :: (inp ++ st))).length = (Cir.evalG (c.gates.take k) (false :: (inp ++ st))).length + 1) := Lib.hid (by rw [Cir.evalG_take_snoc hg, bools_append, List.length_append]; exact ⟨rfl, rfl⟩)
      have hgv : Cir.gval (Cir.evalG (c.gates.take k) (false :: (inp ++ st))) g = (Cir.lit (Cir.evalG (c.gates.take k) (false :: (inp ++ st))) g.1 && Cir.lit (Cir.evalG (c.gates.take k) (false :: (inp ++ st))) g.2) := rfl
      rw [hgv] at HS
      clear hgv hx hg
      obtain ⟨E2, hE2⟩ : ∃ E2, Cir.evalG (c.gates.take (k + 1)) (false :: (inp ++ st)) = E2 := ⟨_, rfl⟩
      rw [hE2] at HS
      have HE2 := Lib.hid hE2
      clear hE2
      generalize Cir.evalG (c.gates.take k) (false :: (inp ++ st)) = E at *
      obtain ⟨hzp, p0, p1, p2, p3⟩ := P.out
      have Hb := Lib.hid hb
      have hz := hb.size
      clear hb p0 p1 p3
      obtain ⟨G1, hG1⟩ : ∃ G1, G1 = g.1 := ⟨_, rfl⟩
      obtain ⟨G2, hG2⟩ : ∃ G2, G2 = g.2 := ⟨_, rfl⟩
      rw [← hG1] at g1 HS hs1
      rw [← hG2] at g2 HS hs2
      clear hG1 hG2
      go_wp2_with fail
      refine (l2Lit_any _ E G1 _ (ownBools_at Ho.out) (by omega) (by omega)).mono ?_
      rintro e w' ⟨rfl, rfl⟩
      cases hv1 : Cir.lit E G1
      · rw [hv1] at HS
        have Hlit := Lib.hid (Row.of_own (World.ownsRow_lit (base := wr.heap.size) (e := 4) (size := 1) wr #[.bool false] 1 (Nat.le_refl _) (by unfold maxLen; omega) rfl))
        clear hv1
        go_wp2_with (at_builtin; refine append_bools rfl (.tmp 22) (.tmp 41) rfl (w.heap.size + 1) _ E.length _ rfl (Ho.out.alloc _) _ 1 [.bool false] rfl Hlit.out (by simp [Value.oneCell']) (by omega) (by simp; omega) ?_; intro v7 w7 hown7 hg7 hat7; have Ho7 := Lib.hid hown7; have Hg7 := Lib.hid hg7; clear hown7 hg7 hat7)
        go_roundw
        case rel => exact ⟨_, k + 1, rfl, by omega, by go_num, Lib.hid (by rw [HE2.out, HS.out.1, HS.out.2]; exact Ho7.out), Lib.hid ((cells_alloc P.out _).grown Hg7.out (own_ne Ho.out (by omega))), (Hb.out.alloc hz _).grown Hg7.out (Hb.out.alloc hz _).size (fun q hq => by have := (Ho.out.lt q hq).1; omega)⟩
        case measure => simp [intOf] <;> omega
      · rw [hv1] at HS
        clear hv1
        go_wp2_with fail
        refine (l2Lit_any _ E G2 _ (ownBools_at Ho.out) (by omega) (by omega)).mono ?_
        rintro e w' ⟨rfl, rfl⟩
        rw [Bool.true_and] at HS
        generalize Cir.lit E G2 = u at *
        have Hlit := Lib.hid (Row.of_own (World.ownsRow_lit (base := wr.heap.size) (e := 4) (size := 1) wr #[.bool u] 1 (Nat.le_refl _) (by unfold maxLen; omega) rfl))
        go_wp2_with (at_builtin; refine append_bools rfl (.tmp 22) (.tmp 41) rfl (w.heap.size + 1) _ E.length _ rfl (Ho.out.alloc _) _ 1 [.bool u] rfl Hlit.out (by simp [Value.oneCell']) (by omega) (by simp; omega) ?_; intro v7 w7 hown7 hg7 hat7; have Ho7 := Lib.hid hown7; have Hg7 := Lib.hid hg7; clear hown7 hg7 hat7)
        go_roundw
        case rel => exact ⟨_, k + 1, rfl, by omega, by go_num, Lib.hid (by rw [HE2.out, HS.out.1, HS.out.2]; exact Ho7.out), Lib.hid ((cells_alloc P.out _).grown Hg7.out (own_ne Ho.out (by omega))), (Hb.out.alloc hz _).grown Hg7.out (Hb.out.alloc hz _).size (fun q hq => by have := (Ho.out.lt q hq).1; omega)⟩
        case measure => simp [intOf] <;> omega
    · obtain rfl : k = c.gates.length := by omega
      obtain ⟨hzp, p0, p1, p2, p3⟩ := P.out
      clear p0 p1 p3
      go_wp2
      go_ret
      exact ⟨_, rfl, by rw [← HV.out]; exact own_mono Ho.out (by omega), hb⟩
end Go.Proofs.Ytmlcbikljlhhkaa
