import Derived.Test.YtdgminjbgjbamaaS05
import Derived.Test.YtdgminjbgjbamaaS02
import Derived.Test.YtdgminjbgjbamaaS04
import Derived.Test.YtdgminjbgjbamaaS01
import Derived.Test.YtdgminjbgjbamaaS03
set_option linter.unusedVariables false
set_option linter.unusedSimpArgs false
set_option maxRecDepth 100000
set_option maxHeartbeats 16000000
namespace Go.Proofs.Ytdgminjbgjbamaa
open Go.RowKit
def TAggO (B : Nat) (e : TypeId) (size n : Nat) (cs : List Value) (mk : Value → Value) : Ty := fun w v => ∃ A c, v = mk (.slice A n c) ∧ w.ownsRow B e size (.slice A n c) n cs
theorem own_ne_own {w : World} {B B' n n' size size' : Nat} {e e' : TypeId} {v v' : Value} {cs cs' : List Value} (h : w.ownsRow B e size v n cs) (h' : w.ownsRow B' e' size' v' n' cs') (hne : e ≠ e') {g : Nat} (hg : v.ownBlock = some g) : v'.ownBlock ≠ some g := by
  intro hg'
  rcases h.2 with ⟨rfl, -⟩ | ⟨k, cap, cur, rfl, -, hk, -⟩
  · cases hg
  · rcases h'.2 with ⟨rfl, -⟩ | ⟨k', cap', cur', rfl, -, hk', -⟩
    · cases hg'
    · obtain rfl : k = g := Option.some.inj hg
      obtain rfl : k' = k := Option.some.inj hg'
      rw [hk] at hk'
      injection hk' with h1
      injection h1 with _ h2
      exact hne h2
theorem set1_only (w : World) (g i : Nat) (u : Value) : Only (fun k => k = g) w (w.setCell ⟨g, i, none⟩ u) := Only.grown (set_grown w g i u) (fun k hk => (Option.some.inj hk).symm)
theorem set4_only (w : World) (g : Nat) (a b c d : Value) : Only (fun k => k = g) w ((((w.setCell ⟨g, 0, none⟩ a).setCell ⟨g, 1, none⟩ b).setCell ⟨g, 2, none⟩ c).setCell ⟨g, 3, none⟩ d) :=
  (((set1_only w g 0 a).trans (set1_only _ g 1 b)).trans (set1_only _ g 2 c)).trans (set1_only _ g 3 d)
end Go.Proofs.Ytdgminjbgjbamaa
namespace Go.Proofs.Ytdgminjbgjbamaa
open Go.RowKit
section
variable {P : Program} {ops : Array Oper}
end
end Go.Proofs.Ytdgminjbgjbamaa
namespace Go.Proofs.Ytdgminjbgjbamaa
open Go.RowKit
section
variable {P : Program} {w : World} {ops : Array Oper} {o : Oper} {a : Act} {K : Act → World → Prop} {Q : Exit → Act → World → Prop} {E : Prop}
end
end Go.Proofs.Ytdgminjbgjbamaa
namespace Go.Proofs.Ytdgminjbgjbamaa
open Go.RowKit Go.Maps
end Go.Proofs.Ytdgminjbgjbamaa
namespace Go.Proofs.Ytdgminjbgjbamaa
open Go.RowKit Go.Maps
def OptOf (c d : Cz) : Prop := (Cir.valid c = false → d = ⟨0, [], [], []⟩) ∧ (Cir.valid c = true → ∃ d', Cir.Ok d' ∧ Cir.SameStep (Cir.nat c) d' ∧ d = Cir.toCz d')
end Go.Proofs.Ytdgminjbgjbamaa
namespace Go.Proofs.Ytdgminjbgjbamaa
open Go.RowKit
def JV (T B : Nat) (e : TypeId) (v : Value) (n : Nat) (cs : List Value) (G : Value → Prop) : Option Value → World → Prop
  | none, w => w.ownsRow B e 1 v n cs
  | some v', w => (∃ u, G u ∧ w.ownsRow B e 1 v' (n + 1) (cs ++ [u])) ∧ ∀ g, v'.ownBlock = some g → v.ownBlock = some g ∨ T ≤ g
@[reducible] def rdRS (Pg : Program) (ops : Array Oper) (R P : Nat) (w : World) (a : Act) (B : Nat) (e : TypeId) (v : Value) (n : Nat) (cs : List Value) (G : Value → Prop) (d : Nat) : RS :=
  { P := Pg, ops := ops, E := fun g => g = R ∨ v.ownBlock = some g, F := (· = R), rd := some (R, P), w0 := w, J := JV w.heap.size B e v n cs G, d := d, a0 := a }
theorem rdRS_ok {Pg : Program} {ops : Array Oper} {R P : Nat} {w : World} {a : Act} {B : Nat} {e : TypeId} {v : Value} {n : Nat} {cs : List Value} {G : Value → Prop} {d : Nat} (h : R < w.heap.size) (hB : R < B) (hown : w.ownsRow B e 1 v n cs) : (rdRS Pg ops R P w a B e v n cs G d).Ok :=
  ⟨fun _ h => .inl h, fun ov w1 w2 hj ho => by
    have hg : w1.grownBy w2 (some R) := ho.grownBy
    cases ov with
    | none =>
      have hj' : w1.ownsRow B e 1 v n cs := hj
      exact own_kept hj' hg fun g hv e => by have h1 := (hj'.lt g hv).1; have h2 := Option.some.inj e; omega
    | some v' =>
      obtain ⟨⟨x, hx, hj'⟩, hp⟩ := hj
      exact ⟨⟨x, hx, own_kept hj' hg fun g hv e => by have h1 := (hj'.lt g hv).1; have h2 := Option.some.inj e; omega⟩, hp⟩,
    fun _ _ e => by cases e; exact ⟨rfl, h⟩, fun g hg => by
      rcases hg with rfl | hg
      · exact h
      · exact (hown.lt g hg).2⟩
section
variable {S : RS} {Fin : List Ty → Prop} {o : Oper} {l : List Oper} {i : Nat} {τs : List Ty}
theorem rs_appendV (hd : i = S.d) (B : Nat) (e t : TypeId) (v : Value) (n : Nat) (cs : List Value) (G : Value → Prop) (hJ : S.J = JV S.w0.heap.size B e v n cs G) (R P : Nat) (hrd : S.rd = some (R, P)) (hE : ∀ g, v.ownBlock = some g → S.E g) (hRB : R < B) (hB : B ≤ S.w0.heap.size)
    (x y : Nat) (ho : o.op = .call { callee := .builtin .append, args := #[.tmp x, .tmp y], argTypes := #[t, t] }) (jx jy : Nat) (hx : writer S.ops i x = some jx) (hy : writer S.ops i y = some jy) (hTx : tys τs jx = TEq v) (hTy : tys τs jy = TLit S.E 1 G)
    (inf : TypeInfo) (z : Value) (bytes : Nat) (ht : S.P.underlying t = some (.slice e)) (hi : S.P.info? e = some inf) (hz : inf.zero = some z) (hsize : inf.size = 1) (hby : inf.bytes = bytes) (hzs : z.cells.size = 1) (h63 : n ≤ 1000000) (hbb : bytes ≤ 1000) (hone : ∀ u, G u → u.oneCell' = true)
    (rest : RSeq S Fin l (i + 1) (TAny :: τs)) : RSeq S Fin (o :: l) i τs := by
  intro _
  refine ⟨TAny, stb_any _, fun k ov ρ w hk hI hov hK => ?_, rest⟩
  obtain rfl := hov (by rw [hd]; exact ancB_self _ _ _)
  rw [ho] at hK
  have h1 := hK.1
  have h2 := hK.2.1
  rw [hx] at h1
  rw [hy] at h2
  simp only [hTx] at h1
  simp only [hTy] at h2
  have h1' : ρ (.tmp x) = v := h1
  obtain ⟨g, hv, hg, hl, hc⟩ := h2
  obtain ⟨q, hq0, hG⟩ := hc 0 (by omega)
  have hown : w.ownsRow B e 1 v n cs := by have := hI.2.2; rw [hJ] at this; exact this
  have hr : Row w 1 (.slice (some ⟨g, 0, none⟩) 1 1) 1 [q] := ⟨rfl, _, 1, rfl, Nat.le_refl _, by unfold maxLen; omega, fun _ => ⟨g, 0, rfl, hl, fun j u hu => by
    match j, hu with
    | 0, hu => have := Option.some.inj hu; subst this; exact hq0
    | j + 1, hu => simp at hu⟩⟩
  obtain ⟨v', w', hrun, hown', hgr, hat⟩ := run_append_row_at (P := S.P) w B t o.type e inf z 1 bytes ht hi hz hsize hby hzs (by decide) v n cs hown _ 1 [q] hr (by intro u hu; rw [List.mem_singleton.1 hu]; exact hone q hG) (by unfold maxLen; omega) (Nat.le_trans (Nat.mul_le_mul (show n + 1 ≤ 1000001 by omega) hbb) (by decide)) (Nat.le_trans hB hI.2.1.size)
  have hre : (execOp ρ o).run S.P w = .ok (.value v') w' := by
    unfold execOp
    simp only [ho, resolve, invoke, builtin, Sem.run_bind, Sem.run_pure, Result.andThen_ok, List.map_toArray, List.map_cons, List.map_nil, h1', hv, hrun]
  unfold Good
  rw [hre]
  have hon : Only S.E w w' := Only.grown hgr hE
  refine ⟨trivial, ⟨?_, hI.2.1.trans hon, ?_⟩, hon⟩
  · have hr' := hI.1
    rw [hrd] at hr' ⊢
    have hr'' : Rd w R (P + 40 * k) := hr'
    exact (hr''.grown hgr fun q hq => by have := (hown.lt q hq).1; omega).more (by omega)
  · rw [if_pos hd, hJ]
    refine ⟨⟨q, hG, hown'⟩, fun g hg => ?_⟩
    rcases hat with h | h
    · exact .inl (h.symm.trans hg)
    · have := Option.some.inj (h.symm.trans hg)
      have h5 := hI.2.1.size
      exact .inr (by omega)
end
end Go.Proofs.Ytdgminjbgjbamaa
namespace Go.Proofs.Ytdgminjbgjbamaa
open Go.RowKit
namespace Cir
def litAt (d : Ci) (l x : Nat) : Bool := lit (vals d (bits (x / 2 ^ d.ins) d.next.length) (bits x d.ins)) l
def litTab (d : Ci) (l n : Nat) : List Bool := (List.range n).map (litAt d l)
def tabI (c : Cz) (l : Int) : Int := if valid c = true ∧ c.next = [] ∧ isLit l (vars c) = true then (tab (nat c) l.toNat (2 ^ (nat c).ins) : Nat) else -1
end Cir
theorem valid_sizes {c : Cz} (h : Cir.valid c = true) : 0 ≤ c.ins ∧ c.ins ≤ 4 ∧ c.next.length ≤ 3 ∧ c.gates.length ≤ 14 ∧ c.outs.length ≤ 3 := by
  unfold Cir.valid at h
  rw [Bool.and_eq_true, Bool.and_eq_true] at h
  have := h.1.1
  unfold Cir.sizes at this
  simpa using this
end Go.Proofs.Ytdgminjbgjbamaa
namespace Go.Proofs.Ytdgminjbgjbamaa
open Go.RowKit
def Cir.tern (x : Int) : Bool := decide (0 ≤ x ∧ x ≤ 2)
end Go.Proofs.Ytdgminjbgjbamaa
namespace Go.Proofs.Ytdgminjbgjbamaa
open Go.RowKit
end Go.Proofs.Ytdgminjbgjbamaa
namespace Go.Proofs.Ytdgminjbgjbamaa
open Go.RowKit
theorem lits_snoc {v : List Bool} {ls : List Nat} {k l : Nat} (h : ls[k]? = some l) : Cir.lits v (ls.take (k + 1)) = Cir.lits v (ls.take k) ++ [Cir.lit v l] := by
  unfold Cir.lits
  rw [take_snoc h, List.map_append]
  rfl
theorem lits_length (v : List Bool) (ls : List Nat) : (Cir.lits v ls).length = ls.length := List.length_map _
theorem litValues_any (v vl : Value) (xs : List Bool) (ls : List Nat) (w : World) (h : BoolsAt w v xs) (hl : NatsAt w vl ls) (hlt : ∀ l ∈ ls, l < 2 * xs.length) (hn : ls.length ≤ 1000) (hx : xs.length ≤ 1000) :
    Calls Try.prog 87 #[v, vl] w (OwnBools (Cir.lits xs ls) w) := by
  obtain ⟨A, c, rfl, hc, hcm⟩ := hl.shape
  have hmk := run_make_cap (P := Try.prog) 64 4 (.bool false) 1 1 Try.underlying64 info_bool .i64 .i64 ls.length (by omega) (by omega)
  simp only [Value.cells, Nat.mul_one] at hmk
  have Hl := Lib.hid hl
  have H := Lib.hid h
  have HLt := Lib.hid hlt
  clear hl h hlt
  go_enter Try.func87, Try.ntmps87
  go_wp2_with fail
  have hown0 := World.ownsRow_made (base := w.heap.size) (e := 4) (size := 1) w (madeCells #[Value.bool false] ls.length) ls.length (Nat.le_refl _) (by unfold maxLen; omega) (by simp [madeCells])
  have hb0 : Below w.heap.size w (w.alloc (.cells (madeCells #[Value.bool false] ls.length) 4)) := (Below.refl _ _).alloc (Nat.le_refl _) _
  clear hmk
  go_loopw [5, 13] (fun v i wr => ∃ (vv : Value) (k : Nat), vv = v ∧ k ≤ ls.length ∧ i = .int .i64 k ∧ Hid (wr.ownsRow w.heap.size 4 1 v k (bools (Cir.lits xs (ls.take k)))) ∧ Below w.heap.size w wr) (fun _ i _ => ls.length - (intOf i).toNat)
  case atStart => exact ⟨_, 0, rfl, Nat.zero_le _, rfl, Lib.hid hown0, hb0⟩
  case round =>
    obtain ⟨vv, k, hvv, hk, rfl, Ho, hb⟩ := hrel
    subst hvv
    clear hown0 hb0
    by_cases hlt : k < ls.length
    · have hz := hb.size
      have Hb := Lib.hid hb
      obtain ⟨b, o, l, rfl, hbl, hx0, hs0⟩ := nats_cell (nats_row (Hl.out.below hb)) rfl hlt
      have hl2 := HLt.out l (List.mem_of_getElem? hx0.out)
      have HS : Hid (bools (Cir.lits xs (ls.take (k + 1))) = bools (Cir.lits xs (ls.take k)) ++ [.bool (Cir.lit xs l)]) := Lib.hid (by rw [lits_snoc hx0.out, bools_append]; rfl)
      have Hx := Lib.hid (Row.below H.out hb)
      clear hb
      go_wp2_with fail
      refine (litValue_any _ xs l _ Hx.out hl2 (by omega)).mono ?_
      rintro e w' ⟨rfl, rfl⟩
      generalize Cir.lit xs l = u at *
      have Hlit := Lib.hid (Row.of_own (World.ownsRow_lit (base := wr.heap.size) (e := 4) (size := 1) wr #[.bool u] 1 (Nat.le_refl _) (by unfold maxLen; omega) rfl))
      go_wp2_with (at_builtin; refine append_bools rfl (.tmp 17) (.tmp 21) rfl w.heap.size _ k _ rfl (Ho.out.alloc _) _ 1 [.bool u] rfl Hlit.out (by simp [Value.oneCell']) (by omega) (by simp; omega) ?_; intro v7 w7 hown7 hg7 hat7; have Ho7 := Lib.hid hown7; have Hg7 := Lib.hid hg7; clear hown7 hg7 hat7)
      go_roundw
      case rel => exact ⟨_, k + 1, rfl, by omega, by go_num, Lib.hid (by rw [HS.out]; exact Ho7.out), (Hb.out.alloc hz _).grown Hg7.out (Hb.out.alloc hz _).size (own_ge0 Ho.out)⟩
      case measure => simp [intOf] <;> omega
    · obtain rfl : k = ls.length := by omega
      go_wp2_with fail
      go_ret
      exact ⟨_, rfl, by rw [lits_length]; have := Ho.out; rwa [List.take_length] at this, hb⟩
theorem num_append : ∀ (a b : List Bool), Cir.num (a ++ b) = Cir.num a + 2 ^ a.length * Cir.num b
  | [], b => by simp [Cir.num]
  | x :: a, b => by
    rw [List.cons_append, Cir.num, Cir.num, num_append a b, List.length_cons, Nat.pow_succ]
    rw [Nat.mul_add, ← Nat.mul_assoc, Nat.mul_comm 2 (2 ^ a.length)]
    omega
theorem num_snoc (a : List Bool) (b : Bool) : Cir.num (a ++ [b]) = Cir.num a + (if b then 2 ^ a.length else 0) := by
  rw [num_append]
  cases b <;> simp [Cir.num]
theorem num_or {a : List Bool} : Cir.num a ||| 2 ^ a.length = Cir.num a + 2 ^ a.length := by
  have h := Cir.num_lt a
  rw [Nat.or_comm]
  have := Nat.two_pow_add_eq_or_of_lt h 1
  rw [Nat.mul_one] at this
  omega
theorem number_any (v : Value) (xs : List Bool) (w : World) (h : BoolsAt w v xs) (hx : xs.length ≤ 16) :
    Calls Try.prog 86 #[v] w fun e w' => e = .returned (.int .i64 (Cir.num xs : Nat)) ∧ w = w' := by
  obtain ⟨A, c, hv, hc, hcm⟩ := Row.shape h
  subst hv
  have H := Lib.hid h
  clear h
  go_enter Try.func86, Try.ntmps86
  go_wp2_with fail
  go_loop [3, 8] (fun x i => ∃ (k : Nat), k ≤ xs.length ∧ i = .int .i64 k ∧ x = .int .i64 (Cir.num (xs.take k) : Nat)) (fun _ i => xs.length - (intOf i).toNat)
  case atStart => exact ⟨0, Nat.zero_le _, rfl, rfl⟩
  case round =>
    obtain ⟨k, hk, rfl, rfl⟩ := hrel
    by_cases hlt : k < xs.length
    · obtain ⟨b, o, u, rfl, hbl, hx0, hs0⟩ := bools_open H.out (Below.refl _ _) rfl hlt
      have htl : (xs.take k).length = k := by rw [List.length_take]; omega
      have HS : Hid (Cir.num (xs.take (k + 1)) = Cir.num (xs.take k) + (if u then 2 ^ k else 0)) := Lib.hid (by rw [take_snoc hx0.out, num_snoc, htl])
      have hlt2 : Cir.num (xs.take k) < 65536 := by
        have h1 := Cir.num_lt (xs.take k)
        rw [htl] at h1
        have h2 : 2 ^ k ≤ 2 ^ 16 := Nat.pow_le_pow_right (show 0 < 2 by decide) (by omega)
        omega
      have hor : Cir.num (xs.take k) ||| 2 ^ k = Cir.num (xs.take k) + 2 ^ k := by have := num_or (a := xs.take k); rwa [htl] at this
      have h2 : 2 ^ k ≤ 65536 := by
        have h2 : 2 ^ k ≤ 2 ^ 16 := Nat.pow_le_pow_right (show 0 < 2 by decide) (by omega)
        omega
      have hbor := i64_or_nat (Cir.num (xs.take k)) (2 ^ k) (by omega) (by omega)
      rw [hor] at hbor
      clear hor htl
      obtain ⟨N2, hN2⟩ : ∃ N2, Cir.num (xs.take (k + 1)) = N2 := ⟨_, rfl⟩
      rw [hN2] at HS
      have HN2 := Lib.hid hN2
      clear hN2
      generalize Cir.num (xs.take k) = N at *
      have e2 : (2 : Int) ^ k = ((2 ^ k : Nat) : Int) := two_pow k
      generalize 2 ^ k = M at *
      have hwM := IntWalk.i64_in (M : Int) (by omega)
      cases u
      · go_wp2_with fail
        go_round
        case rel => exact ⟨k + 1, by omega, by go_num, by rw [HN2.out, HS.out]; rfl⟩
        case measure => simp [intOf] <;> omega
      · go_wp2_with fail
        go_round
        case rel => exact ⟨k + 1, by omega, by go_num, by rw [HN2.out, HS.out]; rfl⟩
        case measure => simp [intOf] <;> omega
    · obtain rfl : k = xs.length := by omega
      go_wp2_with fail
      go_ret
      exact ⟨rfl, rfl⟩
end Go.Proofs.Ytdgminjbgjbamaa
namespace Go.Proofs.Ytdgminjbgjbamaa
open Go.RowKit
theorem cycle_any (g : Nat) (d : Ci) (s x : Nat) (w : World) (h : PCirc w g (Cir.toCz d)) (hd : Cir.Ok d) (hs : s ≤ 1000) (hx : x ≤ 1000) :
    Calls Try.prog 37 #[.pointer (some ⟨g, 0, none⟩), .int .i64 s, .int .i64 x] w fun e w' => e = .returned (.tuple #[.int .i64 (Cir.nextOf d s x : Nat), .int .i64 (Cir.num (Cir.outsOf d s x) : Nat)]) ∧ Below w.heap.size w w' := by
  have l1 := hd.ins
  have l2 := hd.nexts
  have l3 := hd.outss
  have HN := Lib.hid hd.next
  have HO := Lib.hid hd.out
  have HP := Lib.hid h
  obtain ⟨vn, vg, vo, hg, c0, c1, c2, c3, r1, r2, r3⟩ := h
  obtain ⟨An, cn, rfl, hcn, hcmn⟩ := NatsAt.shape (xs := d.next) r1
  obtain ⟨Ao, co, rfl, hco, hcmo⟩ := NatsAt.shape (xs := d.outs) r3
  have R1 : Hid (NatsAt w (.slice An d.next.length cn) d.next) := Lib.hid r1
  have R3 : Hid (NatsAt w (.slice Ao d.outs.length co) d.outs) := Lib.hid r3
  have C0 : Hid (w.cell? ⟨g, 0, none⟩ = some (.int .i64 d.ins)) := Lib.hid c0
  have C1 := Lib.hid c1
  have C3 := Lib.hid c3
  have HL : Hid ((Cir.vals d (Cir.bits s d.next.length) (Cir.bits x d.ins)).length = Cir.nvars d) := Lib.hid (Cir.vals_length d (Cir.bits_length _ _) (Cir.bits_length _ _))
  have hnv : Cir.nvars d ≤ 22 := by have := hd.gatess; unfold Cir.nvars Cir.nfirst; omega
  have Hd := Lib.hid hd
  clear r1 r2 r3 c0 c1 c2 c3 hd
  go_enter Try.func37, Try.ntmps37
  go_wp2_with fail
  refine wp_region_rs (quietRS Try.prog _ w _) quietRS_ok (by kernel_rfl) (by kernel_rfl) (by kernel_rfl) (Nat.le_of_ble_eq_true rfl) trivial trivial ?_
  refine rs_old quietRS_ok quiet_any _ (.inl rfl) _ rfl rfl ?_
  refine rs_old quietRS_ok quiet_any _ (.inl rfl) _ rfl rfl ?_
  refine rs_old quietRS_ok quiet_any _ (.inl rfl) _ rfl rfl ?_
  apply rs_eq quietRS_ok quiet_any
  · intro ρ w' ho hK
    have ho : Only _ w w' := ho
    obtain ⟨h0, -⟩ := hK
    have h0' : ρ (.tmp 11) = _ := h0
    go_simp
    try exact rfl
  apply rs_eq quietRS_ok quiet_any
  · intro ρ w' ho hK
    have ho : Only _ w w' := ho
    obtain ⟨h0, -⟩ := hK
    have h0' : ρ (.tmp 12) = _ := h0
    go_simp
    try exact rfl
  apply rs_eq quietRS_ok quiet_any
  · intro ρ w' ho hK
    have ho : Only _ w w' := ho
    obtain ⟨h0, -⟩ := hK
    have h0' : ρ (.tmp 13) = _ := h0
    have hb := only_below ho
    have q0 := (hb.cell (p := ⟨g, 0, none⟩) hg).trans C0.out
    have q1 := (hb.cell (p := ⟨g, 1, none⟩) hg).trans C1.out
    go_simp
    try exact rfl
  apply rs_eq quietRS_ok quiet_any
  · intro ρ w' ho hK
    have ho : Only _ w w' := ho
    obtain ⟨h0, -⟩ := hK
    have h0' : ρ (.tmp 14) = _ := h0
    go_simp
    try exact rfl
  refine rs_call quietRS_ok quiet_any (TBools (Cir.bits s d.next.length)) (stb_bools _) 83 _ _ rfl (fun ρ w' ho hK => by
    have ho : Only _ w w' := ho
    obtain ⟨h0, h1, h2, -⟩ := hK
    have h0' : ρ (.func 83) = .func (.func 83) #[] #[] := h0
    have h1' : ρ (.tmp 10) = _ := h1
    have h2' : ρ (.tmp 15) = _ := h2
    refine ⟨#[ρ (.tmp 10), ρ (.tmp 15)], ?_, ?_⟩
    · go_simp
    · rw [h1', h2']
      refine (bitsOf_any s d.next.length w' (by omega) (by omega)).mono ?_
      rintro e w2 ⟨v2, rfl, hO, hb⟩
      exact ⟨v2, rfl, Row.of_own hO, hb⟩) ?_
  refine rs_old quietRS_ok quiet_any _ (.inl rfl) _ rfl rfl ?_
  refine rs_old quietRS_ok quiet_any _ (.inl rfl) _ rfl rfl ?_
  apply rs_eq quietRS_ok quiet_any
  · intro ρ w' ho hK
    have ho : Only _ w w' := ho
    obtain ⟨h0, -⟩ := hK
    have h0' : ρ (.tmp 18) = _ := h0
    go_simp
    try exact rfl
  apply rs_eq quietRS_ok quiet_any
  · intro ρ w' ho hK
    have ho : Only _ w w' := ho
    obtain ⟨h0, -⟩ := hK
    have h0' : ρ (.tmp 19) = _ := h0
    go_simp
    try exact rfl
  apply rs_eq quietRS_ok quiet_any
  · intro ρ w' ho hK
    have ho : Only _ w w' := ho
    obtain ⟨h0, -⟩ := hK
    have h0' : ρ (.tmp 20) = _ := h0
    have hb := only_below ho
    have q0 := (hb.cell (p := ⟨g, 0, none⟩) hg).trans C0.out
    have q1 := (hb.cell (p := ⟨g, 1, none⟩) hg).trans C1.out
    go_simp
    try exact rfl
  refine rs_call quietRS_ok quiet_any (TBools (Cir.bits x d.ins)) (stb_bools _) 83 _ _ rfl (fun ρ w' ho hK => by
    have ho : Only _ w w' := ho
    obtain ⟨h0, h1, h2, -⟩ := hK
    have h0' : ρ (.func 83) = .func (.func 83) #[] #[] := h0
    have h1' : ρ (.tmp 17) = _ := h1
    have h2' : ρ (.tmp 21) = _ := h2
    refine ⟨#[ρ (.tmp 17), ρ (.tmp 21)], ?_, ?_⟩
    · go_simp
    · rw [h1', h2']
      refine (bitsOf_any x d.ins w' (by omega) (by omega)).mono ?_
      rintro e w2 ⟨v2, rfl, hO, hb⟩
      exact ⟨v2, rfl, Row.of_own hO, hb⟩) ?_
  refine rs_call quietRS_ok quiet_any (TBools (Cir.vals d (Cir.bits s d.next.length) (Cir.bits x d.ins))) (stb_bools _) 85 _ _ rfl (fun ρ w' ho hK => by
    have ho : Only _ w w' := ho
    obtain ⟨h0, h1, h2, h3, h4, h5, -⟩ := hK
    have h0' : ρ (.func 85) = .func (.func 85) #[] #[] := h0
    have h1' : ρ (.tmp 9) = _ := h1
    have h2' : (TBools (Cir.bits s d.next.length)) w' (ρ (.tmp 16)) := h2
    have h3' : (TBools (Cir.bits x d.ins)) w' (ρ (.tmp 22)) := h3
    have h4' : ρ (.const (Value.int IntKind.i64 (-1))) = (Value.int IntKind.i64 (-1)) := h4
    have h5' : ρ (.const (Value.bool false)) = (Value.bool false) := h5
    refine ⟨#[ρ (.tmp 9), ρ (.tmp 16), ρ (.tmp 22), ρ (.const (Value.int IntKind.i64 (-1))), ρ (.const (Value.bool false))], ?_, ?_⟩
    · go_simp
    · rw [h1', h4', h5']
      refine (evaluate_any g d _ _ _ _ w' (HP.out.below (only_below ho)) Hd.out h2' h3' (Cir.bits_length _ _) (Cir.bits_length _ _)).mono ?_
      rintro e w2 ⟨v2, rfl, hO, hb⟩
      exact ⟨v2, rfl, Row.of_own hO, hb⟩) ?_
  refine rs_same quietRS_ok quiet_any 23 14 (.inr rfl) rfl _ rfl ?_
  intro f w9 k9 hk9 hI9 ht9 hcp9
  have E0 : f 0 = _ := ht9 0 (Nat.le_of_ble_eq_true rfl)
  conv at E0 => rhs; whnf
  have E1 : f 1 = _ := ht9 1 (Nat.le_of_ble_eq_true rfl)
  conv at E1 => rhs; whnf
  have E2 : f 2 = _ := ht9 2 (Nat.le_of_ble_eq_true rfl)
  conv at E2 => rhs; whnf
  have E3 : f 3 = _ := ht9 3 (Nat.le_of_ble_eq_true rfl)
  have E4 : f 4 = _ := ht9 4 (Nat.le_of_ble_eq_true rfl)
  have E5 : f 5 = _ := ht9 5 (Nat.le_of_ble_eq_true rfl)
  have E6 : f 6 = _ := ht9 6 (Nat.le_of_ble_eq_true rfl)
  have E7 : (TBools (Cir.bits s d.next.length)) w9 (f 7) := ht9 7 (Nat.le_of_ble_eq_true rfl)
  have E8 : f 8 = _ := ht9 8 (Nat.le_of_ble_eq_true rfl)
  conv at E8 => rhs; whnf
  have E9 : f 9 = _ := ht9 9 (Nat.le_of_ble_eq_true rfl)
  conv at E9 => rhs; whnf
  have E10 : f 10 = _ := ht9 10 (Nat.le_of_ble_eq_true rfl)
  have E11 : f 11 = _ := ht9 11 (Nat.le_of_ble_eq_true rfl)
  have E12 : f 12 = _ := ht9 12 (Nat.le_of_ble_eq_true rfl)
  have E13 : (TBools (Cir.bits x d.ins)) w9 (f 13) := ht9 13 (Nat.le_of_ble_eq_true rfl)
  have E14 : (TBools (Cir.vals d (Cir.bits s d.next.length) (Cir.bits x d.ins))) w9 (f 14) := ht9 14 (Nat.le_of_ble_eq_true rfl)
  have E15 : (TBools (Cir.vals d (Cir.bits s d.next.length) (Cir.bits x d.ins))) w9 (f 15) := ht9 15 (Nat.le_of_ble_eq_true rfl)
  have Ho9 : Only _ w w9 := hI9.2.1
  have C15 : f 15 = f 14 := (hcp9 15 _ 23 14 rfl rfl rfl rfl).2
  simp only [putAll, E0, E1, E2, E3, E4, E5, E6, E8, E9, E10, E11, E12, C15, Nat.zero_add, Nat.reduceAdd, Act.put, List.setIfInBounds_toArray, List.set_cons_succ, List.set_cons_zero]
  clear E0 E1 E2 E3 E4 E5 E6 E8 E9 E10 E11 E12
  clear hI9 ht9 hcp9 hk9
  generalize f 7 = r7 at *
  generalize f 13 = r13 at *
  generalize f 14 = r14 at *
  have hb9 := only_below Ho9
  have HV9 := Lib.hid E14
  have C1 := Lib.hid ((hb9.cell (p := ⟨g, 1, none⟩) hg).trans C1.out)
  have C3 := Lib.hid ((hb9.cell (p := ⟨g, 3, none⟩) hg).trans C3.out)
  have R1 := Lib.hid (R1.out.below hb9)
  have R3 := Lib.hid (R3.out.below hb9)
  have B9 := Lib.hid hb9
  have hg9 : g < w9.heap.size := Nat.lt_of_lt_of_le hg hb9.size
  clear hb9 E7 E13 E14 Ho9 HP Hd C0
  go_wp2_with fail
  obtain ⟨w1, hw1⟩ : ∃ w1, w1 = w9 := ⟨_, rfl⟩
  subst hw1
  obtain ⟨u, hu⟩ : ∃ u, u = r14 := ⟨_, rfl⟩
  subst hu
  have HN2 : Hid (Cir.nextOf d s x = Cir.num (Cir.lits (Cir.vals d (Cir.bits s d.next.length) (Cir.bits x d.ins)) d.next)) := Lib.hid rfl
  have HO2 : Hid (Cir.num (Cir.outsOf d s x) = Cir.num (Cir.lits (Cir.vals d (Cir.bits s d.next.length) (Cir.bits x d.ins)) d.outs)) := Lib.hid rfl
  generalize Cir.vals d (Cir.bits s d.next.length) (Cir.bits x d.ins) = V at *
  refine wp_region_rs (quietRS Try.prog _ w1 _) quietRS_ok (by kernel_rfl) (by kernel_rfl) (by kernel_rfl) (Nat.le_of_ble_eq_true rfl) trivial trivial ?_
  refine rs_old quietRS_ok quiet_any _ (.inl rfl) _ rfl rfl ?_
  refine rs_old quietRS_ok quiet_any _ (.inl rfl) _ rfl rfl ?_
  apply rs_eq quietRS_ok quiet_any
  · intro ρ w' ho hK
    have ho : Only _ w1 w' := ho
    obtain ⟨h0, -⟩ := hK
    have h0' : ρ (.tmp 25) = _ := h0
    go_simp
    try exact rfl
  apply rs_eq quietRS_ok quiet_any
  · intro ρ w' ho hK
    have ho : Only _ w1 w' := ho
    obtain ⟨h0, -⟩ := hK
    have h0' : ρ (.tmp 26) = _ := h0
    go_simp
    try exact rfl
  apply rs_eq quietRS_ok quiet_any
  · intro ρ w' ho hK
    have ho : Only _ w1 w' := ho
    obtain ⟨h0, -⟩ := hK
    have h0' : ρ (.tmp 27) = _ := h0
    have hb := only_below ho
    have q0 := (hb.cell (p := ⟨g, 1, none⟩) hg9).trans C1.out
    have q1 := (hb.cell (p := ⟨g, 3, none⟩) hg9).trans C3.out
    go_simp
    try exact rfl
  refine rs_call quietRS_ok quiet_any (TBools (Cir.lits V d.next)) (stb_bools _) 87 _ _ rfl (fun ρ w' ho hK => by
    have ho : Only _ w1 w' := ho
    obtain ⟨h0, h1, h2, -⟩ := hK
    have h0' : ρ (.func 87) = .func (.func 87) #[] #[] := h0
    have h1' : ρ (.tmp 24) = _ := h1
    have h2' : ρ (.tmp 28) = _ := h2
    refine ⟨#[ρ (.tmp 24), ρ (.tmp 28)], ?_, ?_⟩
    · go_simp
    · rw [h1', h2']
      refine (litValues_any _ _ V d.next w' (Row.below HV9.out (only_below ho)) (R1.out.below (only_below ho)) (by rw [HL.out]; exact HN.out) (by omega) (by rw [HL.out]; omega)).mono ?_
      rintro e w2 ⟨v2, rfl, hO, hb⟩
      exact ⟨v2, rfl, Row.of_own hO, hb⟩) ?_
  refine rs_call quietRS_ok quiet_any (TEq (.int .i64 (Cir.num (Cir.lits V d.next) : Nat))) (stb_eq _ _) 86 _ _ rfl (fun ρ w' ho hK => by
    have ho : Only _ w1 w' := ho
    obtain ⟨h0, h1, -⟩ := hK
    have h0' : ρ (.func 86) = .func (.func 86) #[] #[] := h0
    have h1' : (TBools (Cir.lits V d.next)) w' (ρ (.tmp 29)) := h1
    refine ⟨#[ρ (.tmp 29)], ?_, ?_⟩
    · go_simp
    · skip
      refine (number_any _ _ w' h1' (by rw [lits_length]; omega)).mono ?_
      rintro e w2 ⟨rfl, rfl⟩
      exact ⟨_, rfl, rfl, Below.refl _ _⟩) ?_
  refine rs_old quietRS_ok quiet_any _ (.inl rfl) _ rfl rfl ?_
  refine rs_old quietRS_ok quiet_any _ (.inl rfl) _ rfl rfl ?_
  apply rs_eq quietRS_ok quiet_any
  · intro ρ w' ho hK
    have ho : Only _ w1 w' := ho
    obtain ⟨h0, -⟩ := hK
    have h0' : ρ (.tmp 32) = _ := h0
    go_simp
    try exact rfl
  apply rs_eq quietRS_ok quiet_any
  · intro ρ w' ho hK
    have ho : Only _ w1 w' := ho
    obtain ⟨h0, -⟩ := hK
    have h0' : ρ (.tmp 33) = _ := h0
    go_simp
    try exact rfl
  apply rs_eq quietRS_ok quiet_any
  · intro ρ w' ho hK
    have ho : Only _ w1 w' := ho
    obtain ⟨h0, -⟩ := hK
    have h0' : ρ (.tmp 34) = _ := h0
    have hb := only_below ho
    have q0 := (hb.cell (p := ⟨g, 1, none⟩) hg9).trans C1.out
    have q1 := (hb.cell (p := ⟨g, 3, none⟩) hg9).trans C3.out
    go_simp
    try exact rfl
  refine rs_call quietRS_ok quiet_any (TBools (Cir.lits V d.outs)) (stb_bools _) 87 _ _ rfl (fun ρ w' ho hK => by
    have ho : Only _ w1 w' := ho
    obtain ⟨h0, h1, h2, -⟩ := hK
    have h0' : ρ (.func 87) = .func (.func 87) #[] #[] := h0
    have h1' : ρ (.tmp 31) = _ := h1
    have h2' : ρ (.tmp 35) = _ := h2
    refine ⟨#[ρ (.tmp 31), ρ (.tmp 35)], ?_, ?_⟩
    · go_simp
    · rw [h1', h2']
      refine (litValues_any _ _ V d.outs w' (Row.below HV9.out (only_below ho)) (R3.out.below (only_below ho)) (by rw [HL.out]; exact HO.out) (by omega) (by rw [HL.out]; omega)).mono ?_
      rintro e w2 ⟨v2, rfl, hO, hb⟩
      exact ⟨v2, rfl, Row.of_own hO, hb⟩) ?_
  refine rs_call quietRS_ok quiet_any (TEq (.int .i64 (Cir.num (Cir.lits V d.outs) : Nat))) (stb_eq _ _) 86 _ _ rfl (fun ρ w' ho hK => by
    have ho : Only _ w1 w' := ho
    obtain ⟨h0, h1, -⟩ := hK
    have h0' : ρ (.func 86) = .func (.func 86) #[] #[] := h0
    have h1' : (TBools (Cir.lits V d.outs)) w' (ρ (.tmp 36)) := h1
    refine ⟨#[ρ (.tmp 36)], ?_, ?_⟩
    · go_simp
    · skip
      refine (number_any _ _ w' h1' (by rw [lits_length]; omega)).mono ?_
      rintro e w2 ⟨rfl, rfl⟩
      exact ⟨_, rfl, rfl, Below.refl _ _⟩) ?_
  refine rs_same quietRS_ok quiet_any 30 6 (.inr rfl) rfl _ rfl ?_
  refine rs_same quietRS_ok quiet_any 37 13 (.inr rfl) rfl _ rfl ?_
  intro f w9 k9 hk9 hI9 ht9 hcp9
  have E0 : f 0 = _ := ht9 0 (Nat.le_of_ble_eq_true rfl)
  conv at E0 => rhs; whnf
  have E1 : f 1 = _ := ht9 1 (Nat.le_of_ble_eq_true rfl)
  conv at E1 => rhs; whnf
  have E2 : f 2 = _ := ht9 2 (Nat.le_of_ble_eq_true rfl)
  have E3 : f 3 = _ := ht9 3 (Nat.le_of_ble_eq_true rfl)
  have E4 : f 4 = _ := ht9 4 (Nat.le_of_ble_eq_true rfl)
  have E5 : (TBools (Cir.lits V d.next)) w9 (f 5) := ht9 5 (Nat.le_of_ble_eq_true rfl)
  have E6 : f 6 = _ := ht9 6 (Nat.le_of_ble_eq_true rfl)
  have E7 : f 7 = _ := ht9 7 (Nat.le_of_ble_eq_true rfl)
  conv at E7 => rhs; whnf
  have E8 : f 8 = _ := ht9 8 (Nat.le_of_ble_eq_true rfl)
  conv at E8 => rhs; whnf
  have E9 : f 9 = _ := ht9 9 (Nat.le_of_ble_eq_true rfl)
  have E10 : f 10 = _ := ht9 10 (Nat.le_of_ble_eq_true rfl)
  have E11 : f 11 = _ := ht9 11 (Nat.le_of_ble_eq_true rfl)
  have E12 : (TBools (Cir.lits V d.outs)) w9 (f 12) := ht9 12 (Nat.le_of_ble_eq_true rfl)
  have E13 : f 13 = _ := ht9 13 (Nat.le_of_ble_eq_true rfl)
  have E14 : f 14 = _ := ht9 14 (Nat.le_of_ble_eq_true rfl)
  have E15 : f 15 = _ := ht9 15 (Nat.le_of_ble_eq_true rfl)
  have Ho9 : Only _ w1 w9 := hI9.2.1
  simp only [putAll, E0, E1, E2, E3, E4, E6, E7, E8, E9, E10, E11, E13, E14, E15, Nat.zero_add, Nat.reduceAdd, Act.put, List.setIfInBounds_toArray, List.set_cons_succ, List.set_cons_zero]
  clear E0 E1 E2 E3 E4 E6 E7 E8 E9 E10 E11 E13 E14 E15
  clear hI9 ht9 hcp9 hk9
  generalize f 5 = r5 at *
  generalize f 12 = r12 at *
  have B := Lib.hid (B9.out.trans ((only_below Ho9).mono B9.out.size))
  clear Ho9 E5 E12 HV9 B9
  go_wp2_with fail
  exact bodyPost_ret (v := .tuple #[.int .i64 (Cir.num (Cir.lits V d.next) : Nat), .int .i64 (Cir.num (Cir.lits V d.outs) : Nat)]) (by simp [results, Try.results37, go_sem]) rfl ⟨by rw [HN2.out, HO2.out], B.out⟩
end Go.Proofs.Ytdgminjbgjbamaa
namespace Go.Proofs.Ytdgminjbgjbamaa
open Go.RowKit
def OwnStep (so st : List Bool) (w : World) (e : Ending) (w' : World) : Prop := ∃ a b, e = .returned (.agg #[a, b]) ∧ w'.ownsRow w.heap.size 4 1 a so.length (bools so) ∧ w'.ownsRow w.heap.size 4 1 b st.length (bools st) ∧ Below w.heap.size w w'
def R1Step (g0 : Nat) (so st : List Bool) (w : World) : Prop := ∃ a b, g0 + 1 < w.heap.size ∧ w.cell? ⟨g0 + 1, 0, none⟩ = some a ∧ w.cell? ⟨g0 + 1, 1, none⟩ = some b ∧ w.ownsRow (g0 + 2) 4 1 a so.length (bools so) ∧ w.ownsRow (g0 + 2) 4 1 b st.length (bools st)
end Go.Proofs.Ytdgminjbgjbamaa
namespace Go.Proofs.Ytdgminjbgjbamaa
open Go.RowKit Go.Op Go.Instr
theorem own_set' {w : World} {base n size : Nat} {e : TypeId} {v : Value} {xs : List Value} {g i : Nat} {u : Value} (h : w.ownsRow base e size v n xs) (hg : g < base) : (w.setCell ⟨g, i, none⟩ u).ownsRow base e size v n xs :=
  own_kept h (set_grown w g i u) fun k hk e => by have := (h.lt k hk).1; have := Option.some.inj e; omega
end Go.Proofs.Ytdgminjbgjbamaa
namespace Go.Proofs.Ytdgminjbgjbamaa
open Go.RowKit
theorem Only.aft {E F : Nat → Prop} {a b c : World} (h : Only E a b) (h' : Only F b c) (hF : ∀ g, F g → a.heap.size ≤ g ∨ E g) : Only E a c :=
  ⟨h'.os.trans h.os, h'.tape.trans h.tape, h'.output.trans h.output, Nat.le_trans h.size h'.size, fun k hk hn => (h'.block k (Nat.lt_of_lt_of_le hk h.size) (fun hf => by
    rcases hF k hf with h1 | h1
    · omega
    · exact hn h1)).trans (h.block k hk hn)⟩
theorem odd_every (n : Int) (R P : Nat) (w : World) (h : Rd w R P) (hP : P ≤ 1000000) (h1 : 0 ≤ n) (h2 : n ≤ 1000000) :
    Calls Try.prog 80 #[.pointer (some ⟨R, 0, none⟩), .int .i64 n] w (Odd R P w) := by
  by_cases hn : n = 0
  · subst hn
    refine (odd_zero R P w h).mono ?_
    rintro e w' ⟨rfl, rfl⟩
    exact ⟨false, rfl, h.more (by omega), World.grownBy.refl w _⟩
  · exact odd_any n R P w h hP (by omega) h2
theorem ix_drawn : IxOk Try.prog 23 := by
  intro w g n j h1 h2
  have : (j : Int) < (n : Int) := by omega
  simp [Instr.indexAt, go_sem, Try.underlying23, Result.andThen, h1]
theorem fn_draw : FnOk Try.prog 33 := by
  intro args w
  kernel_rfl
theorem ag_drawn : ∀ w, (isAgg 3).run Try.prog w = .ok false w := by
  intro w
  kernel_rfl
theorem pick_upto (n : Int) (hi : Nat) (R P : Nat) (w : World) (h : Rd w R P) (hP : P ≤ 1000000) (h1 : 1 ≤ n) (h2 : n ≤ hi + 1) (h3 : hi ≤ 999999) :
    Calls Try.prog 33 #[.pointer (some ⟨R, 0, none⟩), .int .i64 n] w fun e w' => ∃ x : Int, 0 ≤ x ∧ x ≤ hi ∧ e = .returned (.int .i64 x) ∧ Rd w' R (P + 1) ∧ w.grownBy w' (some R) :=
  (pick_any n R P w h hP h1 (by omega)).mono fun _ _ ⟨x, h4, h5, h6⟩ => ⟨x, h4, by omega, h6⟩
structure CB (gm : Nat) (c : Cz) (vN vG vO : Value) (w : World) : Prop where
  box : w.heap[gm]? = some (.cells #[.int .i64 c.ins, vN, vG, vO] 26 (0, 0))
  n : w.ownsRow (gm + 1) 3 1 vN c.next.length (ints c.next)
  g : w.ownsRow (gm + 1) 72 2 vG c.gates.length (cubes c.gates)
  o : w.ownsRow (gm + 1) 3 1 vO c.outs.length (ints c.outs)
  ng : Apart vN vG
  no : Apart vN vO
  go : Apart vG vO
theorem ints_app4 (xs : List Int) (a b c d : Int) : ints (xs ++ [a, b, c, d]) = ints xs ++ [.int .i64 a, .int .i64 b, .int .i64 c, .int .i64 d] := by simp [ints]
theorem blk_lt {w : World} {g : Nat} {o : Obj} (h : w.heap[g]? = some o) : g < w.heap.size := by
  rcases Nat.lt_or_ge g w.heap.size with hl | hl
  · exact hl
  · rw [Array.getElem?_eq_none hl] at h
    cases h
theorem CB.start {ins : Int} {w : World} (_ : True) : CB w.heap.size ⟨ins, [], [], []⟩ (.slice none 0 0) (.slice none 0 0) (.slice none 0 0) (w.alloc (.cells #[.int .i64 ins, .slice none 0 0, .slice none 0 0, .slice none 0 0] 26)) :=
  ⟨heap_alloc_new _ _, World.ownsRow_nil _ _ _ _, World.ownsRow_nil _ _ _ _, World.ownsRow_nil _ _ _ _, fun _ h => by simp [Value.ownBlock] at h, fun _ h => by simp [Value.ownBlock] at h, fun _ h => by simp [Value.ownBlock] at h⟩
section
variable {gm : Nat} {c : Cz} {vN vG vO : Value} {w w' : World}
theorem CB.only {E : Nat → Prop} (h : CB gm c vN vG vO w) (ho : Only E w w') (hE : ∀ g, gm ≤ g → ¬ E g) : CB gm c vN vG vO w' :=
  ⟨(ho.block gm (blk_lt h.box) (hE gm (Nat.le_refl _))).trans h.box, own_only h.n ho (fun g hg => hE g (by have := (h.n.lt g hg).1; omega)), own_only h.g ho (fun g hg => hE g (by have := (h.g.lt g hg).1; omega)), own_only h.o ho (fun g hg => hE g (by have := (h.o.lt g hg).1; omega)), h.ng, h.no, h.go⟩
theorem CB.drawn {R : Nat} (h : CB gm c vN vG vO w) (hg : w.grownBy w' (some R)) (hR : R < gm) : CB gm c vN vG vO w' :=
  h.only (E := (· = R)) (Only.grown hg fun k hk => (Option.some.inj hk).symm) fun g hg e => by subst e; omega
theorem CB.below (h : CB gm c vN vG vO w) (hb : Below w.heap.size w w') : CB gm c vN vG vO w' :=
  h.only (E := fun _ => False) (Only.of_below _ hb) fun _ _ e => e
theorem CB.cells (h : CB gm c vN vG vO w) : gm < w.heap.size ∧ w.cell? ⟨gm, 0, none⟩ = some (.int .i64 c.ins) ∧ w.cell? ⟨gm, 1, none⟩ = some vN ∧ w.cell? ⟨gm, 2, none⟩ = some vG ∧ w.cell? ⟨gm, 3, none⟩ = some vO :=
  ⟨blk_lt h.box, blk_cell h.box 0, blk_cell h.box 1, blk_cell h.box 2, blk_cell h.box 3⟩
theorem CB.free (h : CB gm c vN vG vO w) : w.frozen? ⟨gm, 0, none⟩ = false ∧ w.frozen? ⟨gm, 1, none⟩ = false ∧ w.frozen? ⟨gm, 2, none⟩ = false ∧ w.frozen? ⟨gm, 3, none⟩ = false :=
  ⟨blk_free h.box 0, blk_free h.box 1, blk_free h.box 2, blk_free h.box 3⟩
theorem CB.setIns (h : CB gm c vN vG vO w) (x : Int) : CB gm { c with ins := x } vN vG vO (w.setCell ⟨gm, 0, none⟩ (.int .i64 x)) :=
  ⟨heap_setCell_same w gm 0 _ _ _ h.box, own_set' h.n (Nat.lt_succ_self _), own_set' h.g (Nat.lt_succ_self _), own_set' h.o (Nat.lt_succ_self _), h.ng, h.no, h.go⟩
theorem apart_at {v v' u : Value} (h : Apart v u) (hat : ∀ g, v'.ownBlock = some g → v.ownBlock = some g ∨ w.heap.size ≤ g) (hu : ∀ g, u.ownBlock = some g → g < w.heap.size) : Apart v' u := fun g hg e => by
  rcases hat g hg with h1 | h1
  · exact h g h1 e
  · have := hu g e; omega
theorem at_of {v v' : Value} (hat : v'.ownBlock = v.ownBlock ∨ v'.ownBlock = some w.heap.size) : ∀ g, v'.ownBlock = some g → v.ownBlock = some g ∨ w.heap.size ≤ g := fun g hg => by
  rcases hat with h | h
  · exact .inl (h ▸ hg)
  · rw [h] at hg; exact .inr (by have := Option.some.inj hg; omega)
theorem CB.addN {w1 : World} {E : Nat → Prop} {v' : Value} {xs : List Int} (h : CB gm c vN vG vO w) (ho : Only E w w1) (hE : ∀ g, gm ≤ g → vN.ownBlock ≠ some g → ¬ E g) (hown : w1.ownsRow (gm + 1) 3 1 v' xs.length (ints xs)) (hat : ∀ g, v'.ownBlock = some g → vN.ownBlock = some g ∨ w.heap.size ≤ g) :
    CB gm { c with next := xs } v' vG vO (w1.setCell ⟨gm, 1, none⟩ v') := by
  have hgm : vN.ownBlock ≠ some gm := fun e => by have := (h.n.lt gm e).1; omega
  have hbox := (ho.block gm (blk_lt h.box) (hE gm (Nat.le_refl _) hgm)).trans h.box
  exact ⟨heap_setCell_same w1 gm 1 _ _ _ hbox, own_set' hown (Nat.lt_succ_self _), own_set' (own_only h.g ho fun g hg => hE g (by have := (h.g.lt g hg).1; omega) fun e => h.ng g e hg) (Nat.lt_succ_self _), own_set' (own_only h.o ho fun g hg => hE g (by have := (h.o.lt g hg).1; omega) fun e => h.no g e hg) (Nat.lt_succ_self _), apart_at h.ng hat fun g hg => (h.g.lt g hg).2, apart_at h.no hat fun g hg => (h.o.lt g hg).2, h.go⟩
theorem CB.addG {w1 : World} {E : Nat → Prop} {v' : Value} {xs : List (Int × Int)} (h : CB gm c vN vG vO w) (ho : Only E w w1) (hE : ∀ g, gm ≤ g → vG.ownBlock ≠ some g → ¬ E g) (hown : w1.ownsRow (gm + 1) 72 2 v' xs.length (cubes xs)) (hat : ∀ g, v'.ownBlock = some g → vG.ownBlock = some g ∨ w.heap.size ≤ g) :
    CB gm { c with gates := xs } vN v' vO (w1.setCell ⟨gm, 2, none⟩ v') := by
  have hgm : vG.ownBlock ≠ some gm := fun e => by have := (h.g.lt gm e).1; omega
  have hbox := (ho.block gm (blk_lt h.box) (hE gm (Nat.le_refl _) hgm)).trans h.box
  exact ⟨heap_setCell_same w1 gm 2 _ _ _ hbox, own_set' (own_only h.n ho fun g hg => hE g (by have := (h.n.lt g hg).1; omega) fun e => h.ng g hg e) (Nat.lt_succ_self _), own_set' hown (Nat.lt_succ_self _), own_set' (own_only h.o ho fun g hg => hE g (by have := (h.o.lt g hg).1; omega) fun e => h.go g e hg) (Nat.lt_succ_self _), (apart_at h.ng.symm hat fun g hg => (h.n.lt g hg).2).symm, h.no, apart_at h.go hat fun g hg => (h.o.lt g hg).2⟩
theorem CB.addO {w1 : World} {E : Nat → Prop} {v' : Value} {xs : List Int} (h : CB gm c vN vG vO w) (ho : Only E w w1) (hE : ∀ g, gm ≤ g → vO.ownBlock ≠ some g → ¬ E g) (hown : w1.ownsRow (gm + 1) 3 1 v' xs.length (ints xs)) (hat : ∀ g, v'.ownBlock = some g → vO.ownBlock = some g ∨ w.heap.size ≤ g) :
    CB gm { c with outs := xs } vN vG v' (w1.setCell ⟨gm, 3, none⟩ v') := by
  have hgm : vO.ownBlock ≠ some gm := fun e => by have := (h.o.lt gm e).1; omega
  have hbox := (ho.block gm (blk_lt h.box) (hE gm (Nat.le_refl _) hgm)).trans h.box
  exact ⟨heap_setCell_same w1 gm 3 _ _ _ hbox, own_set' (own_only h.n ho fun g hg => hE g (by have := (h.n.lt g hg).1; omega) fun e => h.no g hg e) (Nat.lt_succ_self _), own_set' (own_only h.g ho fun g hg => hE g (by have := (h.g.lt g hg).1; omega) fun e => h.go g hg e) (Nat.lt_succ_self _), own_set' hown (Nat.lt_succ_self _), h.ng, (apart_at h.no.symm hat fun g hg => (h.n.lt g hg).2).symm, (apart_at h.go.symm hat fun g hg => (h.g.lt g hg).2).symm⟩
end
theorem info_gate' : (Try.prog.info? 72).map (fun i => (i.zero, i.size, i.bytes)) = some (some (.agg #[.int .i64 0, .int .i64 0]), 2, 16) := by kernel_rfl
theorem append_gates {w : World} {ops : Array Oper} {rest : List Oper} {o : Oper} {a : Act} {Q : Exit → Act → World → Prop} (hgd : o.guard = none) (s x : Operand)
    (ho : o.op = .call { callee := .builtin .append, args := #[s, x], argTypes := #[24, 24] })
    (base : Nat) (v : Value) (n : Nat) (xs : List Value) (hs : a.eval s = v) (hown : w.ownsRow base 72 2 v n xs) (sv : Value) (m : Nat) (news : List Value) (hx : a.eval x = sv) (hr : Row w 2 sv m news) (h1 : ∀ u ∈ news, u.oneCell' = true)
    (h63 : n + m ≤ 1000000) (hbase : base ≤ w.heap.size)
    (h : ∀ v' w', w'.ownsRow base 72 2 v' (n + m) (xs ++ news) → w.grownBy w' v.ownBlock → (v'.ownBlock = v.ownBlock ∨ v'.ownBlock = some w.heap.size) → wpList Try.prog ops Q rest (a.put o.dst v') w') : wpList Try.prog ops Q (o :: rest) a w := by
  obtain ⟨i, hi, hz0, hz1, hz2⟩ := info_parts info_gate'
  exact wpList_append_at hgd s x 24 ho base 72 i _ 2 16 Try.underlying24 hi hz0 hz1 hz2 rfl (by decide) v n xs hs hown sv m news hx hr h1 (by unfold maxLen; omega) (by omega) hbase h
theorem app_only {w w' : World} {o : Obj} {v : Value} (hg : (w.alloc o).grownBy w' v.ownBlock) : Only (fun g => v.ownBlock = some g) w w' :=
  (Only.of_below _ (bel_new w o)).trans (Only.grown hg fun _ hk => hk)
theorem app_at {w : World} {o : Obj} {v v' : Value} (hat : v'.ownBlock = v.ownBlock ∨ v'.ownBlock = some (w.alloc o).heap.size) : ∀ g, v'.ownBlock = some g → v.ownBlock = some g ∨ w.heap.size ≤ g := fun g hg =>
  (at_of hat g hg).imp id fun h => by rw [World.size_alloc] at h; omega
theorem app_rd {w w' : World} {o : Obj} {v : Value} {R P B n size : Nat} {e : TypeId} {xs : List Value} (h : Rd w R P) (hg : (w.alloc o).grownBy w' v.ownBlock) (hown : w.ownsRow B e size v n xs) (hB : R < B) : Rd w' R P :=
  (h.alloc o).grown hg fun k hk => by have := (hown.lt k hk).1; omega
def gsLen (gm : Nat) (w : World) : Nat := match w.cell? ⟨gm, 2, none⟩ with
  | some (.slice _ n _) => n
  | _ => 0
theorem gsLen_is {gm : Nat} {c : Cz} {vN vG vO : Value} {w : World} (h : CB gm c vN vG vO w) : gsLen gm w = c.gates.length := by
  obtain ⟨A, k, e⟩ := slice_of_own h.g
  subst e
  obtain ⟨_, _, _, h2, _⟩ := h.cells
  unfold gsLen
  rw [h2]
def OwnC (B : Nat) (v : Value) (c : Cz) (w : World) : Prop := ∃ vN vG vO, v = .agg #[.int .i64 c.ins, vN, vG, vO] ∧ w.ownsRow B 3 1 vN c.next.length (ints c.next) ∧ w.ownsRow B 72 2 vG c.gates.length (cubes c.gates) ∧ w.ownsRow B 3 1 vO c.outs.length (ints c.outs) ∧ Apart vN vG ∧ Apart vN vO ∧ Apart vG vO
def LitS (x : Int) : Prop := -100 ≤ x ∧ x ≤ 1000
structure Small (c : Cz) : Prop where
  i1 : -1 ≤ c.ins
  i2 : c.ins ≤ 5
  n : c.next.length ≤ 4
  g : c.gates.length ≤ 15
  o : c.outs.length ≤ 7
  ln : ∀ x ∈ c.next, LitS x
  lg : ∀ x ∈ c.gates, LitS x.1 ∧ LitS x.2
  lo : ∀ x ∈ c.outs, LitS x
def DrewC (R P : Nat) (w : World) (e : Ending) (w' : World) : Prop := ∃ v c, e = .returned v ∧ OwnC w.heap.size v c w' ∧ Small c ∧ Rd w' R (P + 10000) ∧ w.grownBy w' (some R)
theorem only_drawn {E : Nat → Prop} {a b c : World} {R : Nat} (h : Only E a b) (hg : b.grownBy c (some R)) (hR : a.heap.size ≤ R ∨ E R) : Only E a c :=
  h.aft (F := (· = R)) (Only.grown hg fun k hk => (Option.some.inj hk).symm) fun g hg => by subst hg; exact hR
theorem only_alloc {E : Nat → Prop} {a b : World} (h : Only E a b) (o : Obj) : Only E a (b.alloc o) :=
  h.trans (Only.of_below _ (bel_new b o))
theorem only_set {E : Nat → Prop} {a b : World} {g i : Nat} {v : Value} (h : Only E a b) (hg : a.heap.size ≤ g) : Only E a (b.setCell ⟨g, i, none⟩ v) :=
  h.aft (F := (· = g)) (Only.grown (set_grown b g i v) fun k hk => (Option.some.inj hk).symm) fun k hk => by subst hk; exact .inl hg
theorem rd_set {w : World} {R P g i : Nat} {v : Value} (h : Rd w R P) (hg : R < g) : Rd (w.setCell ⟨g, i, none⟩ v) R P :=
  h.grown (set_grown w g i v) fun k hk => by have := Option.some.inj hk; omega
theorem res_set {w : World} {g k i : Nat} {o : Obj} {v : Value} (h : w.heap[k]? = some o) (hg : k ≠ g) : (w.setCell ⟨g, i, none⟩ v).heap[k]? = some o :=
  ((set_grown w g i v).block k (blk_lt h) (fun e => hg (Option.some.inj e))).trans h
theorem res_grown {w w' : World} {k : Nat} {r : Option Nat} {o : Obj} (h : w.heap[k]? = some o) (hg : w.grownBy w' r) (hr : r ≠ some k) : w'.heap[k]? = some o :=
  (hg.block k (blk_lt h) (fun e => hr e.symm)).trans h
theorem cb_set {gm : Nat} {c : Cz} {vN vG vO : Value} {w : World} (h : CB gm c vN vG vO w) {k i : Nat} (u : Value) (hk : k < gm) : CB gm c vN vG vO (w.setCell ⟨k, i, none⟩ u) :=
  h.only (E := (· = k)) (Only.grown (set_grown w k i u) fun g hg => (Option.some.inj hg).symm) fun g hg e => by subst e; omega
theorem finC {gm : Nat} {c : Cz} {vN vG vO : Value} {w0 w : World} {R P Q : Nat} (HC : CB gm c vN vG vO w) (HO : Only (· = R) w0 w) (Hr : Rd w R Q) (hk : w0.heap.size < gm) (hR : R < w0.heap.size) (hQ : Q ≤ P + 10000) (hs : Small c) (a b d e : Value) :
    DrewC R P w0 (.returned (.agg #[.int .i64 c.ins, vN, vG, vO])) ((((w.setCell ⟨w0.heap.size, 0, none⟩ a).setCell ⟨w0.heap.size, 1, none⟩ b).setCell ⟨w0.heap.size, 2, none⟩ d).setCell ⟨w0.heap.size, 3, none⟩ e) := by
  have H := cb_set (i := 3) (cb_set (i := 2) (cb_set (i := 1) (cb_set (i := 0) HC a hk) b hk) d hk) e hk
  exact ⟨_, c, rfl, ⟨vN, vG, vO, rfl, own_mono H.n (by omega), own_mono H.g (by omega), own_mono H.o (by omega), H.ng, H.no, H.go⟩, hs, (rd_set (rd_set (rd_set (rd_set Hr hR) hR) hR) hR).more hQ, (only_set (only_set (only_set (only_set HO (Nat.le_refl _)) (Nat.le_refl _)) (Nat.le_refl _)) (Nat.le_refl _)).grownBy⟩
end Go.Proofs.Ytdgminjbgjbamaa