import Derived.Test.YtkkkjbinfdohpaaS07
import Derived.Great.BuildSlice
import Derived.Test.YtkkkjbinfdohpaaS06
import Derived.Test.YtkkkjbinfdohpaaS03
import Derived.Test.YtkkkjbinfdohpaaS04
import Derived.Test.YtkkkjbinfdohpaaS02
import Derived.Test.YtkkkjbinfdohpaaS05
set_option linter.unusedVariables false
set_option linter.unusedSimpArgs false
namespace Go.Proofs.Ytkkkjbinfdohpaa
open Go.RowKit Go.Maps
set_option maxRecDepth 100000
/-! and: a known gate. -/
end Go.Proofs.Ytkkkjbinfdohpaa

namespace Go.Proofs.Ytkkkjbinfdohpaa
open Go.RowKit Go.Maps
set_option maxRecDepth 100000
/-! and: the operands in the other order. (gen/bldsw.py prints this text.) -/
end Go.Proofs.Ytkkkjbinfdohpaa

namespace Go.Proofs.Ytkkkjbinfdohpaa
open Go.RowKit Go.Maps
set_option maxRecDepth 100000
/-! and: the operands in the other order. (gen/bldsw.py prints this text.) -/
end Go.Proofs.Ytkkkjbinfdohpaa

namespace Go.Proofs.Ytkkkjbinfdohpaa
open Go.RowKit Go.Maps
set_option maxRecDepth 100000
/-! and, xor. -/
end Go.Proofs.Ytkkkjbinfdohpaa

namespace Go.Proofs.Ytkkkjbinfdohpaa
open Go.RowKit Go.Maps
set_option maxRecDepth 100000
set_option maxHeartbeats 8000000
/-! The built circuit, by the program. -/
theorem nat_cell {w wr : World} {A : Option Addr} {n c : Nat} {xs : List Nat} (h : Row w 1 (.slice A n c) n (ints (xs.map Int.ofNat))) (hb : Below w.heap.size w wr) {i : Nat} (hn : n = xs.length) (hi : i < xs.length) :
    ∃ b o, A = some ⟨b, o, none⟩ ∧ b < w.heap.size ∧ wr.cell? ⟨b, o + i, none⟩ = some (.int .i64 ((xs.getD i 0 : Nat) : Int)) := by
  obtain ⟨b, o, x, hA, hbl, hx, hs⟩ := ints_open h hb (by rw [List.length_map]; exact hn) (i := i) (by rw [List.length_map]; exact hi)
  have hxe : x = ((xs.getD i 0 : Nat) : Int) := by
    have h1 := hx.out
    rw [List.getElem?_map, List.getElem?_eq_getElem hi] at h1
    rw [List.getD_eq_getElem?_getD, List.getElem?_eq_getElem hi]
    exact (Option.some.inj h1).symm
  subst hxe
  exact ⟨b, o, hA, hbl, hs⟩
theorem getD_le {xs : List Nat} {M : Nat} (h : ∀ x ∈ xs, x ≤ M) (i : Nat) : xs.getD i 0 ≤ M := by
  rw [List.getD_eq_getElem?_getD]
  cases hi : xs[i]? with
  | none => simp
  | some a => exact h a (List.mem_of_getElem? hi)
theorem and_one_nat (l : Nat) (hb : l ≤ 1000000) : bits .and .i64 (l : Int) 1 = ((l % 2 : Nat) : Int) := by
  have := i64_and_nat l 1 (by omega) (by omega)
  rw [Nat.and_one_is_mod] at this
  exact this
def TBoxC (c : Cz) : Ty := fun w v => ∃ g, v = .pointer (some ⟨g, 0, none⟩) ∧ PCirc w g c
theorem stb_boxc (c : Cz) : Stb (fun _ => False) (TBoxC c) := fun _ _ _ ⟨g, h1, h2⟩ ho => ⟨g, h1, h2.below (only_below ho)⟩
def TCOwn (c : Cz) : Ty := fun w v => CircOwn 0 w v c
theorem stb_cown (c : Cz) : Stb (fun _ => False) (TCOwn c) := fun _ _ _ h ho => CircOwn.below h (only_below ho)
def TBoxZ (B : Nat) (cs : Array Value) (t : TypeId) : Ty := fun w v => ∃ g, v = .pointer (some ⟨g, 0, none⟩) ∧ B ≤ g ∧ w.heap[g]? = some (.cells cs t (0, 0))
theorem stb_boxz (B : Nat) (cs : Array Value) (t : TypeId) : Stb (fun _ => False) (TBoxZ B cs t) := fun _ _ _ ⟨g, h1, h2, h3⟩ ho => ⟨g, h1, h2, (ho.block g (blk_ltB h3) id).trans h3⟩
theorem own_setN {w : World} {B n size k i : Nat} {e : TypeId} {v u : Value} {cs : List Value} (h : w.ownsRow B e size v n cs) (hk : v.ownBlock ≠ some k) : (w.setCell ⟨k, i, none⟩ u).ownsRow B e size v n cs :=
  own_only h (Only.grown (E := fun g => g = k) (set_grown w k i u) (fun x hx => (Option.some.inj hx).symm)) (fun g hg e => hk (by rw [hg, e]))
end Go.Proofs.Ytkkkjbinfdohpaa

namespace Go.Proofs.Ytkkkjbinfdohpaa
open Go.RowKit Go.Maps
set_option maxRecDepth 100000
set_option maxHeartbeats 8000000
/-! A circuit without the gates that nothing reaches, by the program. -/
theorem append_gatesO {w : World} {ops : Array Oper} {rest : List Oper} {o : Oper} {a : Act} {Q : Exit → Act → World → Prop} (hgd : o.guard = none) (s x : Operand)
    (ho : o.op = .call { callee := .builtin .append, args := #[s, x], argTypes := #[24, 24] })
    (base : Nat) (v : Value) (n : Nat) (xs : List Value) (hs : a.eval s = v) (hown : w.ownsRow base 64 2 v n xs) (sv : Value) (m : Nat) (news : List Value) (hx : a.eval x = sv) (hr : Row w 2 sv m news) (h1 : ∀ u ∈ news, u.oneCell' = true)
    (h63 : n + m ≤ 1000000) (hbase : base ≤ w.heap.size)
    (h : ∀ v' w', w'.ownsRow base 64 2 v' (n + m) (xs ++ news) → w.grownBy w' v.ownBlock → (v'.ownBlock = v.ownBlock ∨ v'.ownBlock = some w.heap.size) → wpList Try.prog ops Q rest (a.put o.dst v') w') : wpList Try.prog ops Q (o :: rest) a w := by
  obtain ⟨i, hi, hz0, hz1, hz2⟩ := info_parts info_gate
  exact wpList_append_at hgd s x 24 ho base 64 i _ 2 16 Try.underlying24 hi hz0 hz1 hz2 rfl (by decide) v n xs hs hown sv m news hx hr h1 (by unfold maxLen; omega) (by omega) hbase h
theorem plc_row_set {F n v : Nat} {keep : List Bool} {x : Nat} (hv : v < n) (hx : x = Cir.plc F keep v) : (ints (((List.range v).map (Cir.plc F keep) ++ List.replicate (n - v) 0).map Int.ofNat)).set v (.int .i64 (x : Nat)) = ints (((List.range (v + 1)).map (Cir.plc F keep) ++ List.replicate (n - (v + 1)) 0).map Int.ofNat) := by
  subst hx
  have e : List.replicate (n - v) 0 = 0 :: List.replicate (n - (v + 1)) 0 := by
    rw [show n - v = (n - (v + 1)) + 1 from by omega, List.replicate_succ]
  rw [e, List.range_succ]
  unfold ints
  rw [List.map_append, List.map_append, List.set_append_right _ _ (by simp)]
  simp
theorem plc_row_zero {F n v : Nat} {keep : List Bool} (hv : v < n) (hx : Cir.plc F keep v = 0) : ((List.range v).map (Cir.plc F keep) ++ List.replicate (n - v) 0) = ((List.range (v + 1)).map (Cir.plc F keep) ++ List.replicate (n - (v + 1)) 0) := by
  have e : List.replicate (n - v) 0 = 0 :: List.replicate (n - (v + 1)) 0 := by
    rw [show n - v = (n - (v + 1)) + 1 from by omega, List.replicate_succ]
  rw [e, List.range_succ]
  simp [hx]
end Go.Proofs.Ytkkkjbinfdohpaa

namespace Go.Proofs.Ytkkkjbinfdohpaa
open Go.RowKit Go.Maps
set_option maxRecDepth 100000
set_option maxHeartbeats 8000000
/-! The optimized circuit, by the program. -/
section
variable {S : RS} {Fin : List Ty → Prop} {o : Oper} {l : List Oper} {i : Nat} {τs : List Ty}
/-- A call that writes to blocks of its own. -/
theorem rs_callW (hd : i = S.d) {R0 R1 : World → Prop} (hJ : S.J = JStep R0 R1) (hrd : S.rd = none) (T : Ty) (hT : Stb S.E T) (f : FuncId) (args : Array Operand) (at_ : Array TypeId) (ho : o.op = .call { callee := .value (.func f), args := args, argTypes := at_ })
    (h : ∀ ρ w, Only S.E S.w0 w → R0 w → Known S.ops (tys τs) S.a0 ρ w i (.func f :: args.toList) → ∃ vs, (execOp ρ o).run S.P w = .ok (.enter f vs) w ∧ Calls S.P f vs w fun e w' => ∃ v, e = .returned v ∧ T w' v ∧ R1 w' ∧ Only S.E w w')
    (rest : RSeq S Fin l (i + 1) (T :: τs)) : RSeq S Fin (o :: l) i τs := by
  intro _
  refine ⟨T, hT, fun k ov ρ w hk hI hov hK => ?_, rest⟩
  obtain rfl := hov (by rw [hd]; exact ancB_self _ _ _)
  have h0 : R0 w := by have := hI.2.2; rw [hJ] at this; exact this
  have he : o.op.operands.toList = .func f :: args.toList := by rw [ho]; simp [Op.operands, Call.operands]
  rw [he] at hK
  obtain ⟨vs, h1, h2⟩ := h ρ w hI.2.1 h0 hK
  unfold Good
  rw [h1]
  refine h2.mono ?_
  rintro e w' ⟨v, rfl, h3, h4, h5⟩
  refine ⟨h3, ⟨?_, hI.2.1.trans h5, ?_⟩, h5⟩
  · rw [hrd]; trivial
  · rw [if_pos hd, hJ]
    exact h4
end
end Go.Proofs.Ytkkkjbinfdohpaa

namespace Go.Proofs.Ytkkkjbinfdohpaa
open Go.RowKit
/-! Typed values with an owned row inside; rows of different types. -/
def TAggO (B : Nat) (e : TypeId) (size n : Nat) (cs : List Value) (mk : Value → Value) : Ty := fun w v => ∃ A c, v = mk (.slice A n c) ∧ w.ownsRow B e size (.slice A n c) n cs
theorem stb_aggo {E : Nat → Prop} {B : Nat} (hE : ∀ g, E g → g < B) (e : TypeId) (size n : Nat) (cs : List Value) (mk : Value → Value) : Stb E (TAggO B e size n cs mk) := fun _ w w' ⟨A, c, h1, h2⟩ ho =>
  ⟨A, c, h1, stb_own hE e size n cs _ w w' h2 ho⟩
theorem stb_aggq (B : Nat) (e : TypeId) (size n : Nat) (cs : List Value) (mk : Value → Value) : Stb (fun _ => False) (TAggO B e size n cs mk) := fun _ w w' ⟨A, c, h1, h2⟩ ho => ⟨A, c, h1, own_below h2 (only_below ho)⟩
theorem own_ne_own {w : World} {B B' n n' size size' : Nat} {e e' : TypeId} {v v' : Value} {cs cs' : List Value} (h : w.ownsRow B e size v n cs) (h' : w.ownsRow B' e' size' v' n' cs') (hne : e ≠ e') {g : Nat} (hg : v.ownBlock = some g) : v'.ownBlock ≠ some g := by
  intro hg'
  rcases h.2 with ⟨rfl, -⟩ | ⟨k, cap, cur, rfl, -, hk, -⟩
  · cases hg
  · rcases h'.2 with ⟨rfl, -⟩ | ⟨k', cap', cur', rfl, -, hk', -⟩
    · cases hg'
    · obtain rfl : k = g := Option.some.inj hg
      obtain rfl : k' = k := Option.some.inj hg'
      rw [hk] at hk'
      injection hk' with h1
      injection h1 with _ h2
      exact hne h2
/-- A struct of four cells is stored cell by cell. -/
theorem set4_heap {w : World} {g : Nat} {o0 o1 o2 o3 a b c d : Value} {t : TypeId} (h : w.heap[g]? = some (.cells #[o0, o1, o2, o3] t (0, 0))) : ((((w.setCell ⟨g, 0, none⟩ a).setCell ⟨g, 1, none⟩ b).setCell ⟨g, 2, none⟩ c).setCell ⟨g, 3, none⟩ d).heap[g]? = some (.cells #[a, b, c, d] t (0, 0)) := by
  have y1 := heap_setCell_same w g 0 _ _ a h
  have y2 := heap_setCell_same _ g 1 _ _ b y1
  have y3 := heap_setCell_same _ g 2 _ _ c y2
  have y4 := heap_setCell_same _ g 3 _ _ d y3
  simpa using y4
theorem set1_only (w : World) (g i : Nat) (u : Value) : Only (fun k => k = g) w (w.setCell ⟨g, i, none⟩ u) := Only.grown (set_grown w g i u) (fun k hk => (Option.some.inj hk).symm)
theorem set4_only (w : World) (g : Nat) (a b c d : Value) : Only (fun k => k = g) w ((((w.setCell ⟨g, 0, none⟩ a).setCell ⟨g, 1, none⟩ b).setCell ⟨g, 2, none⟩ c).setCell ⟨g, 3, none⟩ d) :=
  (((set1_only w g 0 a).trans (set1_only _ g 1 b)).trans (set1_only _ g 2 c)).trans (set1_only _ g 3 d)
end Go.Proofs.Ytkkkjbinfdohpaa

namespace Go.Proofs.Ytkkkjbinfdohpaa
open Go.RowKit Go.Maps
set_option maxRecDepth 100000
set_option maxHeartbeats 8000000
/-! The maker of diagrams, by the program. -/
def ndC (NS : List Nd) : List Value := NS.flatMap fun x => [.int .i64 (x.1 : Int), .int .i64 (x.2.1 : Int), .int .i64 (x.2.2 : Int)]
theorem ndC_snoc (NS : List Nd) (x : Nd) : ndC (NS ++ [x]) = ndC NS ++ [.int .i64 (x.1 : Int), .int .i64 (x.2.1 : Int), .int .i64 (x.2.2 : Int)] := by unfold ndC; rw [List.flatMap_append]; rfl
theorem info_node : (Try.prog.info? 81).map (fun i => (i.zero, i.size, i.bytes)) = some (some (.agg #[.int .i64 0, .int .i64 0, .int .i64 0]), 3, 24) := by kernel_rfl
structure BMem (B b : Nat) (vT : Value) (T : List Bool) (n : Nat) (NS : List Nd) (vN : Value) (km : Nat) (w : World) : Prop where
  box : w.heap[b]? = some (.cells #[vT, .int .i64 (n : Int), vN, .map (some km)] 86 (0, 0))
  tab : w.ownsRow 0 4 1 vT T.length (bools T)
  nds : w.ownsRow B 81 3 vN NS.length (ndC NS)
  map : NAt w km NS.length (Bdd.kn NS)
  hb : B ≤ b
  hm : B ≤ km
  bm : b ≠ km
  nm : vN.ownBlock ≠ some km
  tm : vT.ownBlock ≠ some km
theorem BMem.below {B b : Nat} {vT : Value} {T : List Bool} {n : Nat} {NS : List Nd} {vN : Value} {km : Nat} {w w' : World} (h : BMem B b vT T n NS vN km w) (hb : Below w.heap.size w w') : BMem B b vT T n NS vN km w' :=
  ⟨(hb.block b (Array.getElem?_eq_some_iff.1 h.box).1).trans h.box, own_below h.tab hb, own_below h.nds hb, h.map.below hb, h.hb, h.hm, h.bm, h.nm, h.tm⟩
def BGive (B b : Nat) (vT : Value) (T : List Bool) (n : Nat) (r : Nat × List Nd) (w : World) (e : Ending) (w' : World) : Prop :=
  e = .returned (.int .i64 (r.1 : Int)) ∧ (∃ vN km, BMem B b vT T n r.2 vN km w') ∧ Below B w w'
theorem or_pow {x v : Nat} (h : x < 2 ^ v) : x ||| 2 ^ v = x + 2 ^ v := by
  have := Nat.two_pow_add_eq_or_of_lt h 1
  rw [Nat.mul_one] at this
  rw [Nat.or_comm, ← this, Nat.add_comm]
theorem build_any (B b : Nat) (vT : Value) (T : List Bool) (n : Nat) (hT : T.length = 2 ^ n) (hn : n ≤ 7) : ∀ (f x : Nat) (NS : List Nd) (vN : Value) (km : Nat) (w : World), BMem B b vT T n NS vN km w → f ≤ n → x < 2 ^ (n - f) → Bdd.NOk n NS → NS.length + 2 ^ f ≤ 1000 → B ≤ w.heap.size →
    Calls Try.prog 56 #[.pointer (some ⟨b, 0, none⟩), .int .i64 ((n - f : Nat) : Int), .int .i64 (x : Int)] w (BGive B b vT T n (Bdd.bld T n f x NS) w)
  | 0, x, NS, vN, km, w, h, hf, hx, hN, hl, hB => by
    obtain ⟨AT, cT, eT⟩ := slice_of_own h.tab
    subst eT
    have h128 : 2 ^ n ≤ 2 ^ 7 := Nat.pow_le_pow_right (show 0 < 2 by decide) hn
    rw [Nat.sub_zero] at hx ⊢
    have hxT : x < T.length := by omega
    obtain ⟨g, c', hv, hg1, hg2, -, -⟩ := own_open h.tab (by omega)
    injection hv with hA _ hc
    subst hA hc
    obtain ⟨u, hu, hcl, -⟩ := own_slot h.tab (j := x) (by omega)
    have hue : u = .bool (T.getD x false) := by
      unfold bools at hu
      rw [List.getElem?_map, List.getElem?_eq_getElem hxT] at hu
      rw [List.getD_eq_getElem?_getD, List.getElem?_eq_getElem hxT]
      exact (Option.some.inj hu).symm
    subst hue
    have HG : Hid (Bdd.bld T n 0 x NS = (if T.getD x false then 1 else 0, NS)) := Lib.hid rfl
    have q0 := blk_cell h.box 0
    have q1 := blk_cell h.box 1
    simp at q0 q1
    have H := Lib.hid h
    have hTl : T.length ≤ 1000 := by omega
    generalize hb : T.getD x false = tb at *
    clear hu h hN hT h128 hx
    cases tb
    · go_enter Try.func56, Try.ntmps56
      go_wp2_with fail
      go_ret
      exact ⟨by rw [HG.out]; rfl, ⟨vN, km, by rw [HG.out]; exact H.out⟩, Below.refl _ _⟩
    · go_enter Try.func56, Try.ntmps56
      go_wp2_with fail
      go_ret
      exact ⟨by rw [HG.out]; rfl, ⟨vN, km, by rw [HG.out]; exact H.out⟩, Below.refl _ _⟩
  | f + 1, x, NS, vN, km, w, h, hf, hx, hN, hl, hB => by
    have IH := build_any B b vT T n hT hn f
    obtain ⟨v, hv⟩ : ∃ v, v = n - (f + 1) := ⟨_, rfl⟩
    have hvn : n - f = v + 1 := by omega
    have hvlt : v < n := by omega
    obtain ⟨p, hp⟩ : ∃ p, p = 2 ^ v := ⟨_, rfl⟩
    have hp2 : 2 ^ (n - f) = 2 * p := by rw [hvn, hp, Nat.pow_succ, Nat.mul_comm]
    have hpb : p ≤ 128 := by rw [hp]; exact Nat.pow_le_pow_right (show 0 < 2 by decide) (show v ≤ 7 by omega)
    have h2f : 2 ^ (f + 1) = 2 * 2 ^ f := by rw [Nat.pow_succ, Nat.mul_comm]
    rw [← hv, ← hp] at hx
    obtain ⟨i1, i2, -⟩ := Bdd.bld_ok T n f x NS (by omega) hN
    obtain ⟨m1, e1, l1⟩ := Bdd.bld_prefix T n f x NS
    obtain ⟨j1, j2, -⟩ := Bdd.bld_ok T n f (x + p) (Bdd.bld T n f x NS).2 (by omega) i1
    obtain ⟨m2, e2, l2⟩ := Bdd.bld_prefix T n f (x + p) (Bdd.bld T n f x NS).2
    have HG : Hid (Bdd.bld T n (f + 1) x NS = Bdd.add (Bdd.bld T n f (x + p) (Bdd.bld T n f x NS).2).2 (v, (Bdd.bld T n f x NS).1, (Bdd.bld T n f (x + p) (Bdd.bld T n f x NS).2).1)) := Lib.hid (by rw [Bdd.bld, ← hv, ← hp])
    have hlo := Lib.hid i1
    have h2l : 2 ≤ (Bdd.bld T n f (x + p) (Bdd.bld T n f x NS).2).2.length := j1.two
    have hlen1 : (Bdd.bld T n f x NS).2.length + 2 ^ f ≤ 1000 := by rw [e1, List.length_append]; omega
    have hlen2 : (Bdd.bld T n f (x + p) (Bdd.bld T n f x NS).2).2.length + 1 ≤ 1000 := by rw [e2, List.length_append, e1, List.length_append]; omega
    have C1 := Lib.hid (IH x NS vN km w h (by omega) (by rw [hp2]; omega) hN (by omega) hB)
    have C2 : Hid (∀ vN' km' w', BMem B b vT T n (Bdd.bld T n f x NS).2 vN' km' w' → B ≤ w'.heap.size → Calls Try.prog 56 #[.pointer (some ⟨b, 0, none⟩), .int .i64 ((n - f : Nat) : Int), .int .i64 ((x + p : Nat) : Int)] w' (BGive B b vT T n (Bdd.bld T n f (x + p) (Bdd.bld T n f x NS).2) w')) := Lib.hid fun vN' km' w' h' hB' => IH (x + p) _ vN' km' w' h' (by omega) (by rw [hp2]; omega) hlo.out hlen1 hB'
    have hl1 : (Bdd.bld T n f x NS).1 < 1000 := by have := i2.1; omega
    have hl2 : (Bdd.bld T n f (x + p) (Bdd.bld T n f x NS).2).1 < 1000 := by have := j2.1; omega
    rw [hvn] at C1 C2
    have hor : bits .or .i64 (x : Int) (p : Int) = ((x + p : Nat) : Int) := by
      have := i64_or_nat x p (by omega) (by omega)
      rw [this]
      congr 1
      rw [hp]
      exact or_pow (by rw [← hp]; exact hx)
    have e2v : (2 : Int) ^ v = (p : Int) := by rw [hp]; exact two_pow v
    have hwp := IntWalk.i64_in (p : Int) (by omega)
    have hwu : IntKind.u64.wrap (v : Int) = v := by rw [IntKind.wrap_u64]; omega
    have hwv : IntKind.i64.wrap ((v : Int) + 1) = (v : Int) + 1 := IntWalk.i64_in _ (by omega)
    have hne : ((v : Int) == (n : Int)) = false := by rw [beq_eq_false_iff_ne]; omega
    obtain ⟨y, hy⟩ : ∃ y, y = x + p := ⟨_, rfl⟩
    rw [← hy] at C2 hor HG hlen2 hl2 h2l
    generalize Bdd.bld T n f x NS = lo at *
    generalize Bdd.bld T n f y lo.2 = hi at *
    obtain ⟨lo1, NS1⟩ := lo
    obtain ⟨hi1, NS2⟩ := hi
    simp only at HG hlen1 hlen2 hl1 hl2 h2l
    have q1 := blk_cell h.box 1
    simp at q1
    have hv7 : v ≤ 7 := by omega
    rw [← hv]
    clear h hN hl IH i1 i2 m1 e1 l1 j1 j2 m2 e2 l2 hlo hp2 hpb h2f hx hvn hT hy hv hp hlen1 hf hvlt
    go_enter Try.func56, Try.ntmps56
    go_wp2_with fail
    refine C1.out.mono ?_
    rintro e w1 ⟨rfl, ⟨vN1, km1, hM1⟩, hb1⟩
    have H1 := Lib.hid hM1
    have Hb1 := Lib.hid hb1
    have hz1 := hb1.size
    clear hM1 hb1 C1 q1
    go_wp2_with fail
    refine (C2.out vN1 km1 w1 H1.out (by omega)).mono ?_
    rintro e w2 ⟨rfl, ⟨vN2, km2, hM2⟩, hb2⟩
    have H2 := Lib.hid hM2
    have Hb2 : Hid (Below B w w2) := Lib.hid (Hb1.out.trans hb2)
    have hz2 : B ≤ w2.heap.size := by have := hb2.size; omega
    clear hM2 hb2 C2 H1 Hb1
    by_cases heq : lo1 = hi1
    · subst heq
      have HE : Hid (Bdd.bld T n (f + 1) x NS = (lo1, NS2)) := Lib.hid (by rw [HG.out]; unfold Bdd.add; rw [if_pos rfl])
      have hqq : ((lo1 : Int) == (lo1 : Int)) = true := by simp
      clear HG
      go_wp2_with fail
      go_ret
      exact ⟨by rw [HE.out]; rfl, ⟨vN2, km2, by rw [HE.out]; exact H2.out⟩, Hb2.out⟩
    · have hqq : ((lo1 : Int) == (hi1 : Int)) = false := by rw [beq_eq_false_iff_ne]; omega
      have hG2 := HG.out
      unfold Bdd.add at hG2
      rw [if_neg heq] at hG2
      have hba := bel_new w2 (.cells #[.int .i64 (v : Int), .int .i64 (lo1 : Int), .int .i64 (hi1 : Int)] 81)
      have hg9 := heap_alloc_new w2 (.cells #[.int .i64 (v : Int), .int .i64 (lo1 : Int), .int .i64 (hi1 : Int)] 81)
      have hza : (w2.alloc (.cells #[.int .i64 (v : Int), .int .i64 (lo1 : Int), .int .i64 (hi1 : Int)] 81)).heap.size = w2.heap.size + 1 := by simp
      have H3 := Lib.hid (H2.out.below hba)
      have Hb3 := Lib.hid (Hb2.out.trans (hba.mono hz2))
      have hX : NdOk (v, lo1, hi1) := ⟨by simp only; omega, by simp only; omega, by simp only; omega⟩
      have HX := Lib.hid hX
      have hnlt : ∀ g, vN2.ownBlock = some g → g < w2.heap.size := fun g hg => (H2.out.nds.lt g hg).2
      have hkm2 : km2 < w2.heap.size := H2.out.map.lt
      clear heq HG hba H2 Hb2 hX
      go_wp2_with fail
      generalize w2.alloc (.cells #[.int .i64 (v : Int), .int .i64 (lo1 : Int), .int .i64 (hi1 : Int)] 81) = W3 at *
      obtain ⟨gn, hgn⟩ : ∃ gn, gn = w2.heap.size := ⟨_, rfl⟩
      rw [← hgn] at hg9 hza hnlt hkm2 ⊢
      have HN3 := Lib.hid hg9
      have hgnz : gn < W3.heap.size := by omega
      have hBn : B ≤ gn := by omega
      have hbz : b < W3.heap.size := (Array.getElem?_eq_some_iff.1 H3.out.box).1
      have hgnb : gn ≠ b := fun e => by
        have h1 := H3.out.box
        rw [← e, HN3.out] at h1
        simp at h1
      have Hnlt := Lib.hid hnlt
      have hkmn : km2 < gn := hkm2
      clear hg9 hgn hza hnlt
      have HL : Hid (∀ w', Below W3.heap.size W3 w' → (Instr.lookup 84 (.map (some km2)) (.agg #[.int .i64 (v : Int), .int .i64 (lo1 : Int), .int .i64 (hi1 : Int)]) true).run Try.prog w' = .ok (.tuple #[.int .i64 (((Bdd.kn NS2 (v, lo1, hi1)).getD 0 : Nat) : Int), .bool (Bdd.kn NS2 (v, lo1, hi1)).isSome]) w') := Lib.hid fun w' hb => (H3.out.map.below hb).look HX.out
      cases hk : Bdd.kn NS2 (v, lo1, hi1) with
      | some j =>
        rw [hk] at HL hG2
        simp only [Option.getD_some, Option.isSome_some] at HL
        have HE := Lib.hid hG2
        clear hG2 hk
        refine wp_region_rs (quietRS Try.prog _ W3 _) quietRS_ok (by kernel_rfl) (by kernel_rfl) (by kernel_rfl) (Nat.le_of_ble_eq_true rfl) trivial trivial ?_
        refine rs_old quietRS_ok quiet_any _ (.inl rfl) _ rfl rfl ?_
        apply rs_eq quietRS_ok quiet_any
        · intro ρ w' ho hK
          have ho : Only _ W3 w' := ho
          obtain ⟨h0, -⟩ := hK
          have h0' : ρ (.tmp 47) = _ := h0
          go_simp
          try exact rfl
        apply rs_eq quietRS_ok quiet_any
        · intro ρ w' ho hK
          have ho : Only _ W3 w' := ho
          obtain ⟨h0, -⟩ := hK
          have h0' : ρ (.tmp 48) = _ := h0
          go_simp
          try exact rfl
        apply rs_eq quietRS_ok quiet_any
        · intro ρ w' ho hK
          have ho : Only _ W3 w' := ho
          obtain ⟨h0, -⟩ := hK
          have h0' : ρ (.tmp 49) = _ := h0
          have hb := only_below ho
          have q3 := (hb.cell (p := ⟨b, 3, none⟩) hbz).trans (blk_cell H3.out.box 3)
          have k0 := (hb.cell (p := ⟨gn, 0, none⟩) hgnz).trans (blk_cell HN3.out 0)
          have k1 := (hb.cell (p := ⟨gn, 1, none⟩) hgnz).trans (blk_cell HN3.out 1)
          have k2 := (hb.cell (p := ⟨gn, 2, none⟩) hgnz).trans (blk_cell HN3.out 2)
          simp at q3 k0 k1 k2
          go_simp
          try exact rfl
        apply rs_eq quietRS_ok quiet_any
        · intro ρ w' ho hK
          have ho : Only _ W3 w' := ho
          obtain ⟨h0, -⟩ := hK
          have h0' : ρ (.tmp 9) = _ := h0
          have hb := only_below ho
          have q3 := (hb.cell (p := ⟨b, 3, none⟩) hbz).trans (blk_cell H3.out.box 3)
          have k0 := (hb.cell (p := ⟨gn, 0, none⟩) hgnz).trans (blk_cell HN3.out 0)
          have k1 := (hb.cell (p := ⟨gn, 1, none⟩) hgnz).trans (blk_cell HN3.out 1)
          have k2 := (hb.cell (p := ⟨gn, 2, none⟩) hgnz).trans (blk_cell HN3.out 2)
          simp at q3 k0 k1 k2
          go_simp
          try exact rfl
        apply rs_eq quietRS_ok quiet_any
        · intro ρ w' ho hK
          have ho : Only _ W3 w' := ho
          obtain ⟨h0, h1, -⟩ := hK
          have h0' : ρ (.tmp 50) = _ := h0
          have h1' : ρ (.tmp 51) = _ := h1
          have hlk := HL.out w' (only_below ho)
          go_simp
          try exact rfl
        refine rs_same quietRS_ok quiet_any 52 5 (.inl rfl) rfl _ rfl ?_
        apply rs_eq quietRS_ok quiet_any
        · intro ρ w' ho hK
          have ho : Only _ W3 w' := ho
          obtain ⟨h0, -⟩ := hK
          have h0' : ρ (.tmp 46) = _ := h0
          go_simp
          try exact rfl
        apply rs_eq quietRS_ok quiet_any
        · intro ρ w' ho hK
          have ho : Only _ W3 w' := ho
          obtain ⟨h0, -⟩ := hK
          have h0' : ρ (.tmp 46) = _ := h0
          go_simp
          try exact rfl
        refine rs_same quietRS_ok quiet_any 53 7 (.inr rfl) rfl _ rfl ?_
        refine rs_same quietRS_ok quiet_any 54 8 (.inr rfl) rfl _ rfl ?_
        intro f w9 k9 hk9 hI9 ht9 hcp9
        have E0 : f 0 = _ := ht9 0 (Nat.le_of_ble_eq_true rfl)
        conv at E0 => rhs; whnf
        have E1 : f 1 = _ := ht9 1 (Nat.le_of_ble_eq_true rfl)
        have E2 : f 2 = _ := ht9 2 (Nat.le_of_ble_eq_true rfl)
        have E3 : f 3 = _ := ht9 3 (Nat.le_of_ble_eq_true rfl)
        have E4 : f 4 = _ := ht9 4 (Nat.le_of_ble_eq_true rfl)
        have E5 : f 5 = _ := ht9 5 (Nat.le_of_ble_eq_true rfl)
        have E6 : f 6 = _ := ht9 6 (Nat.le_of_ble_eq_true rfl)
        have E7 : f 7 = _ := ht9 7 (Nat.le_of_ble_eq_true rfl)
        have E8 : f 8 = _ := ht9 8 (Nat.le_of_ble_eq_true rfl)
        have E9 : f 9 = _ := ht9 9 (Nat.le_of_ble_eq_true rfl)
        have E10 : f 10 = _ := ht9 10 (Nat.le_of_ble_eq_true rfl)
        have Ho9 : Only _ W3 w9 := hI9.2.1
        simp only [putAll, E0, E1, E2, E3, E4, E5, E6, E7, E8, E9, E10, Nat.zero_add, Nat.reduceAdd, Act.put, List.setIfInBounds_toArray, List.set_cons_succ, List.set_cons_zero]
        clear E0 E1 E2 E3 E4 E5 E6 E7 E8 E9 E10
        clear hI9 ht9 hcp9 hk9
        have hb9 := only_below Ho9
        have H9 := Lib.hid (H3.out.below hb9)
        have Hb9 := Lib.hid (Hb3.out.trans (hb9.mono (by omega)))
        clear Ho9 hb9 HL H3 HN3 Hb3
        go_wp2_with fail
        go_ret
        exact ⟨by rw [HE.out]; rfl, ⟨vN2, km2, by rw [HE.out]; exact H9.out⟩, Hb9.out⟩
      | none =>
        rw [hk] at HL hG2
        simp only [Option.getD_none, Option.isSome_none] at HL
        have HE := Lib.hid hG2
        have HK := Lib.hid hk
        clear hG2 hk
        refine wp_region_rs (quietRS Try.prog _ W3 _) quietRS_ok (by kernel_rfl) (by kernel_rfl) (by kernel_rfl) (Nat.le_of_ble_eq_true rfl) trivial trivial ?_
        refine rs_old quietRS_ok quiet_any _ (.inl rfl) _ rfl rfl ?_
        apply rs_eq quietRS_ok quiet_any
        · intro ρ w' ho hK
          have ho : Only _ W3 w' := ho
          obtain ⟨h0, -⟩ := hK
          have h0' : ρ (.tmp 47) = _ := h0
          go_simp
          try exact rfl
        apply rs_eq quietRS_ok quiet_any
        · intro ρ w' ho hK
          have ho : Only _ W3 w' := ho
          obtain ⟨h0, -⟩ := hK
          have h0' : ρ (.tmp 48) = _ := h0
          go_simp
          try exact rfl
        apply rs_eq quietRS_ok quiet_any
        · intro ρ w' ho hK
          have ho : Only _ W3 w' := ho
          obtain ⟨h0, -⟩ := hK
          have h0' : ρ (.tmp 49) = _ := h0
          have hb := only_below ho
          have q3 := (hb.cell (p := ⟨b, 3, none⟩) hbz).trans (blk_cell H3.out.box 3)
          have k0 := (hb.cell (p := ⟨gn, 0, none⟩) hgnz).trans (blk_cell HN3.out 0)
          have k1 := (hb.cell (p := ⟨gn, 1, none⟩) hgnz).trans (blk_cell HN3.out 1)
          have k2 := (hb.cell (p := ⟨gn, 2, none⟩) hgnz).trans (blk_cell HN3.out 2)
          simp at q3 k0 k1 k2
          go_simp
          try exact rfl
        apply rs_eq quietRS_ok quiet_any
        · intro ρ w' ho hK
          have ho : Only _ W3 w' := ho
          obtain ⟨h0, -⟩ := hK
          have h0' : ρ (.tmp 9) = _ := h0
          have hb := only_below ho
          have q3 := (hb.cell (p := ⟨b, 3, none⟩) hbz).trans (blk_cell H3.out.box 3)
          have k0 := (hb.cell (p := ⟨gn, 0, none⟩) hgnz).trans (blk_cell HN3.out 0)
          have k1 := (hb.cell (p := ⟨gn, 1, none⟩) hgnz).trans (blk_cell HN3.out 1)
          have k2 := (hb.cell (p := ⟨gn, 2, none⟩) hgnz).trans (blk_cell HN3.out 2)
          simp at q3 k0 k1 k2
          go_simp
          try exact rfl
        apply rs_eq quietRS_ok quiet_any
        · intro ρ w' ho hK
          have ho : Only _ W3 w' := ho
          obtain ⟨h0, h1, -⟩ := hK
          have h0' : ρ (.tmp 50) = _ := h0
          have h1' : ρ (.tmp 51) = _ := h1
          have hlk := HL.out w' (only_below ho)
          go_simp
          try exact rfl
        refine rs_same quietRS_ok quiet_any 52 5 (.inl rfl) rfl _ rfl ?_
        apply rs_eq quietRS_ok quiet_any
        · intro ρ w' ho hK
          have ho : Only _ W3 w' := ho
          obtain ⟨h0, -⟩ := hK
          have h0' : ρ (.tmp 46) = _ := h0
          go_simp
          try exact rfl
        apply rs_eq quietRS_ok quiet_any
        · intro ρ w' ho hK
          have ho : Only _ W3 w' := ho
          obtain ⟨h0, -⟩ := hK
          have h0' : ρ (.tmp 46) = _ := h0
          go_simp
          try exact rfl
        refine rs_same quietRS_ok quiet_any 53 7 (.inr rfl) rfl _ rfl ?_
        refine rs_same quietRS_ok quiet_any 54 8 (.inr rfl) rfl _ rfl ?_
        intro f w9 k9 hk9 hI9 ht9 hcp9
        have E0 : f 0 = _ := ht9 0 (Nat.le_of_ble_eq_true rfl)
        conv at E0 => rhs; whnf
        have E1 : f 1 = _ := ht9 1 (Nat.le_of_ble_eq_true rfl)
        have E2 : f 2 = _ := ht9 2 (Nat.le_of_ble_eq_true rfl)
        have E3 : f 3 = _ := ht9 3 (Nat.le_of_ble_eq_true rfl)
        have E4 : f 4 = _ := ht9 4 (Nat.le_of_ble_eq_true rfl)
        have E5 : f 5 = _ := ht9 5 (Nat.le_of_ble_eq_true rfl)
        have E6 : f 6 = _ := ht9 6 (Nat.le_of_ble_eq_true rfl)
        have E7 : f 7 = _ := ht9 7 (Nat.le_of_ble_eq_true rfl)
        have E8 : f 8 = _ := ht9 8 (Nat.le_of_ble_eq_true rfl)
        have E9 : f 9 = _ := ht9 9 (Nat.le_of_ble_eq_true rfl)
        have E10 : f 10 = _ := ht9 10 (Nat.le_of_ble_eq_true rfl)
        have Ho9 : Only _ W3 w9 := hI9.2.1
        simp only [putAll, E0, E1, E2, E3, E4, E5, E6, E7, E8, E9, E10, Nat.zero_add, Nat.reduceAdd, Act.put, List.setIfInBounds_toArray, List.set_cons_succ, List.set_cons_zero]
        clear E0 E1 E2 E3 E4 E5 E6 E7 E8 E9 E10
        clear hI9 ht9 hcp9 hk9
        have hb9 := only_below Ho9
        have H9 := Lib.hid (H3.out.below hb9)
        have Hb9 := Lib.hid (Hb3.out.trans (hb9.mono (by omega)))
        have HN9 := Lib.hid ((hb9.block gn hgnz).trans HN3.out)
        obtain ⟨W4, hW4⟩ : ∃ W, W = w9 := ⟨_, rfl⟩
        subst hW4
        have hz4 := hb9.size
        obtain ⟨A2, c2, e2⟩ := slice_of_own H9.out.nds
        subst e2
        have q2 := blk_cell H9.out.box 2
        simp at q2
        clear Ho9 hb9 HL H3 HN3 Hb3
        go_wp2_with fail
        have hbz4 : b < W4.heap.size := by omega
        have hgnz4 : gn < W4.heap.size := by omega
        have hNl : NS2.length ≤ 1000 := by omega
        refine wp_region_rsl (quietRS Try.prog _ W4 _) quietRS_ok (by kernel_rfl) (by kernel_rfl) (by kernel_rfl) 6 _ rfl rfl (by kernel_rfl) (show (0 : Nat) < 6 by decide) trivial trivial ?_
        refine rs_old quietRS_ok quiet_any _ (.inl rfl) _ rfl rfl ?_
        apply rs_eq quietRS_ok quiet_any
        · intro ρ w' ho hK
          have ho : Only _ W4 w' := ho
          obtain ⟨h0, -⟩ := hK
          have h0' : ρ (.tmp 62) = _ := h0
          go_simp
          try exact rfl
        apply rs_eq quietRS_ok quiet_any
        · intro ρ w' ho hK
          have ho : Only _ W4 w' := ho
          obtain ⟨h0, -⟩ := hK
          have h0' : ρ (.tmp 63) = _ := h0
          go_simp
          try exact rfl
        apply rs_eq quietRS_ok quiet_any
        · intro ρ w' ho hK
          have ho : Only _ W4 w' := ho
          obtain ⟨h0, -⟩ := hK
          have h0' : ρ (.tmp 64) = _ := h0
          have hb := only_below ho
          have q3 := (hb.cell (p := ⟨b, 3, none⟩) hbz4).trans (blk_cell H9.out.box 3)
          have k0 := (hb.cell (p := ⟨gn, 0, none⟩) hgnz4).trans (blk_cell HN9.out 0)
          have k1 := (hb.cell (p := ⟨gn, 1, none⟩) hgnz4).trans (blk_cell HN9.out 1)
          have k2 := (hb.cell (p := ⟨gn, 2, none⟩) hgnz4).trans (blk_cell HN9.out 2)
          simp at q3 k0 k1 k2
          go_simp
          try exact rfl
        apply rs_eq quietRS_ok quiet_any
        · intro ρ w' ho hK
          have ho : Only _ W4 w' := ho
          obtain ⟨h0, -⟩ := hK
          have h0' : ρ (.tmp 9) = _ := h0
          have hb := only_below ho
          have q3 := (hb.cell (p := ⟨b, 3, none⟩) hbz4).trans (blk_cell H9.out.box 3)
          have k0 := (hb.cell (p := ⟨gn, 0, none⟩) hgnz4).trans (blk_cell HN9.out 0)
          have k1 := (hb.cell (p := ⟨gn, 1, none⟩) hgnz4).trans (blk_cell HN9.out 1)
          have k2 := (hb.cell (p := ⟨gn, 2, none⟩) hgnz4).trans (blk_cell HN9.out 2)
          simp at q3 k0 k1 k2
          go_simp
          try exact rfl
        refine rs_old quietRS_ok quiet_any _ (.inl rfl) _ rfl rfl ?_
        intro f w9 k9 hk9 hI9 ht9 hcp9
        have E0 : f 0 = _ := ht9 0 (Nat.le_of_ble_eq_true rfl)
        conv at E0 => rhs; whnf
        have E1 : f 1 = _ := ht9 1 (Nat.le_of_ble_eq_true rfl)
        have E2 : f 2 = _ := ht9 2 (Nat.le_of_ble_eq_true rfl)
        have E3 : f 3 = _ := ht9 3 (Nat.le_of_ble_eq_true rfl)
        have E4 : f 4 = _ := ht9 4 (Nat.le_of_ble_eq_true rfl)
        have E5 : f 5 = _ := ht9 5 (Nat.le_of_ble_eq_true rfl)
        conv at E5 => rhs; whnf
        have Ho9 : Only _ W4 w9 := hI9.2.1
        simp only [putAll, E0, E1, E2, E3, E4, E5, Nat.zero_add, Nat.reduceAdd, Act.put, List.setIfInBounds_toArray, List.set_cons_succ, List.set_cons_zero, List.take, List.getElem_toArray, List.getElem_cons_succ, List.getElem_cons_zero]
        clear E0 E1 E2 E3 E4 E5
        clear hI9 ht9 hcp9 hk9
        have hb5 := only_below Ho9
        have H5 := Lib.hid (H9.out.below hb5)
        have Hb5 := Lib.hid (Hb9.out.trans (hb5.mono (by omega)))
        have HN5 := Lib.hid ((hb5.block gn hgnz4).trans HN9.out)
        obtain ⟨W5, hW5⟩ : ∃ W, W = w9 := ⟨_, rfl⟩
        subst hW5
        have hz5 := hb5.size
        clear Ho9 hb5 H9 HN9 Hb9 q2
        refine wpList_add_node W5 rfl (.tmp 65) (.tmp 66) (.tmp 67) rfl km2 NS2.length _ rfl H5.out.map (by omega) (v, lo1, hi1) NS2.length HX.out (by omega) rfl rfl ?_
        intro w6 hm6 hg6
        have O6 := Lib.hid (Only.grown (E := fun g => g = km2) hg6 (fun k hk => (Option.some.inj hk).symm))
        have HM6 := Lib.hid hm6
        have hz6 := O6.out.size
        have hbk : b ≠ km2 := H5.out.bm
        have hx6 := (O6.out.block b (by omega) hbk).trans H5.out.box
        have hn6 := (O6.out.block gn (by omega) (by omega)).trans HN5.out
        have hnd6 := own_only H5.out.nds O6.out (fun g hg e => H5.out.nm (by rw [hg, e]))
        have htb6 := own_only H5.out.tab O6.out (fun g hg e => H5.out.tm (by rw [hg, e]))
        have Hx6 := Lib.hid hx6
        have Hn6 := Lib.hid hn6
        have Hnd6 := Lib.hid hnd6
        have Htb6 := Lib.hid htb6
        have hne : ¬ ((Value.slice A2 NS2.length c2).ownBlock = some b) := own_ne_tag hnd6 hx6 (by decide)
        have hne2 : ¬ ((Value.slice A2 NS2.length c2).ownBlock = some gn) := fun e => by have := Hnlt.out gn e; omega
        have hkm : ¬ ((Value.slice A2 NS2.length c2).ownBlock = some km2) := H5.out.nm
        have hbz6 : b < w6.heap.size := by omega
        have hnz6 : gn < w6.heap.size := by omega
        have hB6 : B ≤ w6.heap.size := by omega
        have Hb6 := Lib.hid (Only.below Hb5.out O6.out (by omega) (fun k hk => by have := H5.out.hm; omega))
        have HF := Lib.hid (And.intro H5.out.hb (And.intro H5.out.hm (And.intro H5.out.bm H5.out.tm)))
        clear hm6 hg6 hx6 hn6 hnd6 htb6 H5 HN5 Hb5 O6
        go_wp2_with fail
        obtain ⟨cs, hcs⟩ : ∃ cs, ndC NS2 = cs := ⟨_, rfl⟩
        have Hcs := Lib.hid hcs
        rw [hcs] at Hnd6
        clear hcs
        obtain ⟨i0, hi0, hz0, hz1, hz2⟩ := info_parts info_node
        have hO := fun ops a => appRS2_ok (Pg := Try.prog) (ops := ops) (a := a) (news := [.int .i64 (v : Int), .int .i64 (lo1 : Int), .int .i64 (hi1 : Int)]) (d := 7) (Hnd6.out)
        refine wp_region_rsl (appRS2 Try.prog _ w6 _ (B) 81 3 (Value.slice A2 NS2.length c2) (NS2.length) (cs) [.int .i64 (v : Int), .int .i64 (lo1 : Int), .int .i64 (hi1 : Int)] 7) (hO _ _) (by kernel_rfl) (by kernel_rfl) (by kernel_rfl) 10 _ rfl rfl (by kernel_rfl) (show (7 : Nat) < 10 by decide) trivial Hnd6.out ?_
        refine rs_old (hO _ _) (.inl (Nat.ne_of_beq_eq_false rfl)) _ (.inl rfl) _ rfl rfl ?_
        refine rs_old (hO _ _) (.inl (Nat.ne_of_beq_eq_false rfl)) _ (.inl rfl) _ rfl rfl ?_
        apply rs_eq (hO _ _) (.inl (Nat.ne_of_beq_eq_false rfl))
        · intro ρ w' ho hK
          have ho : Only _ w6 w' := ho
          obtain ⟨h0, -⟩ := hK
          have h0' : ρ (.tmp 69) = _ := h0
          go_simp
          try exact rfl
        apply rs_eq (hO _ _) (.inl (Nat.ne_of_beq_eq_false rfl))
        · intro ρ w' ho hK
          have ho : Only _ w6 w' := ho
          obtain ⟨h0, -⟩ := hK
          have h0' : ρ (.tmp 70) = _ := h0
          go_simp
          try exact rfl
        apply rs_eq (hO _ _) (.inl (Nat.ne_of_beq_eq_false rfl))
        · intro ρ w' ho hK
          have ho : Only _ w6 w' := ho
          obtain ⟨h0, -⟩ := hK
          have h0' : ρ (.tmp 71) = _ := h0
          have q2 := cell_on ho (fun e => hne e) hbz6 (blk_cell Hx6.out 2)
          have k0 := cell_on ho (fun e => hne2 e) hnz6 (blk_cell Hn6.out 0)
          have k1 := cell_on ho (fun e => hne2 e) hnz6 (blk_cell Hn6.out 1)
          have k2 := cell_on ho (fun e => hne2 e) hnz6 (blk_cell Hn6.out 2)
          simp at q2 k0 k1 k2
          go_simp
          try exact rfl
        apply rs_eq (hO _ _) (.inl (Nat.ne_of_beq_eq_false rfl))
        · intro ρ w' ho hK
          have ho : Only _ w6 w' := ho
          obtain ⟨h0, -⟩ := hK
          have h0' : ρ (.tmp 9) = _ := h0
          have q2 := cell_on ho (fun e => hne e) hbz6 (blk_cell Hx6.out 2)
          have k0 := cell_on ho (fun e => hne2 e) hnz6 (blk_cell Hn6.out 0)
          have k1 := cell_on ho (fun e => hne2 e) hnz6 (blk_cell Hn6.out 1)
          have k2 := cell_on ho (fun e => hne2 e) hnz6 (blk_cell Hn6.out 2)
          simp at q2 k0 k1 k2
          go_simp
          try exact rfl
        refine rs_build1 (hO _ _) (.inl (Nat.ne_of_beq_eq_false rfl)) 3 [.int .i64 (v : Int), .int .i64 (lo1 : Int), .int .i64 (hi1 : Int)] 81 rfl (fun ρ w' ho hK => by
          have ho : Only _ w6 w' := ho
          obtain ⟨h0, -⟩ := hK
          have h0' : ρ (.tmp 73) = _ := h0
          go_simp) ?_
        refine rs_append2 rfl (B) 81 41 3 (Value.slice A2 NS2.length c2) (NS2.length) (cs) _ rfl rfl (fun g hg => hg) (show B ≤ w6.heap.size by omega) _ _ rfl _ _ rfl rfl rfl rfl i0 _ 24 Try.underlying41 hi0 hz0 hz1 hz2 rfl (by decide) (by omega) (by decide) (by simp [Value.oneCell']) ?_
        apply rs_eq (hO _ _) (.inl (Nat.ne_of_beq_eq_false rfl))
        · intro ρ w' ho hK
          have ho : Only _ w6 w' := ho
          obtain ⟨h0, -⟩ := hK
          have h0' : ρ (.tmp 68) = _ := h0
          go_simp
          try exact rfl
        apply rs_eq (hO _ _) (.inl (Nat.ne_of_beq_eq_false rfl))
        · intro ρ w' ho hK
          have ho : Only _ w6 w' := ho
          obtain ⟨h0, -⟩ := hK
          have h0' : ρ (.tmp 76) = _ := h0
          go_simp
          try exact rfl
        intro f w9 k9 hk9 hI9 ht9 hcp9
        have E0 : f 0 = _ := ht9 0 (Nat.le_of_ble_eq_true rfl)
        conv at E0 => rhs; whnf
        have E1 : f 1 = _ := ht9 1 (Nat.le_of_ble_eq_true rfl)
        conv at E1 => rhs; whnf
        have E2 : f 2 = _ := ht9 2 (Nat.le_of_ble_eq_true rfl)
        have E3 : f 3 = _ := ht9 3 (Nat.le_of_ble_eq_true rfl)
        have E4 : f 4 = _ := ht9 4 (Nat.le_of_ble_eq_true rfl)
        have E5 : f 5 = _ := ht9 5 (Nat.le_of_ble_eq_true rfl)
        have E6 : (TNew _ 3 1 [.int .i64 (v : Int), .int .i64 (lo1 : Int), .int .i64 (hi1 : Int)]) w9 (f 6) := ht9 6 (Nat.le_of_ble_eq_true rfl)
        have E7 : (TAny) w9 (f 7) := ht9 7 (Nat.le_of_ble_eq_true rfl)
        have E8 : f 8 = _ := ht9 8 (Nat.le_of_ble_eq_true rfl)
        have E9 : f 9 = _ := ht9 9 (Nat.le_of_ble_eq_true rfl)
        have Ho9 : Only _ w6 w9 := hI9.2.1
        have hown9 : w9.ownsRow (B) 81 3 (f 7) (NS2.length + 1) (cs ++ [.int .i64 (v : Int), .int .i64 (lo1 : Int), .int .i64 (hi1 : Int)]) := hI9.2.2.1
        have hat9 : ∀ g, (f 7).ownBlock = some g → (Value.slice A2 NS2.length c2).ownBlock = some g ∨ w6.heap.size ≤ g := hI9.2.2.2
        simp only [putAll, E0, E1, E2, E3, E4, E5, E8, E9, Nat.zero_add, Nat.reduceAdd, Act.put, List.setIfInBounds_toArray, List.set_cons_succ, List.set_cons_zero, List.take, List.getElem_toArray, List.getElem_cons_succ, List.getElem_cons_zero]
        clear E0 E1 E2 E3 E4 E5 E8 E9
        clear hI9 ht9 hcp9 hk9
        generalize f 6 = r6 at *
        generalize f 7 = r7 at *
        have O9 : Only (fun g => (Value.slice A2 NS2.length c2).ownBlock = some g) w6 w9 := Ho9
        obtain ⟨A7, c7, hv7⟩ := slice_of_own hown9
        subst hv7
        have hx9 := (O9.block b hbz6 hne).trans Hx6.out
        have HM9 := Lib.hid (HM6.out.only O9 hkm)
        have htb9 := own_only Htb6.out O9 (fun g hg e => own_ne_own Htb6.out Hnd6.out (by decide) hg e)
        have hbb9 := Only.below Hb6.out O9 hB6 (fun k hk => by have := (Hnd6.out.lt k hk).1; omega)
        have q2 := blk_cell hx9 2
        have f2 := blk_free hx9 2
        simp at q2
        have hx10 := heap_setCell_same w9 b 2 _ _ (.slice A7 (NS2.length + 1) c7) hx9
        simp at hx10
        have hOs := set1_only w9 b 2 (.slice A7 (NS2.length + 1) c7)
        have hz9 := O9.size
        have hat : ∀ g, (Value.slice A7 (NS2.length + 1) c7).ownBlock = some g → g ≠ km2 := fun g hg e => by
          rcases hat9 g hg with h | h
          · exact hkm (by rw [h, e])
          · omega
        have HFin : Hid (BMem B b vT T n (NS2 ++ [(v, lo1, hi1)]) (.slice A7 (NS2.length + 1) c7) km2 (w9.setCell ⟨b, 2, none⟩ (.slice A7 (NS2.length + 1) c7))) := Lib.hid (by
          have hl : (NS2 ++ [(v, lo1, hi1)]).length = NS2.length + 1 := by rw [List.length_append]; rfl
          refine ⟨hx10, own_only htb9 hOs (fun g hg e => own_ne_tag htb9 hx9 (by decide) (by rw [hg, e])), ?_, ?_, HF.out.1, HF.out.2.1, HF.out.2.2.1, fun e => hat km2 e rfl, HF.out.2.2.2⟩
          · rw [hl, ndC_snoc, Hcs.out]
            exact own_only hown9 hOs (fun g hg e => own_ne_tag hown9 hx9 (by decide) (by rw [hg, e]))
          · rw [hl, Bdd.kn_snoc h2l HK.out]
            exact HM9.out.only hOs (fun e => HF.out.2.2.1 e.symm))
        have HBf := Lib.hid (Only.below hbb9 hOs (by omega) (fun k hk => by have := HF.out.1; omega))
        clear Ho9 O9 hx9 HM9 htb9 hbb9 hown9 hat9 hO hx10 hOs hat Hx6 Hn6 Hnd6 Htb6 Hb6 HM6 hne hne2 hkm
        go_wp2_with fail
        go_ret
        exact ⟨by rw [HE.out]; rfl, ⟨_, km2, by rw [HE.out]; exact HFin.out⟩, HBf.out⟩
end Go.Proofs.Ytkkkjbinfdohpaa

namespace Go.Proofs.Ytkkkjbinfdohpaa
open Go.RowKit Go.Maps
set_option maxRecDepth 100000
set_option maxHeartbeats 8000000
/-! The diagram of a literal, by the program. -/
def BddOk (w : World) (v : Value) (NS : List Nd) (root : Nat) : Prop := ∃ A c, v = .agg #[.slice A NS.length c, .int .i64 (root : Int)] ∧ Row w 3 (.slice A NS.length c) NS.length (ndC NS)
theorem BddOk.below {w w' : World} {v : Value} {NS : List Nd} {root : Nat} (h : BddOk w v NS root) (hb : Below w.heap.size w w') : BddOk w' v NS root := by
  obtain ⟨A, c, e, h⟩ := h
  exact ⟨A, c, e, Row.below h hb⟩
theorem NAt.mono {w : World} {b n n' : Nat} {f : Nd → Option Nat} (h : NAt w b n f) (hn : n ≤ n') : NAt w b n' f := by
  obtain ⟨D, h1, h2⟩ := h
  exact ⟨D, h1.mono hn, h2⟩
theorem made6 : madeCells #[Value.int .i64 0, Value.int .i64 0, Value.int .i64 0] 6 = #[Value.int .i64 0, Value.int .i64 0, Value.int .i64 0, Value.int .i64 0, Value.int .i64 0, Value.int .i64 0] := by
  apply Array.ext
  · simp [madeCells]
  · intro i h1 h2
    have h6 : i < 6 := h2
    rcases (show i = 0 ∨ i = 1 ∨ i = 2 ∨ i = 3 ∨ i = 4 ∨ i = 5 by omega) with rfl | rfl | rfl | rfl | rfl | rfl <;> simp [madeCells]
def two0 : List Nd := [(0, 0, 0), (0, 0, 0)]
theorem kn_two : Bdd.kn two0 = fun _ => none := by funext x; rfl
theorem nok_two (n : Nat) : Bdd.NOk n two0 := ⟨by simp [two0], rfl, rfl, fun i v l h hi hg => by
    have := (List.getElem?_eq_some_iff.1 hg).1
    simp [two0] at this
    omega, fun i j x hi hj hg => by
    have := (List.getElem?_eq_some_iff.1 hg).1
    simp [two0] at this
    omega⟩
theorem map_ne {w : World} {size n km m : Nat} {v : Value} {cs : List Value} {f : Nd → Option Nat} {B' : Nat} {t : TypeId} (h : w.ownsRow B' t size v n cs) (hm : NAt w km m f) : v.ownBlock ≠ some km := by
  intro he
  obtain ⟨D, ⟨es, clock, h1, -⟩, -⟩ := hm
  rcases h.2 with ⟨rfl, -⟩ | ⟨k, cap, cur, rfl, -, hk, -⟩
  · cases he
  · obtain rfl : k = km := Option.some.inj he
    rw [hk] at h1
    cases h1
def TMapN (B : Nat) : Ty := fun w v => ∃ k, v = .map (some k) ∧ B ≤ k ∧ NAt w k 0 (fun _ => none)
theorem stb_mapN (B : Nat) : Stb (fun _ => False) (TMapN B) := fun _ _ _ ⟨k, h1, h2, h3⟩ ho => ⟨k, h1, h2, h3.only ho id⟩
def TMk (B n : Nat) (T : List Bool) : Ty := fun w v => ∃ vT vN k, v = .agg #[vT, .int .i64 (n : Int), vN, .map (some k)] ∧ w.ownsRow 0 4 1 vT T.length (bools T) ∧ w.ownsRow B 81 3 vN 2 (ndC two0) ∧ B ≤ k ∧ NAt w k 0 (fun _ => none)
theorem stb_mk (B n : Nat) (T : List Bool) : Stb (fun _ => False) (TMk B n T) := fun _ _ _ ⟨vT, vN, k, h1, h2, h3, h4, h5⟩ ho => ⟨vT, vN, k, h1, own_below h2 (only_below ho), own_below h3 (only_below ho), h4, h5.only ho id⟩
def TBM (B n : Nat) (T : List Bool) : Ty := fun w v => ∃ b vT vN k, v = .pointer (some ⟨b, 0, none⟩) ∧ BMem B b vT T n two0 vN k w
theorem stb_bm (B n : Nat) (T : List Bool) : Stb (fun _ => False) (TBM B n T) := fun _ _ _ ⟨b, vT, vN, k, h1, h2⟩ ho => ⟨b, vT, vN, k, h1, h2.below (only_below ho)⟩
theorem buildBdd_any (v : Value) (d : Ci) (l : Nat) (w : World) (h : CircAt w v (Cir.toCz d)) (hd : Cir.Ok d) (hv : Cir.valid (Cir.toCz d) = true) (hl : l < 2 * Cir.nvars d) :
    Calls Try.prog 16 #[v, .int .i64 (l : Int)] w fun e w' => ∃ v', e = .returned v' ∧ BddOk w' v' (Bdd.bld (Cir.litTab d l (2 ^ (d.ins + d.next.length))) (d.ins + d.next.length) (d.ins + d.next.length) 0 two0).2 (Bdd.bld (Cir.litTab d l (2 ^ (d.ins + d.next.length))) (d.ins + d.next.length) (d.ins + d.next.length) 0 two0).1 ∧ Below w.heap.size w w' := by
  have s1 := hd.ins
  have s2 := hd.nexts
  have s3 := hd.gatess
  have H1 := Lib.hid h
  obtain ⟨An, cn, Ag, cg, Ao, co, rfl⟩ := h.shape
  have hln : (Cir.toCz d).next.length = d.next.length := List.length_map _
  have hlg : (Cir.toCz d).gates.length = d.gates.length := List.length_map _
  have hlo : (Cir.toCz d).outs.length = d.outs.length := List.length_map _
  have hins : (Cir.toCz d).ins = (d.ins : Int) := rfl
  obtain ⟨vn, vg, vo, e, r1, r2, r3⟩ := H1.out
  injection e with e
  simp only [Array.mk.injEq, List.cons.injEq, and_true] at e
  obtain ⟨-, e1, e2, e3⟩ := e
  subst e1 e2 e3
  have hP := PCirc.boxed (w := w) (c := Cir.toCz d) 26 r1 r2 r3
  rw [hln, hlg, hlo, hins] at H1 hP ⊢
  have P1 := PCells.boxed w (d.ins : Int) (.slice An d.next.length cn) (.slice Ag d.gates.length cg) (.slice Ao d.outs.length co) 26
  have hb1 := bel_new w (.cells #[.int .i64 (d.ins : Int), .slice An d.next.length cn, .slice Ag d.gates.length cg, .slice Ao d.outs.length co] 26)
  obtain ⟨W1, hW1⟩ : ∃ W1, w.alloc (.cells #[.int .i64 (d.ins : Int), .slice An d.next.length cn, .slice Ag d.gates.length cg, .slice Ao d.outs.length co] 26) = W1 := ⟨_, rfl⟩
  rw [hW1] at hb1 P1 hP
  obtain ⟨gC, hgC⟩ : ∃ g, w.heap.size = g := ⟨_, rfl⟩
  rw [hgC] at P1 hP
  have HB1 := Lib.hid hb1
  have HP1 := Lib.hid hP
  have PC1 := Lib.hid P1
  have HW := Lib.hid (And.intro hW1 hgC)
  have HV : Hid (∀ w', Below W1.heap.size W1 w' → Calls Try.prog 38 #[.agg #[.int .i64 (d.ins : Int), .slice An d.next.length cn, .slice Ag d.gates.length cg, .slice Ao d.outs.length co]] w' fun e w'' => e = .returned (.bool true) ∧ Below w'.heap.size w' w'') := Lib.hid fun w' hb => by
    have := implValid_any _ _ w' (H1.out.below (HB1.out.trans (hb.mono HB1.out.size)))
    rwa [hv] at this
  have HVs : Hid (∀ w', Below W1.heap.size W1 w' → Calls Try.prog 40 #[.pointer (some ⟨gC, 0, none⟩)] w' fun e w'' => e = .returned (.int .i64 (Cir.nvars d : Nat)) ∧ Below w'.heap.size w' w'') := Lib.hid fun w' hb => by
    have := vars_any gC (Cir.toCz d) w' (HP1.out.below hb) (by show (0 : Int) ≤ (d.ins : Int); omega) (by show (d.ins : Int) ≤ 100; omega) (by rw [hln]; omega) (by rw [hlg]; omega)
    rwa [Cir.vars_toCz] at this
  have hnv : Cir.nvars d ≤ 22 := by unfold Cir.nvars Cir.nfirst; omega
  have HI : Hid (∀ w', Calls Try.prog 39 #[.int .i64 (l : Int), .int .i64 (Cir.nvars d : Nat)] w' fun e w'' => e = .returned (.bool true) ∧ w' = w'') := Lib.hid fun w' => by
    have := isLit_any (l : Int) (Cir.nvars d : Nat) w' (by omega) (by omega)
    rwa [show Cir.isLit (l : Int) (Cir.nvars d : Nat) = true from by unfold Cir.isLit; rw [decide_eq_true_eq]; omega] at this
  obtain ⟨NV, hNV⟩ : ∃ NV, NV = Cir.nvars d := ⟨_, rfl⟩
  rw [← hNV] at HVs HI
  have HLT : Hid (∀ w', Below W1.heap.size W1 w' → Calls Try.prog 41 #[.pointer (some ⟨gC, 0, none⟩), .int .i64 (l : Int)] w' (OwnBools (Cir.litTab d l (2 ^ (d.ins + d.next.length))) w')) := Lib.hid fun w' hb => litTable_any gC d l w' (HP1.out.below hb) hd hl
  obtain ⟨n, hn⟩ : ∃ n, n = d.ins + d.next.length := ⟨_, rfl⟩
  have hn7 : n ≤ 7 := by omega
  have hTl : (Cir.litTab d l (2 ^ n)).length = 2 ^ n := Cir.litTab_length _ _ _
  rw [← hn] at HLT ⊢
  obtain ⟨T, hT⟩ : ∃ T, T = Cir.litTab d l (2 ^ n) := ⟨_, rfl⟩
  rw [← hT] at HLT hTl ⊢
  have hnI : (d.ins : Int) + (d.next.length : Int) = (n : Int) := by omega
  have hwn := IntWalk.i64_in (n : Int) (by omega)
  have h128 : 2 ^ n ≤ 2 ^ 7 := Nat.pow_le_pow_right (show 0 < 2 by decide) hn7
  have hR2 := heap_alloc_new W1 (.cells #[.slice none 0 0, .int .i64 0] 43)
  have hb2 := bel_new W1 (.cells #[.slice none 0 0, .int .i64 0] 43)
  obtain ⟨W2, hW2⟩ : ∃ W2, W1.alloc (.cells #[.slice none 0 0, .int .i64 0] 43) = W2 := ⟨_, rfl⟩
  rw [hW2] at hR2 hb2
  have hz1 : W1.heap.size = gC + 1 := by rw [← hW1, ← hgC]; simp
  rw [hz1] at hR2
  have HR2 := Lib.hid hR2
  have HB2 := Lib.hid hb2
  have HW2 := Lib.hid hW2
  obtain ⟨z, p0, p1, p2, p3⟩ := PC1.out.below hb2
  have hwC : Hid (w.heap.size ≤ gC) := Lib.hid (by omega)
  clear h hd hv hln hlg hlo hins hb1 hW1 hP r1 r2 r3 hNV hl hgC hR2 hb2 hW2 hn hT
  go_enter Try.func16, Try.ntmps16
  go_wp2_with fail
  rw [HW.out.1, HW2.out]
  try rw [HW.out.2]
  refine (HV.out _ HB2.out).mono ?_
  rintro e w3 ⟨rfl, hb3⟩
  have HB3 := Lib.hid (HB2.out.trans (hb3.mono HB2.out.size))
  have HR3 := Lib.hid ((hb3.block (gC + 1) (Array.getElem?_eq_some_iff.1 HR2.out).1).trans HR2.out)
  clear hb3 HV z p0 p1 p2 p3 HB2 HR2
  go_wp2_with fail
  refine (HVs.out _ HB3.out).mono ?_
  rintro e w4 ⟨rfl, hb4⟩
  have HB4 := Lib.hid (HB3.out.trans (hb4.mono HB3.out.size))
  have HR4 := Lib.hid ((hb4.block (gC + 1) (Array.getElem?_eq_some_iff.1 HR3.out).1).trans HR3.out)
  clear hb4 HVs HB3 HR3
  go_wp2_with fail
  refine (HI.out _).mono ?_
  rintro e w5 ⟨rfl, rfl⟩
  clear HI
  have hz4 := HB4.out.size
  have hmk := run_make_any (P := Try.prog) 41 81 _ 3 24 Try.underlying41 info_node .i64 .i64 2 (by omega) (by omega)
  simp at hmk
  have hmm := @run_makeMap Try.prog
  have hgRz := (Array.getElem?_eq_some_iff.1 HR4.out).1
  go_wp2_with fail
  refine wp_region_rs (quietRS Try.prog _ w4 _) quietRS_ok (by kernel_rfl) (by kernel_rfl) (by kernel_rfl) (Nat.le_of_ble_eq_true rfl) trivial trivial ?_
  refine rs_old quietRS_ok quiet_any _ (.inl rfl) _ rfl rfl ?_
  refine rs_call quietRS_ok quiet_any (TOwn 0 4 1 T.length (bools T)) (stb_own (fun _ h => h.elim) _ _ _ _) 41 _ _ rfl (fun ρ w' ho hK => by
    have ho : Only _ w4 w' := ho
    obtain ⟨h0, h1, h2, -⟩ := hK
    have h0' : ρ (.func 41) = .func (.func 41) #[] #[] := h0
    have h1' : ρ (.tmp 2) = _ := h1
    have h2' : ρ (.tmp 17) = _ := h2
    refine ⟨#[ρ (.tmp 2), ρ (.tmp 17)], ?_, ?_⟩
    · go_simp
    · rw [h1', h2']
      refine (HLT.out w' (HB4.out.trans ((only_below ho).mono HB4.out.size))).mono ?_
      rintro e w2 ⟨v2, rfl, hO, hb⟩
      exact ⟨v2, rfl, own_mono hO (Nat.zero_le _), hb⟩) ?_
  apply rs_eq quietRS_ok quiet_any
  · intro ρ w' ho hK
    have ho : Only _ w4 w' := ho
    obtain ⟨h0, -⟩ := hK
    have h0' : ρ (.tmp 2) = _ := h0
    go_simp
    try exact rfl
  apply rs_eq quietRS_ok quiet_any
  · intro ρ w' ho hK
    have ho : Only _ w4 w' := ho
    obtain ⟨h0, -⟩ := hK
    have h0' : ρ (.tmp 19) = _ := h0
    obtain ⟨-, q0, q1, q2, q3⟩ := PC1.out.below (HB4.out.trans ((only_below ho).mono HB4.out.size))
    go_simp
    try exact rfl
  apply rs_eq quietRS_ok quiet_any
  · intro ρ w' ho hK
    have ho : Only _ w4 w' := ho
    obtain ⟨h0, -⟩ := hK
    have h0' : ρ (.tmp 2) = _ := h0
    go_simp
    try exact rfl
  apply rs_eq quietRS_ok quiet_any
  · intro ρ w' ho hK
    have ho : Only _ w4 w' := ho
    obtain ⟨h0, -⟩ := hK
    have h0' : ρ (.tmp 21) = _ := h0
    obtain ⟨-, q0, q1, q2, q3⟩ := PC1.out.below (HB4.out.trans ((only_below ho).mono HB4.out.size))
    go_simp
    try exact rfl
  apply rs_eq quietRS_ok quiet_any
  · intro ρ w' ho hK
    have ho : Only _ w4 w' := ho
    obtain ⟨h0, -⟩ := hK
    have h0' : ρ (.tmp 22) = _ := h0
    go_simp
    try exact rfl
  apply rs_eq quietRS_ok quiet_any
  · intro ρ w' ho hK
    have ho : Only _ w4 w' := ho
    obtain ⟨h0, h1, -⟩ := hK
    have h0' : ρ (.tmp 20) = _ := h0
    have h1' : ρ (.tmp 23) = _ := h1
    go_simp
    try exact rfl
  refine rs_alloc quietRS_ok quiet_any (TOwn w4.heap.size 81 3 2 (ndC two0)) (stb_own (fun _ h => h.elim) _ _ _ _) (fun ρ w' ho hK => by
    obtain ⟨h0, h1, -⟩ := hK
    have h0' : ρ (.const (.int .i64 2)) = .int .i64 2 := h0
    refine ⟨.slice (some ⟨w'.heap.size, 0, none⟩) 2 2, .cells #[.int .i64 0, .int .i64 0, .int .i64 0, .int .i64 0, .int .i64 0, .int .i64 0] 81, ?_, ?_⟩
    · go_simp
      rw [made6]
    · exact World.ownsRow_lit (base := w4.heap.size) (e := 81) (size := 3) w' #[.int .i64 0, .int .i64 0, .int .i64 0, .int .i64 0, .int .i64 0, .int .i64 0] 2 ho.size (by unfold maxLen; omega) rfl) ?_
  refine rs_alloc quietRS_ok quiet_any (TMapN w4.heap.size) (stb_mapN _) (fun ρ w' ho hK => by
    refine ⟨.map (some w'.heap.size), .map #[] 0, ?_, w'.heap.size, rfl, ho.size, nAt_made w'⟩
    go_simp) ?_
  refine rs_look quietRS_ok quiet_any (TMk w4.heap.size n T) (stb_mk _ _ _) (fun ρ w' ho hK => by
    obtain ⟨h0, h1, h2, ⟨k, h3, h4, h5⟩, -⟩ := hK
    have h0' : w'.ownsRow 0 4 1 (ρ (.tmp 18)) T.length (bools T) := h0
    have h1' : ρ (.tmp 24) = .int .i64 (n : Int) := h1
    have h2' : w'.ownsRow w4.heap.size 81 3 (ρ (.tmp 25)) 2 (ndC two0) := h2
    obtain ⟨A0, c0, e0⟩ := slice_of_own h0'
    obtain ⟨A2, c2, e2⟩ := slice_of_own h2'
    rw [e0] at h0'
    rw [e2] at h2'
    refine ⟨.agg #[.slice A0 T.length c0, .int .i64 (n : Int), .slice A2 2 c2, .map (some k)], ?_, _, _, k, rfl, h0', h2', h4, h5⟩
    go_simp) ?_
  refine rs_alloc quietRS_ok quiet_any (TBM w4.heap.size n T) (stb_bm _ _ _) (fun ρ w' ho hK => by
    obtain ⟨⟨vT, vN, k, h0, h1, h2, h3, h4⟩, -⟩ := hK
    have h0' : ρ (.tmp 27) = .agg #[vT, .int .i64 (n : Int), vN, .map (some k)] := h0
    obtain ⟨A0, c0, e0⟩ := slice_of_own h1
    obtain ⟨A2, c2, e2⟩ := slice_of_own h2
    subst e0 e2
    have hbb := bel_new w' (.cells #[.slice A0 T.length c0, .int .i64 (n : Int), .slice A2 2 c2, .map (some k)] 86)
    have hlt := h4.lt
    refine ⟨.pointer (some ⟨w'.heap.size, 0, none⟩), .cells #[.slice A0 T.length c0, .int .i64 (n : Int), .slice A2 2 c2, .map (some k)] 86, ?_, w'.heap.size, _, _, k, rfl, ⟨heap_alloc_new _ _, own_below h1 hbb, own_below h2 hbb, ?_, ho.size, h3, by omega, map_ne h2 h4, map_ne h1 h4⟩⟩
    · go_simp
    · rw [kn_two]
      exact (h4.below hbb).mono (Nat.zero_le _)) ?_
  refine rs_same quietRS_ok quiet_any 28 11 (.inr rfl) rfl _ rfl ?_
  intro f w9 k9 hk9 hI9 ht9 hcp9
  have E0 : f 0 = _ := ht9 0 (Nat.le_of_ble_eq_true rfl)
  conv at E0 => rhs; whnf
  have E1 : (TOwn 0 4 1 T.length (bools T)) w9 (f 1) := ht9 1 (Nat.le_of_ble_eq_true rfl)
  have E2 : f 2 = _ := ht9 2 (Nat.le_of_ble_eq_true rfl)
  have E3 : f 3 = _ := ht9 3 (Nat.le_of_ble_eq_true rfl)
  have E4 : f 4 = _ := ht9 4 (Nat.le_of_ble_eq_true rfl)
  have E5 : f 5 = _ := ht9 5 (Nat.le_of_ble_eq_true rfl)
  have E6 : f 6 = _ := ht9 6 (Nat.le_of_ble_eq_true rfl)
  have E7 : f 7 = _ := ht9 7 (Nat.le_of_ble_eq_true rfl)
  have E8 : (TOwn w4.heap.size 81 3 2 (ndC two0)) w9 (f 8) := ht9 8 (Nat.le_of_ble_eq_true rfl)
  have E9 : (TMapN w4.heap.size) w9 (f 9) := ht9 9 (Nat.le_of_ble_eq_true rfl)
  have E10 : (TMk w4.heap.size n T) w9 (f 10) := ht9 10 (Nat.le_of_ble_eq_true rfl)
  have E11 : (TBM w4.heap.size n T) w9 (f 11) := ht9 11 (Nat.le_of_ble_eq_true rfl)
  have E12 : (TBM w4.heap.size n T) w9 (f 12) := ht9 12 (Nat.le_of_ble_eq_true rfl)
  have Ho9 : Only _ w4 w9 := hI9.2.1
  have C12 : f 12 = f 11 := (hcp9 12 _ 28 11 rfl rfl rfl rfl).2
  simp only [putAll, E0, E2, E3, E4, E5, E6, E7, C12, Nat.zero_add, Nat.reduceAdd, Act.put, List.setIfInBounds_toArray, List.set_cons_succ, List.set_cons_zero]
  clear E0 E2 E3 E4 E5 E6 E7
  clear hI9 ht9 hcp9 hk9
  generalize f 1 = r1 at *
  generalize f 8 = r8 at *
  generalize f 9 = r9 at *
  generalize f 10 = r10 at *
  generalize f 11 = r11 at *
  have hb9 := only_below Ho9
  obtain ⟨b, vT, vN, km, e11, hM⟩ : ∃ b vT vN k, r11 = .pointer (some ⟨b, 0, none⟩) ∧ BMem w4.heap.size b vT T n two0 vN k w9 := E11
  subst e11
  have hBw := hb9.size
  have HC : Hid (Calls Try.prog 56 #[.pointer (some ⟨b, 0, none⟩), .int .i64 0, .int .i64 0] w9 (BGive w4.heap.size b vT T n (Bdd.bld T n n 0 two0) w9)) := Lib.hid (by
    have := build_any w4.heap.size b vT T n hTl hn7 n 0 two0 vN km w9 hM (Nat.le_refl _) (by rw [Nat.sub_self]; decide) (nok_two n) (by simp [two0]; omega) hBw
    rw [Nat.sub_self] at this
    exact this)
  have HB9 := Lib.hid (HB4.out.trans (hb9.mono hz4))
  have HR9 := Lib.hid ((hb9.block (gC + 1) hgRz).trans HR4.out)
  clear Ho9 hb9 hM E1 E8 E9 E10 HR4 HB4 hmk hmm
  go_wp2_with fail
  refine HC.out.mono ?_
  rintro e w6 ⟨rfl, ⟨vN6, km6, hM6⟩, hb6⟩
  obtain ⟨r, hrr⟩ : ∃ r, Bdd.bld T n n 0 two0 = r := ⟨_, rfl⟩
  have HRr := Lib.hid hrr
  rw [hrr] at hM6 ⊢
  clear hrr
  obtain ⟨root, NS⟩ := r
  simp only at hM6
  obtain ⟨A6, c6, e6⟩ := slice_of_own hM6.nds
  subst e6
  have HR6 := Lib.hid ((hb6.block (gC + 1) hgRz).trans HR9.out)
  have HB6 : Hid (Below w.heap.size w w6) := Lib.hid (HB1.out.trans ((HB9.out.trans (hb6.mono hz4)).mono HB1.out.size))
  have HN6 := Lib.hid hM6.nds
  have q2 := blk_cell hM6.box 2
  have r0 := blk_cell HR6.out 0
  have r1 := blk_cell HR6.out 1
  have f0 := blk_free HR6.out 0
  have f1 := blk_free HR6.out 1
  simp at q2 r0 r1
  have nt := own_ne_tag hM6.nds HR6.out (by decide)
  have HRow := Lib.hid (own_setN (i := 1) (u := .int .i64 (root : Int)) (own_setN (i := 0) (u := .slice A6 NS.length c6) hM6.nds nt) nt)
  have HBf := Lib.hid ((HB6.out.setCell (p := ⟨gC + 1, 0, none⟩) (by have := hwC.out; simp only; omega) (.slice A6 NS.length c6)).setCell (p := ⟨gC + 1, 1, none⟩) (by have := hwC.out; simp only; omega) (.int .i64 (root : Int)))
  clear hM6 hb6 HC HB9 HR9 nt
  go_wp2_with fail
  refine bodyPost_ret (v := .agg #[.slice A6 NS.length c6, .int .i64 (root : Int)]) (by simp [results, Try.results16, go_sem, r0, r1]) rfl ⟨_, rfl, ?_, HBf.out⟩
  rw [HRr.out]
  exact ⟨A6, c6, rfl, Row.of_own HRow.out⟩
end Go.Proofs.Ytkkkjbinfdohpaa

namespace Go.Proofs.Ytkkkjbinfdohpaa
open Go.RowKit Go.Op Go.Instr
theorem cube_neq (w : World) (a b c d : Int) : (binOp .neq 35 (.agg #[.int .i64 a, .int .i64 b]) (.agg #[.int .i64 c, .int .i64 d])).run Try.prog w = .ok (.bool (!decide ((a, b) = (c, d)))) w := by
  have u3 := Try.underlying3
  have hS : Try.prog.underlying 35 = some (.struct (Try.prog.fieldsOf 35)) := by kernel_rfl
  have hp : Try.prog.stoodInHeld 35 = false := by kernel_rfl
  rw [run_neq_struct, show (10000 : Nat) = 9999 + 1 from rfl, run_equalIn_agg w 9999 35 _ _ hS hp]
  simp only [Program.fieldsOf, Try.underlying35]
  go_simp
  by_cases h1 : a = c <;> by_cases h2 : b = d <;> simp [h1, h2]
theorem cube_guard : Try.prog.eqGuardType Try.prog.depth 35 = false := by kernel_rfl
end Go.Proofs.Ytkkkjbinfdohpaa

namespace Go.Proofs.Ytkkkjbinfdohpaa
open Go.RowKit Go.Maps Go.Op Go.Instr
set_option maxRecDepth 100000
set_option maxHeartbeats 8000000
/-! A diagram is valid, by the program. -/
theorem node_neq (w : World) (a b c a' b' c' : Int) : (binOp .neq 81 (.agg #[.int .i64 a, .int .i64 b, .int .i64 c]) (.agg #[.int .i64 a', .int .i64 b', .int .i64 c'])).run Try.prog w = .ok (.bool (!decide ((a, b, c) = (a', b', c')))) w := by
  have u3 := Try.underlying3
  have hS : Try.prog.underlying 81 = some (.struct (Try.prog.fieldsOf 81)) := by kernel_rfl
  have hp : Try.prog.stoodInHeld 81 = false := by kernel_rfl
  rw [run_neq_struct, show (10000 : Nat) = 9999 + 1 from rfl, run_equalIn_agg w 9999 81 _ _ hS hp]
  simp only [Program.fieldsOf, Try.underlying81]
  go_simp
  by_cases h1 : a = a' <;> by_cases h2 : b = b' <;> by_cases h3 : c = c' <;> simp [h1, h2, h3]
theorem node_guard : Try.prog.eqGuardType Try.prog.depth 81 = false := by kernel_rfl
theorem ndC_len (NS : List Nd) : (ndC NS).length = NS.length * 3 := by
  induction NS with
  | nil => rfl
  | cons x NS ih =>
    have e : ndC (x :: NS) = .int .i64 (x.1 : Int) :: .int .i64 (x.2.1 : Int) :: .int .i64 (x.2.2 : Int) :: ndC NS := rfl
    rw [e]
    simp only [List.length_cons, ih]
    omega
theorem ndC_get : ∀ {NS : List Nd} {i : Nat} {x : Nd}, NS[i]? = some x → (ndC NS)[i * 3]? = some (.int .i64 (x.1 : Int)) ∧ (ndC NS)[i * 3 + 1]? = some (.int .i64 (x.2.1 : Int)) ∧ (ndC NS)[i * 3 + 2]? = some (.int .i64 (x.2.2 : Int))
  | [], i, x, h => by simp at h
  | y :: NS, 0, x, h => by
    have e : y = x := by simpa using h
    subst e
    exact ⟨rfl, rfl, rfl⟩
  | y :: NS, i + 1, x, h => by
    have h' : NS[i]? = some x := by simpa using h
    obtain ⟨a, b, c⟩ := ndC_get h'
    have e : ndC (y :: NS) = .int .i64 (y.1 : Int) :: .int .i64 (y.2.1 : Int) :: .int .i64 (y.2.2 : Int) :: ndC NS := rfl
    rw [e, show (i + 1) * 3 = i * 3 + 1 + 1 + 1 from by omega]
    exact ⟨by simpa using a, by simpa using b, by simpa using c⟩
theorem nds_open {w wr : World} {A : Option Addr} {n c : Nat} {NS : List Nd} (h : Row w 3 (.slice A n c) n (ndC NS)) (hb : Below w.heap.size w wr) {i : Nat} {x : Nd} (hn : n = NS.length) (hx : NS[i]? = some x) :
    ∃ b o, A = some ⟨b, o, none⟩ ∧ b < w.heap.size ∧ wr.cell? ⟨b, o + i * 3, none⟩ = some (.int .i64 (x.1 : Int)) ∧ wr.cell? ⟨b, o + i * 3 + 1, none⟩ = some (.int .i64 (x.2.1 : Int)) ∧ wr.cell? ⟨b, o + i * 3 + 2, none⟩ = some (.int .i64 (x.2.2 : Int)) := by
  subst hn
  have hi := (List.getElem?_eq_some_iff.1 hx).1
  obtain ⟨b, o, c', hv, _, _, hbl, hcell⟩ := h.open (by omega)
  obtain ⟨rfl, _⟩ : A = some ⟨b, o, none⟩ ∧ True := by injection hv with e1; exact ⟨e1, trivial⟩
  obtain ⟨h1, h2, h3⟩ := ndC_get hx
  refine ⟨b, o, rfl, hbl, (hb.cell (p := ⟨b, _, none⟩) hbl).trans (hcell _ _ h1), ?_, ?_⟩
  · rw [Nat.add_assoc]
    exact (hb.cell (p := ⟨b, _, none⟩) hbl).trans (hcell _ _ h2)
  · rw [Nat.add_assoc]
    exact (hb.cell (p := ⟨b, _, none⟩) hbl).trans (hcell _ _ h3)
theorem NSet.set {w : World} {b n : Nat} {S : Nd → Bool} (h : NSet w b n S) (hn : n ≤ 1000000) {x : Nd} (hx : NdOk x) :
    ∃ w', (Instr.mapUpdate 122 (.map (some b)) (nkey x) (.bool true)).run Try.prog w = .ok () w' ∧ NSet w' b (n + 1) (fun y => S y || decide (y = x)) ∧ w.grownBy w' (some b) := by
  obtain ⟨D, h1, h2, h3⟩ := h
  obtain ⟨l, hl⟩ := nkey_some hx
  obtain ⟨w', hrun, r1, r2⟩ := h1.update nmap_keyed Try.underlying122 (by unfold maxLen; omega) hl (plainElem_bool Try.underlying4 true)
  have hlit : WideAt.IsKeyLit l := nmap_keyed.key hl
  refine ⟨w', hrun, ⟨_, r1, h2.put _ _, fun y l' hl' => ?_⟩, r2⟩
  by_cases e : y = x
  · subst e
    rw [hl] at hl'
    injection hl' with hl'
    subst hl'
    rw [atKey_put_same h2 hlit]
    simp
  · rw [atKey_put_other (nkey_ne hl' hl e), h3 y l' hl']
    simp [e]
theorem bddValid_any (v : Value) (NS : List Nd) (root n : Nat) (w : World) (h : BddOk w v NS root) (hN : Bdd.NOk n NS) (hn : n ≤ 7) (hl : NS.length ≤ 1000) (hr : root < NS.length) :
    Calls Try.prog 54 #[v] w fun e w' => e = .returned (.bool true) ∧ Below w.heap.size w w' := by
  obtain ⟨A, c, rfl, hrow⟩ := h
  have h2 := hN.two
  obtain ⟨b, o, rfl, hbl, z0, z1, z2⟩ := nds_open hrow (Below.refl _ _) rfl hN.zero
  obtain ⟨b', o', e, -, y0, y1, y2⟩ := nds_open hrow (Below.refl _ _) rfl hN.one
  injection e with e
  injection e with e1 e2
  subst e1 e2
  obtain ⟨_, _, e, hlc, hcm⟩ := hrow.shape
  injection e with e0 _ e
  subst e0
  subst e
  unfold maxLen at hcm
  simp at z0 z1 z2 y0 y1 y2
  simp only [Nat.add_assoc, Nat.reduceAdd] at y1 y2
  have hbb := bel_new w (.cells #[.slice (some ⟨b, o, none⟩) NS.length c, .int .i64 (root : Int)] 43)
  have hg9 := heap_alloc_new w (.cells #[.slice (some ⟨b, o, none⟩) NS.length c, .int .i64 (root : Int)] 43)
  have hz1 : (w.alloc (.cells #[.slice (some ⟨b, o, none⟩) NS.length c, .int .i64 (root : Int)] 43)).heap.size = w.heap.size + 1 := by simp
  have d1 : decide ((NS.length : Int) < 2) = false := decide_eq_false (by omega)
  have d2 : decide ((1000 : Int) < NS.length) = false := decide_eq_false (by omega)
  have d3 : decide ((root : Int) < 0) = false := decide_eq_false (by omega)
  have d4 : decide (NS.length ≤ root) = false := decide_eq_false (by omega)
  have hne := fun w => node_neq w 0 0 0 0 0 0
  simp only [decide_true, Bool.not_true] at hne
  have hgd := node_guard
  have HN := Lib.hid hN
  have Hrow := Lib.hid hrow
  have HB1 := Lib.hid hbb
  have HG1 := Lib.hid hg9
  clear hN hrow hbb hg9
  have hmm := @run_makeMap Try.prog
  have hS0 := nSet_made (w.alloc (.cells #[.slice (some ⟨b, o, none⟩) NS.length c, .int .i64 (root : Int)] 43))
  have hB2 := bel_new (w.alloc (.cells #[.slice (some ⟨b, o, none⟩) NS.length c, .int .i64 (root : Int)] 43)) (.map #[] 0)
  rw [hz1] at hS0 hB2
  have HS0 := Lib.hid hS0
  have HG2 := Lib.hid ((hB2.block _ (by omega)).trans HG1.out)
  have HB2 : Hid (Below w.heap.size w _) := Lib.hid (HB1.out.trans (hB2.mono (by omega)))
  have hz2 : ((w.alloc (.cells #[.slice (some ⟨b, o, none⟩) NS.length c, .int .i64 (root : Int)] 43)).alloc (.map #[] 0)).heap.size = w.heap.size + 2 := by simp
  clear hS0 hB2 HB1 HG1
  by_cases hc2 : c = 2
  · subst hc2
    have hL : NS.length = 2 := by omega
    have HL := Lib.hid hL
    clear hL
    go_enter Try.func54, Try.ntmps54
    go_wp2_with fail
    go_loopw [50] (fun i wr => i = .int .i64 0 ∧ Hid (Below w.heap.size w wr)) (fun i _ => 0)
    case atStart => exact ⟨rfl, HB2⟩
    case round =>
      obtain ⟨rfl, HB⟩ := hrel
      have hk : ((0 : Int) < ((NS.length - 2 : Nat) : Int)) = False := eq_false (by have := HL.out; omega)
      go_wp2_with fail
      go_ret
      exact ⟨rfl, HB.out⟩
  · go_enter Try.func54, Try.ntmps54
    go_wp2_with fail
    clear hmm hne hgd d1 d2 d3 d4 z0 z1 z2 y0 y1 y2 hz1
    generalize (w.alloc (.cells #[.slice (some ⟨b, o, none⟩) NS.length c, .int .i64 (root : Int)] 43)).alloc (.map #[] 0) = W2 at *
    obtain ⟨gm, hgm⟩ : ∃ gm, gm = w.heap.size + 1 := ⟨_, rfl⟩
    obtain ⟨gb, hgb⟩ : ∃ gb, gb = w.heap.size := ⟨_, rfl⟩
    rw [← hgm] at HS0 ⊢
    rw [← hgb] at HG2 ⊢
    have hbgb : b < gb := by omega
    have hgbm : gb < gm := by omega
    have Hwg : Hid (w.heap.size = gb) := Lib.hid hgb.symm
    clear hgm hgb hz2
    go_loopw [50] (fun i wr => ∃ k : Nat, k + 2 ≤ NS.length ∧ i = .int .i64 k ∧ Hid (NSet wr gm k (fun y => decide (y ∈ (NS.drop 2).take k))) ∧ Hid (wr.heap[gb]? = some (.cells #[.slice (some ⟨b, o, none⟩) NS.length c, .int .i64 (root : Int)] 43 (0, 0))) ∧ Hid (Below w.heap.size w wr)) (fun i _ => NS.length - (intOf i).toNat)
    case atStart => exact ⟨0, by omega, rfl, by simpa using HS0, HG2, HB2⟩
    case round =>
      obtain ⟨k, hk, rfl, HS, HG, HB⟩ := hrel
      clear HS0 HG2 HB2
      by_cases hlt : k + 2 < NS.length
      · obtain ⟨⟨v, l, h⟩, hx⟩ : ∃ x, NS[k + 2]? = some x := ⟨_, List.getElem?_eq_getElem hlt⟩
        obtain ⟨f1, f2, f3, f4, f5⟩ := HN.out.nd (k + 2) v l h (by omega) hx
        obtain ⟨b', o', e, -, c0, c1, c2⟩ := nds_open Hrow.out HB.out rfl hx
        injection e with e
        injection e with e1 e2
        subst e1 e2
        rw [show o + (k + 2) * 3 = o + 6 + k * 3 from by omega] at c0 c1 c2
        simp only at c0 c1 c2
        have hX : NdOk (v, l, h) := ⟨by simp only; omega, by simp only; omega, by simp only; omega⟩
        have hnot : decide ((v, l, h) ∈ (NS.drop 2).take k) = false := decide_eq_false (fun hm => by
          obtain ⟨j, hj⟩ := List.mem_iff_getElem?.1 hm
          rw [List.getElem?_take] at hj
          split at hj
          · rename_i hjk
            rw [List.getElem?_drop] at hj
            exact HN.out.dup (2 + j) (k + 2) _ (by omega) (by omega) hj hx
          · cases hj)
        have hba := bel_new wr (.cells #[.int .i64 (v : Int), .int .i64 (l : Int), .int .i64 (h : Int)] 81)
        have hg9 := heap_alloc_new wr (.cells #[.int .i64 (v : Int), .int .i64 (l : Int), .int .i64 (h : Int)] 81)
        have hza : (wr.alloc (.cells #[.int .i64 (v : Int), .int .i64 (l : Int), .int .i64 (h : Int)] 81)).heap.size = wr.heap.size + 1 := by simp
        have hS3 := HS.out.below hba
        have hlk := hS3.look hX
        simp only [hnot, nkey] at hlk
        have HX := Lib.hid hX
        have Hx := Lib.hid hx
        have Hf5 := Lib.hid f5
        have HS3 := Lib.hid hS3
        have d1 : decide ((l : Int) < 0) = false := decide_eq_false (by omega)
        have d2 : decide ((h : Int) < 0) = false := decide_eq_false (by omega)
        have d3 : decide ((k : Int) + 1 < (l : Int)) = false := decide_eq_false (by omega)
        have d4 : decide ((k : Int) + 1 < (h : Int)) = false := decide_eq_false (by omega)
        have d5 : ((l : Int) == (h : Int)) = false := by rw [beq_eq_false_iff_ne]; omega
        have d6 : decide ((v : Int) < 0) = false := decide_eq_false (by omega)
        have d7 : decide ((7 : Int) ≤ (v : Int)) = false := decide_eq_false (by omega)
        have hwk : IntKind.i64.wrap ((k : Int) + 1) = (k : Int) + 1 := IntWalk.i64_in _ (by omega)
        have q0 := blk_cell HG.out 0
        simp at q0
        have hwz : w.heap.size ≤ wr.heap.size := HB.out.size
        clear hX hx hnot hS3 f5 HS
        go_wp2_with fail
        clear hlk d1 d2 d3 d4 d5 d6 d7 c0 c1 c2 q0
        have hb4 := bel_new (wr.alloc (.cells #[.int .i64 (v : Int), .int .i64 (l : Int), .int .i64 (h : Int)] 81)) (.cells #[.int .i64 (l : Int), .int .i64 (h : Int)] 3)
        have hg4 := heap_alloc_new (wr.alloc (.cells #[.int .i64 (v : Int), .int .i64 (l : Int), .int .i64 (h : Int)] 81)) (.cells #[.int .i64 (l : Int), .int .i64 (h : Int)] 3)
        have hz4 : ((wr.alloc (.cells #[.int .i64 (v : Int), .int .i64 (l : Int), .int .i64 (h : Int)] 81)).alloc (.cells #[.int .i64 (l : Int), .int .i64 (h : Int)] 3)).heap.size = wr.heap.size + 2 := by simp
        rw [hza] at hb4 hg4
        have HS4 := Lib.hid (HS3.out.below (hb4.mono (by omega)))
        have HN4 := Lib.hid ((hb4.block wr.heap.size (by omega)).trans hg9)
        have HG4 := Lib.hid ((hb4.block gb (by have := (Array.getElem?_eq_some_iff.1 HG.out).1; omega)).trans ((hba.block gb (Array.getElem?_eq_some_iff.1 HG.out).1).trans HG.out))
        have HB4 := Lib.hid (HB.out.trans ((hba.trans (hb4.mono (by omega))).mono hwz))
        have HQ4 := Lib.hid hg4
        clear hb4 hg4 hba hg9 hza HS3 HG HB
        generalize (wr.alloc (.cells #[.int .i64 (v : Int), .int .i64 (l : Int), .int .i64 (h : Int)] 81)).alloc (.cells #[.int .i64 (l : Int), .int .i64 (h : Int)] 3) = W4 at *
        obtain ⟨gq, hgq⟩ : ∃ gq, gq = wr.heap.size + 1 := ⟨_, rfl⟩
        obtain ⟨gn, hgn⟩ : ∃ gn, gn = wr.heap.size := ⟨_, rfl⟩
        rw [← hgq] at HQ4 ⊢
        rw [← hgn] at HN4 ⊢
        have hbz4 : b < W4.heap.size := by omega
        have hgbz4 : gb < W4.heap.size := (Array.getElem?_eq_some_iff.1 HG4.out).1
        have hgnz4 : gn < W4.heap.size := by omega
        have hgqz4 : gq < W4.heap.size := by omega
        have hwz4 : w.heap.size ≤ W4.heap.size := by omega
        clear hgq hgn hz4 hwz
        go_loopw [105] (fun i w5 => ∃ q : Nat, q ≤ 2 ∧ i = .int .i64 q ∧ Hid (Below W4.heap.size W4 w5)) (fun i _ => 2 - (intOf i).toNat)
        case atStart => exact ⟨0, by omega, rfl, Lib.hid (Below.refl _ _)⟩
        case round =>
          obtain ⟨q, hq, rfl, HB5⟩ := hrel
          have hz5 := HB5.out.size
          by_cases hq2 : q < 2
          · obtain ⟨ch, hcc, hch⟩ : ∃ ch : Nat, wr.cell? ⟨gq, q, none⟩ = some (.int .i64 (ch : Int)) ∧ (ch = l ∨ ch = h) := by
              rcases (show q = 0 ∨ q = 1 by omega) with rfl | rfl
              · exact ⟨l, (HB5.out.cell (p := ⟨gq, 0, none⟩) hgqz4).trans (blk_cell HQ4.out 0), .inl rfl⟩
              · exact ⟨h, (HB5.out.cell (p := ⟨gq, 1, none⟩) hgqz4).trans (blk_cell HQ4.out 1), .inr rfl⟩
            have q0 := (HB5.out.cell (p := ⟨gb, 0, none⟩) hgbz4).trans (blk_cell HG4.out 0)
            have k0 := (HB5.out.cell (p := ⟨gn, 0, none⟩) hgnz4).trans (blk_cell HN4.out 0)
            simp at q0 k0
            have q0' := gw_cell q0 (by simp only; omega)
            have k0' := gw_cell k0 (by simp only; omega)
            have dq : decide ((q : Int) < 2) = true := decide_eq_true (by omega)
            have hwq : IntKind.i64.wrap ((q : Int) + 1) = (q : Int) + 1 := IntWalk.i64_in _ (by omega)
            by_cases hc1 : 1 < ch
            · obtain ⟨y, hy⟩ : ∃ y, NS[ch]? = some y := ⟨_, List.getElem?_eq_getElem (by omega)⟩
              have hvy := Hf5.out ch hch (by omega) y hy
              obtain ⟨b', o', e, -, e0, -, -⟩ := nds_open Hrow.out (HB4.out.trans (HB5.out.mono hwz4)) rfl hy
              injection e with e
              injection e with e1 e2
              subst e1 e2
              have e0' := gw_cell e0 (by simp only; omega)
              have hchl : ch < NS.length := by omega
              have dc : decide ((1 : Int) < (ch : Int)) = true := decide_eq_true (by omega)
              have dy : decide ((y.1 : Int) ≤ (v : Int)) = false := decide_eq_false (by omega)
              go_wp2_with fail
              refine wp_region_grow (by kernel_rfl) (by kernel_rfl) ?_
              repeat (go_big_quiet_step ((fail)))
              refine wpQuiet_nil ?_
              intro _ hw'
              obtain ⟨nq, hw''⟩ := hw'
              subst hw''
              have hgq := gw_below nq
              generalize gw nq = wq at *
              clear nq
              clear q0 k0 e0 q0' k0' e0' dc dy
              go_wp2_with fail
              go_roundw
              case rel => exact ⟨q + 1, by omega, by go_num, Lib.hid (HB5.out.trans (hgq.mono hz5))⟩
              case measure => simp [intOf] <;> omega
            · have dc : decide ((1 : Int) < (ch : Int)) = false := decide_eq_false (by omega)
              go_wp2_with fail
              refine wp_region_grow (by kernel_rfl) (by kernel_rfl) ?_
              repeat (go_big_quiet_step ((fail)))
              refine wpQuiet_nil ?_
              intro _ hw'
              obtain ⟨nq, hw''⟩ := hw'
              subst hw''
              have hgq := gw_below nq
              generalize gw nq = wq at *
              clear nq
              clear q0 k0 q0' k0' dc
              go_wp2_with fail
              go_roundw
              case rel => exact ⟨q + 1, by omega, by go_num, Lib.hid (HB5.out.trans (hgq.mono hz5))⟩
              case measure => simp [intOf] <;> omega
          · have k0 := (HB5.out.cell (p := ⟨gn, 0, none⟩) hgnz4).trans (blk_cell HN4.out 0)
            have k1 := (HB5.out.cell (p := ⟨gn, 1, none⟩) hgnz4).trans (blk_cell HN4.out 1)
            have k2 := (HB5.out.cell (p := ⟨gn, 2, none⟩) hgnz4).trans (blk_cell HN4.out 2)
            simp at k0 k1 k2
            have dq : decide ((q : Int) < 2) = false := decide_eq_false (by omega)
            obtain ⟨w7, hmu, hs7, hg7⟩ := (HS4.out.below HB5.out).set (by omega) HX.out
            have hSe : (fun y => decide (y ∈ (NS.drop 2).take k) || decide (y = (v, l, h))) = fun y => decide (y ∈ (NS.drop 2).take (k + 1)) := by
              have e : (NS.drop 2)[k]? = some (v, l, h) := by rw [List.getElem?_drop, Nat.add_comm]; exact Hx.out
              funext y
              rw [take_snoc e]
              simp
            rw [hSe] at hs7
            simp only [nkey] at hmu
            have O7 := Only.grown (E := fun g => g = gm) hg7 (fun k hk => (Option.some.inj hk).symm)
            have HS7 := Lib.hid hs7
            have HG7 := Lib.hid ((O7.block gb (by omega) (by omega)).trans ((HB5.out.block gb hgbz4).trans HG4.out))
            have HB7 := Lib.hid (Only.below (HB4.out.trans (HB5.out.mono hwz4)) O7 (by omega) (fun g hg => by have := Hwg.out; omega))
            clear hs7 hSe O7 hg7
            go_wp2_with fail
            go_roundw
            case rel => exact ⟨k + 1, by omega, by go_num, HS7, HG7, HB7⟩
            case measure => simp [intOf] <;> omega
      · go_wp2_with fail
        go_ret
        exact ⟨rfl, HB.out⟩
end Go.Proofs.Ytkkkjbinfdohpaa

namespace Go.Proofs.Ytkkkjbinfdohpaa
open Go.RowKit Go.Maps Go.Op Go.Instr
set_option maxRecDepth 100000
set_option maxHeartbeats 8000000
/-! The value of a diagram, by the program. -/
theorem Bdd.ev_step {n : Nat} {NS : List Nd} (h : Bdd.NOk n NS) {a v l r y : Nat} (ha : 1 < a) (hx : NS[a]? = some (v, l, r)) : Bdd.ev NS a a y = if y.testBit v then Bdd.ev NS r r y else Bdd.ev NS l l y := by
  obtain ⟨f1, f2, -⟩ := h.nd a v l r ha hx
  have hal := (List.getElem?_eq_some_iff.1 hx).1
  obtain ⟨a', rfl⟩ : ∃ a', a = a' + 1 := ⟨a - 1, by omega⟩
  have e : NS.getD (a' + 1) (0, 0, 0) = (v, l, r) := by rw [List.getD_eq_getElem?_getD, hx]; rfl
  rw [Bdd.ev, if_neg (by omega), e]
  simp only
  split
  · exact Bdd.ev_eq h (by omega) (by omega)
  · exact Bdd.ev_eq h (by omega) (by omega)
theorem evalBdd_any (v : Value) (NS : List Nd) (root n y : Nat) (w : World) (h : BddOk w v NS root) (hN : Bdd.NOk n NS) (hn : n ≤ 7) (hl : NS.length ≤ 1000) (hr : root < NS.length) (hy : y ≤ 1000000) :
    Calls Try.prog 55 #[v, .int .i64 (y : Int)] w fun e w' => e = .returned (.bool (Bdd.ev NS root root y)) ∧ Below w.heap.size w w' := by
  have H := Lib.hid h
  obtain ⟨A, c, rfl, hrow⟩ := h
  have h2 := hN.two
  obtain ⟨b, o, rfl, hbl, -⟩ := nds_open hrow (Below.refl _ _) rfl hN.zero
  obtain ⟨_, _, e, hlc, hcm⟩ := hrow.shape
  injection e with e0 _ e
  subst e0
  subst e
  unfold maxLen at hcm
  have hbb := bel_new w (.cells #[.slice (some ⟨b, o, none⟩) NS.length c, .int .i64 (root : Int)] 43)
  have hg9 := heap_alloc_new w (.cells #[.slice (some ⟨b, o, none⟩) NS.length c, .int .i64 (root : Int)] 43)
  have hz1 : (w.alloc (.cells #[.slice (some ⟨b, o, none⟩) NS.length c, .int .i64 (root : Int)] 43)).heap.size = w.heap.size + 1 := by simp
  have C1 := Lib.hid (bddValid_any _ NS root n _ (H.out.below hbb) hN hn hl hr)
  have HN := Lib.hid hN
  have Hrow := Lib.hid hrow
  have HB1 := Lib.hid hbb
  have HG1 := Lib.hid hg9
  have dy : decide ((y : Int) < 0) = false := decide_eq_false (by omega)
  clear hN hrow hbb hg9 H
  go_enter Try.func55, Try.ntmps55
  go_wp2_with fail
  refine C1.out.mono ?_
  rintro e w1 ⟨rfl, hb1⟩
  have HG2 := Lib.hid ((hb1.block w.heap.size (by omega)).trans HG1.out)
  have HB2 : Hid (Below w.heap.size w w1) := Lib.hid (HB1.out.trans (hb1.mono (by omega)))
  obtain ⟨gb, hgb⟩ : ∃ gb, gb = w.heap.size := ⟨_, rfl⟩
  rw [← hgb] at HG2 ⊢
  have q1 := blk_cell HG2.out 1
  simp at q1
  have Hwg : Hid (w.heap.size = gb) := Lib.hid hgb.symm
  clear hb1 HG1 HB1 C1 hgb hz1
  go_wp2_with fail
  go_loopw [5] (fun i wr => ∃ a : Nat, a < NS.length ∧ i = .int .i64 a ∧ Hid (Bdd.ev NS a a y = Bdd.ev NS root root y) ∧ Hid (wr.heap[gb]? = some (.cells #[.slice (some ⟨b, o, none⟩) NS.length c, .int .i64 (root : Int)] 43 (0, 0))) ∧ Hid (Below w.heap.size w wr)) (fun i _ => (intOf i).toNat)
  case atStart => exact ⟨root, hr, rfl, Lib.hid rfl, HG2, HB2⟩
  case round =>
    clear HG2 HB2 q1
    obtain ⟨a, ha, rfl, HE, HG, HB⟩ := hrel
    by_cases hlt : 1 < a
    · obtain ⟨⟨v, l, h⟩, hx⟩ : ∃ x, NS[a]? = some x := ⟨_, List.getElem?_eq_getElem ha⟩
      obtain ⟨f1, f2, -, f4, -⟩ := HN.out.nd a v l h (by omega) hx
      obtain ⟨b', o', e, -, c0, c1, c2⟩ := nds_open Hrow.out HB.out rfl hx
      injection e with e
      injection e with e1 e2
      subst e1 e2
      have hst := Bdd.ev_step HN.out (y := y) hlt hx
      simp only at c0 c1 c2
      have hba := bel_new wr (.cells #[.int .i64 (v : Int), .int .i64 (l : Int), .int .i64 (h : Int)] 81)
      have HG3 := Lib.hid ((hba.block gb (Array.getElem?_eq_some_iff.1 HG.out).1).trans HG.out)
      have HB3 := Lib.hid (HB.out.trans (hba.mono HB.out.size))
      have q0 := blk_cell HG.out 0
      simp at q0
      have hs := shr_and y v (by omega)
      have dl : decide ((1 : Int) < (a : Int)) = true := decide_eq_true (by omega)
      have dv : decide ((v : Int) < 0) = false := decide_eq_false (by omega)
      have hwz : b < wr.heap.size := Nat.lt_of_lt_of_le hbl HB.out.size
      clear hx hba HG HB
      cases hb : y.testBit v with
      | true =>
        rw [hb] at hs hst
        simp only [if_true] at hs hst
        have HE2 : Hid (Bdd.ev NS h h y = Bdd.ev NS root root y) := Lib.hid (hst.symm.trans HE.out)
        clear hst hb
        go_wp2_with fail
        go_roundw
        case rel => exact ⟨h, by omega, rfl, HE2, HG3, HB3⟩
        case measure => simp [intOf] <;> omega
      | false =>
        rw [hb] at hs hst
        simp at hs hst
        have HE2 : Hid (Bdd.ev NS l l y = Bdd.ev NS root root y) := Lib.hid (hst.symm.trans HE.out)
        clear hst hb
        go_wp2_with fail
        go_roundw
        case rel => exact ⟨l, by omega, rfl, HE2, HG3, HB3⟩
        case measure => simp [intOf] <;> omega
    · have dl : decide ((1 : Int) < (a : Int)) = false := decide_eq_false (by omega)
      have hev : Bdd.ev NS a a y = (a == 1) := by
        cases a with
        | zero => rfl
        | succ a => rw [Bdd.ev, if_pos (by omega)]
      have HR : Hid (Bdd.ev NS root root y = (a == 1)) := Lib.hid (HE.out.symm.trans hev)
      clear hev HE
      rcases (show a = 0 ∨ a = 1 by omega) with rfl | rfl
      · go_wp2_with fail
        go_ret
        exact ⟨by rw [HR.out]; rfl, HB.out⟩
      · go_wp2_with fail
        go_ret
        exact ⟨by rw [HR.out]; rfl, HB.out⟩
end Go.Proofs.Ytkkkjbinfdohpaa

namespace Go.Proofs.Ytkkkjbinfdohpaa
open Go.RowKit Go.Maps Go.Op Go.Instr
set_option maxRecDepth 100000
set_option maxHeartbeats 8000000
/-! The count of a diagram, by the program. -/
def Bdd.cnt (NS : List Nd) (root N : Nat) : Nat := (List.range N).countP (fun y => Bdd.ev NS root root y)
theorem Bdd.cnt_succ (NS : List Nd) (root N : Nat) : Bdd.cnt NS root (N + 1) = Bdd.cnt NS root N + if Bdd.ev NS root root N then 1 else 0 := by
  unfold Bdd.cnt
  rw [List.range_succ, List.countP_append, List.countP_singleton]
theorem Bdd.cnt_le (NS : List Nd) (root N : Nat) : Bdd.cnt NS root N ≤ N := by
  unfold Bdd.cnt
  have := List.countP_le_length (p := fun y => Bdd.ev NS root root y) (l := List.range N)
  simpa using this
theorem countBdd_any (v : Value) (NS : List Nd) (root n : Nat) (w : World) (h : BddOk w v NS root) (hN : Bdd.NOk n NS) (hn : n ≤ 7) (hl : NS.length ≤ 1000) (hr : root < NS.length) :
    Calls Try.prog 15 #[v, .int .i64 (n : Int)] w fun e w' => e = .returned (.int .i64 (Bdd.cnt NS root (2 ^ n) : Nat)) ∧ Below w.heap.size w w' := by
  have H := Lib.hid h
  obtain ⟨A, c, rfl, hrow⟩ := h
  have h2 := hN.two
  obtain ⟨b, o, rfl, hbl, -⟩ := nds_open hrow (Below.refl _ _) rfl hN.zero
  obtain ⟨_, _, e, hlc, hcm⟩ := hrow.shape
  injection e with e0 _ e
  subst e0
  subst e
  unfold maxLen at hcm
  obtain ⟨p, hp⟩ : ∃ p, p = 2 ^ n := ⟨_, rfl⟩
  have hpb : p ≤ 128 := by rw [hp]; exact Nat.pow_le_pow_right (show 0 < 2 by decide) hn
  have e2v : (2 : Int) ^ n = (p : Int) := by rw [hp]; exact two_pow n
  have hwp := IntWalk.i64_in (p : Int) (by omega)
  have hwu : IntKind.u64.wrap (n : Int) = n := by rw [IntKind.wrap_u64]; omega
  have hbb := bel_new w (.cells #[.slice (some ⟨b, o, none⟩) NS.length c, .int .i64 (root : Int)] 43)
  have hg9 := heap_alloc_new w (.cells #[.slice (some ⟨b, o, none⟩) NS.length c, .int .i64 (root : Int)] 43)
  have hz1 : (w.alloc (.cells #[.slice (some ⟨b, o, none⟩) NS.length c, .int .i64 (root : Int)] 43)).heap.size = w.heap.size + 1 := by simp
  have C1 := Lib.hid (bddValid_any _ NS root n _ (H.out.below hbb) hN hn hl hr)
  have HN := Lib.hid hN
  have Hrow := Lib.hid hrow
  have HB1 := Lib.hid hbb
  have HG1 := Lib.hid hg9
  have dn : decide ((n : Int) < 0) = false := decide_eq_false (by omega)
  have dn7 : decide ((7 : Int) < (n : Int)) = false := decide_eq_false (by omega)
  rw [← hp]
  have Hp := Lib.hid hp
  clear hN hrow hbb hg9 hp
  by_cases hc2 : c = 2
  · subst hc2
    have hL : NS.length = 2 := by omega
    have HL := Lib.hid hL
    clear hL
    go_enter Try.func15, Try.ntmps15
    go_wp2_with fail
    refine C1.out.mono ?_
    rintro e w1 ⟨rfl, hb1⟩
    have HG2 := Lib.hid ((hb1.block w.heap.size (by omega)).trans HG1.out)
    have HB2 : Hid (Below w.heap.size w w1) := Lib.hid (HB1.out.trans (hb1.mono (by omega)))
    obtain ⟨gb, hgb⟩ : ∃ gb, gb = w.heap.size := ⟨_, rfl⟩
    rw [← hgb] at HG2 ⊢
    have q0 := blk_cell HG2.out 0
    simp at q0
    have Hwg : Hid (w.heap.size = gb) := Lib.hid hgb.symm
    clear hb1 HG1 HB1 C1 hgb hz1
    go_wp2_with fail
    clear q0 dn dn7
    go_loopw [24] (fun i wr => i = .int .i64 0 ∧ Hid (wr.heap[gb]? = some (.cells #[.slice (some ⟨b, o, none⟩) NS.length 2, .int .i64 (root : Int)] 43 (0, 0))) ∧ Hid (Below w.heap.size w wr)) (fun i _ => 0)
    case atStart => exact ⟨rfl, HG2, HB2⟩
    case round =>
      clear HG2 HB2
      obtain ⟨rfl, HG, HB⟩ := hrel
      have hk : ((0 : Int) < ((NS.length - 2 : Nat) : Int)) = False := eq_false (by have := HL.out; omega)
      go_wp2_with fail
      go_loopw [7, 35] (fun cc i wr => ∃ y : Nat, y ≤ p ∧ i = .int .i64 y ∧ cc = .int .i64 (Bdd.cnt NS root y : Nat) ∧ Hid (wr.heap[gb]? = some (.cells #[.slice (some ⟨b, o, none⟩) NS.length 2, .int .i64 (root : Int)] 43 (0, 0))) ∧ Hid (Below w.heap.size w wr)) (fun _ i _ => p - (intOf i).toNat)
      case atStart => exact ⟨0, by omega, rfl, rfl, HG, HB⟩
      case round =>
        clear HG HB
        obtain ⟨y, hy, rfl, rfl, HG, HB⟩ := hrel
        have hcl := Bdd.cnt_le NS root y
        have hcs := Bdd.cnt_succ NS root y
        by_cases hlt : y < p
        · have dy : decide ((y : Int) < (p : Int)) = true := decide_eq_true (by omega)
          have q0 := blk_cell HG.out 0
          have q1 := blk_cell HG.out 1
          simp at q0 q1
          have C2 := Lib.hid (evalBdd_any _ NS root n y wr (H.out.below HB.out) HN.out hn hl hr (by omega))
          have hwk : IntKind.i64.wrap ((y : Int) + 1) = (y : Int) + 1 := IntWalk.i64_in _ (by omega)
          cases hev : Bdd.ev NS root root y with
          | true =>
            rw [hev, if_pos rfl] at hcs
            rw [hev] at C2
            clear hev
            generalize Bdd.cnt NS root y = K at *
            have hwc : IntKind.i64.wrap ((K : Int) + 1) = (K : Int) + 1 := IntWalk.i64_in _ (by omega)
            have Hcs := Lib.hid hcs
            clear hcs
            go_wp2_with fail
            refine C2.out.mono ?_
            rintro e w2 ⟨rfl, hb2⟩
            have HG3 := Lib.hid ((hb2.block gb (Array.getElem?_eq_some_iff.1 HG.out).1).trans HG.out)
            have HB3 := Lib.hid (HB.out.trans (hb2.mono HB.out.size))
            clear hb2 C2 q0 q1 HG HB
            go_wp2_with fail
            go_roundw
            case rel => exact ⟨y + 1, by omega, by go_num, by rw [Hcs.out]; go_num, HG3, HB3⟩
            case measure => simp [intOf] <;> omega
          | false =>
            rw [hev, if_neg (by simp), Nat.add_zero] at hcs
            rw [hev] at C2
            clear hev
            generalize Bdd.cnt NS root y = K at *
            have Hcs := Lib.hid hcs
            clear hcs
            go_wp2_with fail
            refine C2.out.mono ?_
            rintro e w2 ⟨rfl, hb2⟩
            have HG3 := Lib.hid ((hb2.block gb (Array.getElem?_eq_some_iff.1 HG.out).1).trans HG.out)
            have HB3 := Lib.hid (HB.out.trans (hb2.mono HB.out.size))
            clear hb2 C2 q0 q1 HG HB
            go_wp2_with fail
            go_roundw
            case rel => exact ⟨y + 1, by omega, by go_num, by rw [Hcs.out, Nat.add_zero], HG3, HB3⟩
            case measure => simp [intOf] <;> omega
        · obtain rfl : y = p := by omega
          have dy : decide ((y : Int) < (y : Int)) = false := decide_eq_false (by omega)
          clear hcs
          go_wp2_with fail
          go_ret
          exact ⟨rfl, HB.out⟩
  · go_enter Try.func15, Try.ntmps15
    go_wp2_with fail
    refine C1.out.mono ?_
    rintro e w1 ⟨rfl, hb1⟩
    have HG2 := Lib.hid ((hb1.block w.heap.size (by omega)).trans HG1.out)
    have HB2 : Hid (Below w.heap.size w w1) := Lib.hid (HB1.out.trans (hb1.mono (by omega)))
    obtain ⟨gb, hgb⟩ : ∃ gb, gb = w.heap.size := ⟨_, rfl⟩
    rw [← hgb] at HG2 ⊢
    have q0 := blk_cell HG2.out 0
    simp at q0
    have Hwg : Hid (w.heap.size = gb) := Lib.hid hgb.symm
    clear hb1 HG1 HB1 C1 hgb hz1
    go_wp2_with fail
    clear q0 dn dn7
    go_loopw [24] (fun i wr => ∃ k : Nat, k + 2 ≤ NS.length ∧ i = .int .i64 k ∧ Hid (wr.heap[gb]? = some (.cells #[.slice (some ⟨b, o, none⟩) NS.length c, .int .i64 (root : Int)] 43 (0, 0))) ∧ Hid (Below w.heap.size w wr)) (fun i _ => NS.length - (intOf i).toNat)
    case atStart => exact ⟨0, by omega, rfl, HG2, HB2⟩
    case round =>
      clear HG2 HB2
      obtain ⟨k, hk, rfl, HG, HB⟩ := hrel
      by_cases hlt : k + 2 < NS.length
      · obtain ⟨⟨v, l, h⟩, hx⟩ : ∃ x, NS[k + 2]? = some x := ⟨_, List.getElem?_eq_getElem hlt⟩
        obtain ⟨f1, f2, -, f4, -⟩ := HN.out.nd (k + 2) v l h (by omega) hx
        obtain ⟨b', o', e, -, c0, c1, c2⟩ := nds_open Hrow.out HB.out rfl hx
        injection e with e
        injection e with e1 e2
        subst e1 e2
        rw [show o + (k + 2) * 3 = o + 6 + k * 3 from by omega] at c0 c1 c2
        simp only at c0 c1 c2
        have hba := bel_new wr (.cells #[.int .i64 (v : Int), .int .i64 (l : Int), .int .i64 (h : Int)] 81)
        have HG3 := Lib.hid ((hba.block gb (Array.getElem?_eq_some_iff.1 HG.out).1).trans HG.out)
        have HB3 := Lib.hid (HB.out.trans (hba.mono HB.out.size))
        have dv : decide (n ≤ v) = false := decide_eq_false (by omega)
        have hwk : IntKind.i64.wrap ((k : Int) + 1) = (k : Int) + 1 := IntWalk.i64_in _ (by omega)
        have hwz : b < wr.heap.size := Nat.lt_of_lt_of_le hbl HB.out.size
        clear hx hba HG HB
        go_wp2_with fail
        go_roundw
        case rel => exact ⟨k + 1, by omega, by go_num, HG3, HB3⟩
        case measure => simp [intOf] <;> omega
      · have dk : decide (k < NS.length - 2) = false := decide_eq_false (by omega)
        go_wp2_with fail
        go_loopw [7, 35] (fun cc i wr => ∃ y : Nat, y ≤ p ∧ i = .int .i64 y ∧ cc = .int .i64 (Bdd.cnt NS root y : Nat) ∧ Hid (wr.heap[gb]? = some (.cells #[.slice (some ⟨b, o, none⟩) NS.length c, .int .i64 (root : Int)] 43 (0, 0))) ∧ Hid (Below w.heap.size w wr)) (fun _ i _ => p - (intOf i).toNat)
        case atStart => exact ⟨0, by omega, rfl, rfl, HG, HB⟩
        case round =>
          clear HG HB
          obtain ⟨y, hy, rfl, rfl, HG, HB⟩ := hrel
          have hcl := Bdd.cnt_le NS root y
          have hcs := Bdd.cnt_succ NS root y
          by_cases hlt : y < p
          · have dy : decide ((y : Int) < (p : Int)) = true := decide_eq_true (by omega)
            have q0 := blk_cell HG.out 0
            have q1 := blk_cell HG.out 1
            simp at q0 q1
            have C2 := Lib.hid (evalBdd_any _ NS root n y wr (H.out.below HB.out) HN.out hn hl hr (by omega))
            have hwk : IntKind.i64.wrap ((y : Int) + 1) = (y : Int) + 1 := IntWalk.i64_in _ (by omega)
            cases hev : Bdd.ev NS root root y with
            | true =>
              rw [hev, if_pos rfl] at hcs
              rw [hev] at C2
              clear hev
              generalize Bdd.cnt NS root y = K at *
              have hwc : IntKind.i64.wrap ((K : Int) + 1) = (K : Int) + 1 := IntWalk.i64_in _ (by omega)
              have Hcs := Lib.hid hcs
              clear hcs
              go_wp2_with fail
              refine C2.out.mono ?_
              rintro e w2 ⟨rfl, hb2⟩
              have HG3 := Lib.hid ((hb2.block gb (Array.getElem?_eq_some_iff.1 HG.out).1).trans HG.out)
              have HB3 := Lib.hid (HB.out.trans (hb2.mono HB.out.size))
              clear hb2 C2 q0 q1 HG HB
              go_wp2_with fail
              go_roundw
              case rel => exact ⟨y + 1, by omega, by go_num, by rw [Hcs.out]; go_num, HG3, HB3⟩
              case measure => simp [intOf] <;> omega
            | false =>
              rw [hev, if_neg (by simp), Nat.add_zero] at hcs
              rw [hev] at C2
              clear hev
              generalize Bdd.cnt NS root y = K at *
              have Hcs := Lib.hid hcs
              clear hcs
              go_wp2_with fail
              refine C2.out.mono ?_
              rintro e w2 ⟨rfl, hb2⟩
              have HG3 := Lib.hid ((hb2.block gb (Array.getElem?_eq_some_iff.1 HG.out).1).trans HG.out)
              have HB3 := Lib.hid (HB.out.trans (hb2.mono HB.out.size))
              clear hb2 C2 q0 q1 HG HB
              go_wp2_with fail
              go_roundw
              case rel => exact ⟨y + 1, by omega, by go_num, by rw [Hcs.out, Nat.add_zero], HG3, HB3⟩
              case measure => simp [intOf] <;> omega
          · obtain rfl : y = p := by omega
            have dy : decide ((y : Int) < (y : Int)) = false := decide_eq_false (by omega)
            clear hcs
            go_wp2_with fail
            go_ret
            exact ⟨rfl, HB.out⟩
end Go.Proofs.Ytkkkjbinfdohpaa
