import Derived.Test.YtkkkjbinfdohpaaS04
import Derived.Great.BuildSlice
import Derived.Test.YtkkkjbinfdohpaaS02
import Derived.Test.YtkkkjbinfdohpaaS03
import Derived.BigRegion
import Derived.Deep.Cut
import Derived.Test.YtkkkjbinfdohpaaS01
set_option linter.unusedVariables false
set_option linter.unusedSimpArgs false
set_option maxRecDepth 100000
set_option maxHeartbeats 16000000
namespace Go.Proofs.Ytkkkjbinfdohpaa
open Go.RowKit Go.Maps
end Go.Proofs.Ytkkkjbinfdohpaa
namespace Go.Proofs.Ytkkkjbinfdohpaa
open Go.RowKit Go.Maps
theorem nat_cell {w wr : World} {A : Option Addr} {n c : Nat} {xs : List Nat} (h : Row w 1 (.slice A n c) n (ints (xs.map Int.ofNat))) (hb : Below w.heap.size w wr) {i : Nat} (hn : n = xs.length) (hi : i < xs.length) :
  ∃ b o, A = some ⟨b, o, none⟩ ∧ b < w.heap.size ∧ wr.cell? ⟨b, o + i, none⟩ = some (.int .i64 ((xs.getD i 0 : Nat) : Int)) := by
 obtain ⟨b, o, x, hA, hbl, hx, hs⟩ := ints_open h hb (by rw [List.length_map]; exact hn) (i := i) (by rw [List.length_map]; exact hi)
 have hxe : x = ((xs.getD i 0 : Nat) : Int) := by
  have h1 := hx.out
  rw [List.getElem?_map, List.getElem?_eq_getElem hi] at h1
  rw [List.getD_eq_getElem?_getD, List.getElem?_eq_getElem hi]
  exact (Option.some.inj h1).symm
 subst hxe
 exact ⟨b, o, hA, hbl, hs⟩
theorem getD_le {xs : List Nat} {M : Nat} (h : ∀ x ∈ xs, x ≤ M) (i : Nat) : xs.getD i 0 ≤ M := by
 rw [List.getD_eq_getElem?_getD]
 cases hi : xs[i]? with
 | none => simp
 | some a => exact h a (List.mem_of_getElem? hi)
def TBoxC (c : Cz) : Ty := fun w v => ∃ g, v = .pointer (some ⟨g, 0, none⟩) ∧ PCirc w g c
def TCOwn (c : Cz) : Ty := fun w v => CircOwn 0 w v c
def TBoxZ (B : Nat) (cs : Array Value) (t : TypeId) : Ty := fun w v => ∃ g, v = .pointer (some ⟨g, 0, none⟩) ∧ B ≤ g ∧ w.heap[g]? = some (.cells cs t (0, 0))
theorem stb_boxz (B : Nat) (cs : Array Value) (t : TypeId) : Stb (fun _ => False) (TBoxZ B cs t) := fun _ _ _ ⟨g, h1, h2, h3⟩ ho => ⟨g, h1, h2, (ho.block g (blk_ltB h3) id).trans h3⟩
theorem own_setN {w : World} {B n size k i : Nat} {e : TypeId} {v u : Value} {cs : List Value} (h : w.ownsRow B e size v n cs) (hk : v.ownBlock ≠ some k) : (w.setCell ⟨k, i, none⟩ u).ownsRow B e size v n cs :=
 own_only h (Only.grown (E := fun g => g = k) (set_grown w k i u) (fun x hx => (Option.some.inj hx).symm)) (fun g hg e => hk (by rw [hg, e]))
end Go.Proofs.Ytkkkjbinfdohpaa
namespace Go.Proofs.Ytkkkjbinfdohpaa
open Go.RowKit Go.Maps
theorem append_gatesO {w : World} {ops : Array Oper} {rest : List Oper} {o : Oper} {a : Act} {Q : Exit → Act → World → Prop} (hgd : o.guard = none) (s x : Operand)
  (ho : o.op = .call { callee := .builtin .append, args := #[s, x], argTypes := #[24, 24] })
  (base : Nat) (v : Value) (n : Nat) (xs : List Value) (hs : a.eval s = v) (hown : w.ownsRow base 64 2 v n xs) (sv : Value) (m : Nat) (news : List Value) (hx : a.eval x = sv) (hr : Row w 2 sv m news) (h1 : ∀ u ∈ news, u.oneCell' = true)
  (h63 : n + m ≤ 1000000) (hbase : base ≤ w.heap.size)
  (h : ∀ v' w', w'.ownsRow base 64 2 v' (n + m) (xs ++ news) → w.grownBy w' v.ownBlock → (v'.ownBlock = v.ownBlock ∨ v'.ownBlock = some w.heap.size) → wpList Try.prog ops Q rest (a.put o.dst v') w') : wpList Try.prog ops Q (o :: rest) a w := by
 obtain ⟨i, hi, hz0, hz1, hz2⟩ := info_parts info_gate
 exact wpList_append_at hgd s x 24 ho base 64 i _ 2 16 Try.underlying24 hi hz0 hz1 hz2 rfl (by decide) v n xs hs hown sv m news hx hr h1 (by unfold maxLen; omega) (by omega) hbase h
end Go.Proofs.Ytkkkjbinfdohpaa
namespace Go.Proofs.Ytkkkjbinfdohpaa
open Go.RowKit Go.Maps
section
variable {S : RS} {Fin : List Ty → Prop} {o : Oper} {l : List Oper} {i : Nat} {τs : List Ty}
end
end Go.Proofs.Ytkkkjbinfdohpaa
namespace Go.Proofs.Ytkkkjbinfdohpaa
namespace Cir
def memB (l : List Nat) (n : Nat) : Bool := l.contains n
theorem memB_iff {l : List Nat} {n : Nat} : memB l n = true ↔ n ∈ l := by unfold memB; simp
def push (l : List Nat) (n : Nat) : List Nat := if l.contains n then l else l ++ [n]
def pushes (c : Ci) (s j : Nat) (l : List Nat) : List Nat := ((List.range j).map (nextOf c s)).foldl push l
def bfs (c : Ci) : Nat → Nat → List Nat → List Nat
  | 0, _, l => l
  | f + 1, k, l => match l[k]? with
    | none => l
    | some s => bfs c f (k + 1) (pushes c s (2 ^ c.ins) l)
def reach (c : Ci) : List Nat := bfs c 9 0 [0]
structure Sts (c : Ci) (l : List Nat) : Prop where
  nodup : l.Nodup
  lt : ∀ x ∈ l, x < 2 ^ c.next.length
theorem nodup_lt : ∀ (N : Nat) (l : List Nat), l.Nodup → (∀ x ∈ l, x < N) → l.length ≤ N
 | 0, l, _, h => by
  cases l with
  | nil => simp
  | cons a l => exact absurd (h a (by simp)) (by omega)
 | N + 1, l, hn, h => by
  by_cases hm : N ∈ l
  ·have h1 := nodup_lt N (l.erase N) (hn.erase N) (fun x hx => by
    have h2 := (List.Nodup.mem_erase_iff hn).1 hx
    have h3 := h x h2.2
    have h4 := h2.1
    omega)
   rw [List.length_erase_of_mem hm] at h1
   omega
  ·have := nodup_lt N l hn (fun x hx => by
    have h3 := h x hx
    have h4 : x ≠ N := fun e => hm (e ▸ hx)
    omega)
   omega
theorem Sts.len {c : Ci} {l : List Nat} (h : Sts c l) (hc : Ok c) : l.length ≤ 8 := by
 have h1 := nodup_lt _ l h.nodup h.lt
 have h2 : 2 ^ c.next.length ≤ 2 ^ 3 := Nat.pow_le_pow_right (show 0 < 2 by decide) hc.nexts
 omega
theorem Sts.zero (c : Ci) : Sts c [0] := ⟨by simp, fun x hx => by simp at hx; subst hx; exact Nat.pow_pos (by decide)⟩
theorem Sts.push {c : Ci} {l : List Nat} (h : Sts c l) {n : Nat} (hn : n < 2 ^ c.next.length) : Sts c (Cir.push l n) := by
 unfold Cir.push
 cases hc : l.contains n
 ·refine ⟨?_, fun x hx => ?_⟩
  ·simp only [Bool.false_eq_true, if_false]
   rw [List.nodup_append]
   refine ⟨h.nodup, by simp, fun a ha b hb => ?_⟩
   simp at hb
   subst hb
   rintro rfl
   have : l.contains a = true := by simpa using ha
   rw [hc] at this
   cases this
  ·simp at hx
   rcases hx with hx | rfl
   ·exact h.lt x hx
   ·exact hn
 ·simpa using h
theorem push_no {l : List Nat} {n : Nat} (h : memB l n = false) : push l n = l ++ [n] := by unfold memB at h; unfold push; rw [h]; rfl
theorem push_yes {l : List Nat} {n : Nat} (h : memB l n = true) : push l n = l := by unfold memB at h; unfold push; rw [h]; rfl
theorem memB_snoc (l : List Nat) (n x : Nat) : memB (l ++ [n]) x = (memB l x || x == n) := by unfold memB; rw [Bool.eq_iff_iff]; simp
theorem memB_zero (x : Nat) : memB [0] x = (x == 0) := by unfold memB; rw [Bool.eq_iff_iff]; simp
theorem pushes_zero (c : Ci) (s : Nat) (l : List Nat) : pushes c s 0 l = l := rfl
theorem pushes_succ (c : Ci) (s j : Nat) (l : List Nat) : pushes c s (j + 1) l = push (pushes c s j l) (nextOf c s j) := by
 unfold pushes
 rw [List.range_succ, List.map_append, List.foldl_append]
 rfl
theorem Sts.pushes {c : Ci} {l : List Nat} (h : Sts c l) (s : Nat) : ∀ j, Sts c (Cir.pushes c s j l)
 | 0 => h
 | j + 1 => by
  rw [pushes_succ]
  exact (Sts.pushes h s j).push (nextOf_lt _ _ _)
theorem pushes_prefix (c : Ci) (s : Nat) (l : List Nat) : ∀ j, ∃ m, Cir.pushes c s j l = l ++ m
 | 0 => ⟨[], by simp [pushes_zero]⟩
 | j + 1 => by
  obtain ⟨m, hm⟩ := pushes_prefix c s l j
  rw [pushes_succ, hm]
  unfold push
  split
  ·exact ⟨m, rfl⟩
  ·exact ⟨m ++ [nextOf c s j], by rw [List.append_assoc]⟩
theorem pushes_get {c : Ci} {s : Nat} {l : List Nat} {j k x : Nat} (h : l[k]? = some x) : (Cir.pushes c s j l)[k]? = some x := by
 obtain ⟨m, hm⟩ := pushes_prefix c s l j
 obtain ⟨hk, _⟩ := List.getElem?_eq_some_iff.1 h
 rw [hm, List.getElem?_append_left hk, h]
theorem bfs_step {c : Ci} {f k : Nat} {l : List Nat} {s : Nat} (h : l[k]? = some s) : bfs c (f + 1) k l = bfs c f (k + 1) (pushes c s (2 ^ c.ins) l) := by
 rw [bfs, h]
theorem bfs_end {c : Ci} {f : Nat} {l : List Nat} : bfs c f l.length l = l := by
 cases f with
 | zero => rfl
 | succ f => rw [bfs, List.getElem?_eq_none (Nat.le_refl _)]
theorem Sts.bfs {c : Ci} : ∀ (f k : Nat) {l : List Nat}, Sts c l → Sts c (Cir.bfs c f k l)
 | 0, _, _, h => h
 | f + 1, k, l, h => by
  rw [Cir.bfs]
  split
  ·exact h
  ·exact Sts.bfs f (k + 1) (h.pushes _ _)
theorem reach_sts (c : Ci) : Sts c (reach c) := Sts.bfs _ _ (Sts.zero c)
end Cir
end Go.Proofs.Ytkkkjbinfdohpaa
namespace Go.Proofs.Ytkkkjbinfdohpaa
namespace Cir
def bad (c : Ci) (o s x : Nat) : Bool := (outsOf c s x).getD o false
def vsts (l : List (Nat × List Nat)) : List Nat := l.map (·.1)
def vpush (l : List (Nat × List Nat)) (n : Nat) (p : List Nat) : List (Nat × List Nat) := if memB (vsts l) n then l else l ++ [(n, p)]
def vpushes (c : Ci) (s : Nat) (p : List Nat) : Nat → List (Nat × List Nat) → List (Nat × List Nat)
  | 0, l => l
  | j + 1, l => vpush (vpushes c s p j l) (nextOf c s j) (p ++ [j])
def vfind (c : Ci) (o s M : Nat) : Option Nat := (List.range M).find? (bad c o s)
def vbfs (c : Ci) (o : Nat) : Nat → Nat → List (Nat × List Nat) → Option (List Nat)
  | 0, _, _ => none
  | f + 1, k, l => match l[k]? with
    | none => none
    | some (s, p) => match vfind c o s (2 ^ c.ins) with
      | some x => some (p ++ [x])
      | none => vbfs c o f (k + 1) (vpushes c s p (2 ^ c.ins) l)
def viol (c : Ci) (o : Nat) : Option (List Nat) := vbfs c o 9 0 [(0, [])]
structure Vs (c : Ci) (l : List (Nat × List Nat)) : Prop where
  sts : Sts c (vsts l)
  len : ∀ (k s : Nat) (p : List Nat), l[k]? = some (s, p) → p.length ≤ k
  inp : ∀ (k s : Nat) (p : List Nat), l[k]? = some (s, p) → ∀ x ∈ p, x < 2 ^ c.ins
theorem find_range (p : Nat → Bool) : ∀ (M x : Nat), x < M → p x = true → (∀ y, y < x → p y = false) → (List.range M).find? p = some x
 | 0, x, h, _, _ => by omega
 | M + 1, x, h, hp, hl => by
  rw [List.range_succ, List.find?_append]
  rcases Nat.lt_or_ge x M with hx | hx
  ·rw [find_range p M x hx hp hl]; rfl
  ·obtain rfl : x = M := by omega
   rw [List.find?_eq_none.2 (fun y hy => by rw [hl y (List.mem_range.1 hy)]; simp)]
   simp [hp]
structure Back (l : List (Nat × List Nat)) (from_ how : List Nat) : Prop where
  l1 : from_.length = l.length
  l2 : how.length = l.length
  zero : ∃ s, l[0]? = some (s, [])
  step : ∀ (k s : Nat) (p : List Nat), l[k]? = some (s, p) → 0 < k → ∃ i x s' p', from_[k]? = some i ∧ i < k ∧ how[k]? = some x ∧ l[i]? = some (s', p') ∧ p = p' ++ [x]
end Cir
end Go.Proofs.Ytkkkjbinfdohpaa
namespace Go.Proofs.Ytkkkjbinfdohpaa
namespace Cir
section
variable {c d : Ci}
end
def optZ (c : Cz) : Cz := if valid c then toCz (optI (nat c)) else ⟨0, [], [], []⟩
end Cir
end Go.Proofs.Ytkkkjbinfdohpaa
namespace Go.Proofs.Ytkkkjbinfdohpaa
open Go.RowKit Go.Maps
theorem circOwn_four {w : World} {v : Value} {c : Cz} {gR : Nat} {u0 u1 u2 u3 : Value} {old : Array Value} (h : CircOwn 0 w v c) (hk : w.heap[gR]? = some (.cells old 26 (0, 0))) :
  CircOwn 0 ((((w.setCell ⟨gR, 0, none⟩ u0).setCell ⟨gR, 1, none⟩ u1).setCell ⟨gR, 2, none⟩ u2).setCell ⟨gR, 3, none⟩ u3) v c := by
 obtain ⟨vn, vg, vo, e, h1, h2, h3⟩ := h
 have n1 := own_ne_tag h1 hk (by decide)
 have n2 := own_ne_tag h2 hk (by decide)
 have n3 := own_ne_tag h3 hk (by decide)
 exact ⟨vn, vg, vo, e, own_setN (own_setN (own_setN (own_setN h1 n1) n1) n1) n1, own_setN (own_setN (own_setN (own_setN h2 n2) n2) n2) n2, own_setN (own_setN (own_setN (own_setN h3 n3) n3) n3) n3⟩
end Go.Proofs.Ytkkkjbinfdohpaa
namespace Go.Proofs.Ytkkkjbinfdohpaa
open Go.RowKit Go.Maps
namespace Cir
theorem gatesOf_get (G : List (Nat × Nat)) (k : Nat) : (gatesOf G)[k]? = (G.reverse[k]?).map fun g => ((g.1 : Int), (g.2 : Int)) := by
 unfold gatesOf
 rw [List.getElem?_map]
theorem known_none {F : Nat} : ∀ {G : List (Nat × Nat)} {x y : Nat}, (∀ j, j < G.length → G.reverse[j]? ≠ some (x, y)) → knownG F G x y = none
 | [], _, _, _ => rfl
 | g :: G, x, y, h => by
  unfold knownG
  rw [known_none (G := G) fun j hj => by
   have := h j (by simp only [List.length_cons]; omega)
   rwa [List.reverse_cons, List.getElem?_append_left (by simpa using hj)] at this]
  have hn : ¬ (x = g.1 ∧ y = g.2) := fun e => by
   have := h G.length (by simp)
   rw [List.reverse_cons, List.getElem?_append_right (by simp)] at this
   apply this
   simp [e.1, e.2]
  simp only [if_neg hn]
theorem known_some {F : Nat} : ∀ {G : List (Nat × Nat)} {x y k : Nat}, (∀ j, j < k → G.reverse[j]? ≠ some (x, y)) → G.reverse[k]? = some (x, y) → knownG F G x y = some (2 * (F + k))
 | [], _, _, k, _, h => by simp at h
 | g :: G, x, y, k, hn, h => by
  unfold knownG
  rw [List.reverse_cons] at h
  by_cases hk : k < G.length
  ·rw [List.getElem?_append_left (by simpa using hk)] at h
   rw [known_some (G := G) (fun j hj => by
    have := hn j hj
    rwa [List.reverse_cons, List.getElem?_append_left (by simp; omega)] at this) h]
  ·rw [List.getElem?_append_right (by simp; omega), List.length_reverse] at h
   have e : k = G.length := by
    obtain ⟨h1, -⟩ := List.getElem?_eq_some_iff.1 h
    simp at h1
    omega
   subst e
   rw [known_none (G := G) fun j hj => by
    have := hn j hj
    rwa [List.reverse_cons, List.getElem?_append_left (by simpa using hj)] at this]
   simp at h
   simp [h]
theorem xor1_pair {a b : Nat} (h : a ≤ b) : a = b ^^^ 1 ↔ b = a + 1 ∧ a % 2 = 0 := by
 have h1 : (b ^^^ 1) / 2 = b / 2 := by rw [Nat.xor_div_two]; simp
 have h2 : (b ^^^ 1) % 2 = 1 - b % 2 := by
  have := Nat.xor_mod_two_pow (a := b) (b := 1) (n := 1)
  simp at this
  rw [this]
  rcases Nat.mod_two_eq_zero_or_one b with e | e <;> rw [e] <;> rfl
 constructor
 ·intro e
  rw [e]
  omega
 ·intro ⟨e1, e2⟩
  omega
end Cir
def AndGive (I : Nat) (vn vo : Value) (r : Nat × List (Nat × Nat)) (w : World) (e : Ending) (w' : World) : Prop :=
  ∃ vg', e = .returned (.tuple #[.agg #[.int .i64 (I : Int), vn, vg', vo], .int .i64 (r.1 : Int)]) ∧ w'.ownsRow 0 64 2 vg' r.2.length (cubes (Cir.gatesOf r.2)) ∧ Below w.heap.size w w'
theorem l3And_st (I a b F : Nat) (An Ao : Option Addr) (cn co ln lo : Nat) (nx os : List Int) (vg : Value) (G : List (Nat × Nat)) (w : World) (hF : F = 1 + I + ln) (hI : I ≤ 100) (hln : ln ≤ 100) (hG : G.length ≤ 100)
  (hn : Row w 1 (.slice An ln cn) ln (ints nx)) (hg : w.ownsRow 0 64 2 vg G.length (cubes (Cir.gatesOf G))) (ho : Row w 1 (.slice Ao lo co) lo (ints os)) (hab : a ≤ b) (hb : b < 2 * (F + G.length)) :
  Calls Try.prog 130 #[.agg #[.int .i64 (I : Int), .slice An ln cn, vg, .slice Ao lo co], .int .i64 (a : Int), .int .i64 (b : Int)] w (AndGive I (.slice An ln cn) (.slice Ao lo co) (Cir.andS F G a b) w) := by
 obtain ⟨Ag, cg, hvg⟩ := slice_of_own hg
 subst hvg
 have dg : decide ((a : Int) > (b : Int)) = false := decide_eq_false (by omega)
 have hb0 := bel_new w (.cells #[.int .i64 (I : Int), .slice An ln cn, .slice Ag G.length cg, .slice Ao lo co] 26)
 have hX0 := heap_alloc_new w (.cells #[.int .i64 (I : Int), .slice An ln cn, .slice Ag G.length cg, .slice Ao lo co] 26)
 have hz0 : (w.alloc (.cells #[.int .i64 (I : Int), .slice An ln cn, .slice Ag G.length cg, .slice Ao lo co] 26)).heap.size = w.heap.size + 1 := by simp
 obtain ⟨W0, hW0⟩ : ∃ W0, w.alloc (.cells #[.int .i64 (I : Int), .slice An ln cn, .slice Ag G.length cg, .slice Ao lo co] 26) = W0 := ⟨_, rfl⟩
 rw [hW0] at hb0 hX0 hz0
 have hR0 := heap_alloc_new W0 (.cells #[.int .i64 0, .slice none 0 0, .slice none 0 0, .slice none 0 0] 26)
 have hb1 := bel_new W0 (.cells #[.int .i64 0, .slice none 0 0, .slice none 0 0, .slice none 0 0] 26)
 have hX1 := (hb1.block w.heap.size (by omega)).trans hX0
 have hB1 := hb0.trans (hb1.mono (by omega))
 rw [hz0] at hR0
 have HL1 : Hid (∀ w', Below w.heap.size w w' → Calls Try.prog 43 #[.agg #[.int .i64 (I : Int), .slice An ln cn, .slice Ag G.length cg, .slice Ao lo co]] w' fun e w'' => e = .returned (.int .i64 (F : Int)) ∧ Below w'.heap.size w' w'') := Lib.hid fun w' hb => by
  have hlx : ln = nx.length := by have := hn.len; rw [ints_length] at this; omega
  have hlo : lo = os.length := by have := ho.len; rw [ints_length] at this; omega
  have hgg : G.length = (Cir.gatesOf G).length := (Cir.gatesOf_length G).symm
  have := l1First_any (.agg #[.int .i64 (I : Int), .slice An ln cn, .slice Ag G.length cg, .slice Ao lo co]) ⟨I, nx, Cir.gatesOf G, os⟩ w' ⟨_, _, _, rfl, by unfold IntsAt; show Row w' 1 _ nx.length _; rw [← hlx]; exact Row.below hn hb, by unfold CubesAt; show Row w' 2 _ (Cir.gatesOf G).length _; rw [← hgg]; exact Row.below (Row.of_own hg) hb, by unfold IntsAt; show Row w' 1 _ os.length _; rw [← hlo]; exact Row.below ho hb⟩ (by show (0 : Int) ≤ I; omega) (by show (I : Int) ≤ 100; omega) (by show nx.length ≤ 100; omega)
  have e : Cir.first ⟨I, nx, Cir.gatesOf G, os⟩ = (F : Int) := by unfold Cir.first; simp only; omega
  rwa [e] at this
 have HGk : Hid (∀ k, k < G.length → ∃ g, G.reverse[k]? = some g ∧ ∀ w', Below w.heap.size w w' → ∃ b o, Ag = some ⟨b, o, none⟩ ∧ w'.cell? ⟨b, o + k * 2, none⟩ = some (.int .i64 (g.1 : Int)) ∧ w'.cell? ⟨b, o + k * 2 + 1, none⟩ = some (.int .i64 (g.2 : Int))) := Lib.hid fun k hk => by
  obtain ⟨g, hgk⟩ : ∃ g, G.reverse[k]? = some g := ⟨_, List.getElem?_eq_getElem (by simpa using hk)⟩
  refine ⟨g, hgk, fun w' hb => ?_⟩
  obtain ⟨b, o, x, hA, hbl, hx, h1, h2⟩ := cubes_open (Row.of_own hg) hb (Cir.gatesOf_length G).symm (i := k) (by rw [Cir.gatesOf_length]; exact hk)
  have e : x = ((g.1 : Int), (g.2 : Int)) := by
   have h3 := hx.out
   rw [Cir.gatesOf_get, hgk] at h3
   exact (Option.some.inj h3).symm
  subst e
  exact ⟨b, o, hA, h1, h2⟩
 have HG := Lib.hid hg
 have hm2 := tmod_two a
 have hwb : 0 < b → IntKind.i64.wrap ((b : Int) - 1) = (b : Int) - 1 := fun _ => IntWalk.i64_in _ (by omega)
 have hCg : cg ≤ maxLen := by obtain ⟨A, c, e, h1, h2⟩ := Row.shape (Row.of_own hg); injection e with e1 e2 e3; rw [e3]; exact h2
 have hFb : F ≤ 300 := by omega
 obtain ⟨rp, hrp⟩ : ∃ rp, Cir.andS F G a b = rp := ⟨_, rfl⟩
 rw [hrp]
 clear hn hg ho hb0 hb1 hX0 hF
 go_enter Try.func130, Try.ntmps130
 go_upto_region 5 with fail
 generalize W0.alloc (.cells #[.int .i64 0, .slice none 0 0, .slice none 0 0, .slice none 0 0] 26) = W1 at *
 obtain ⟨gx, hgx⟩ : ∃ gx, gx = w.heap.size := ⟨_, rfl⟩
 obtain ⟨gR, hgR⟩ : ∃ gR, gR = w.heap.size + 1 := ⟨_, rfl⟩
 try rw [hz0]
 rw [← hgR] at hR0
 rw [← hgx] at hX1
 rw [← hgR, ← hgx]
 have hwR : w.heap.size ≤ gR := by omega
 have hwx : w.heap.size ≤ gx := by omega
 have hxR : gx ≠ gR := by omega
 have hgx1 := blk_ltB hX1
 have hgR1 := blk_ltB hR0
 have HX1 := Lib.hid hX1
 have HR1 := Lib.hid hR0
 have HB1 := Lib.hid hB1
 have q0 := blk_cell hX1 0
 have q1 := blk_cell hX1 1
 have q2 := blk_cell hX1 2
 have q3 := blk_cell hX1 3
 have r0 := blk_cell hR0 0
 have r1 := blk_cell hR0 1
 have r2 := blk_cell hR0 2
 have r3 := blk_cell hR0 3
 have f0 := blk_free hR0 0
 have f1 := blk_free hR0 1
 have f2 := blk_free hR0 2
 have f3 := blk_free hR0 3
 simp at q0 q1 q2 q3 r0 r1 r2 r3
 have HG1 : Hid (∀ u0 u1 u2 u3 : Value, ((((W1.setCell ⟨gR, 0, none⟩ u0).setCell ⟨gR, 1, none⟩ u1).setCell ⟨gR, 2, none⟩ u2).setCell ⟨gR, 3, none⟩ u3).ownsRow 0 64 2 (.slice Ag G.length cg) G.length (cubes (Cir.gatesOf G)) ∧ Below w.heap.size w ((((W1.setCell ⟨gR, 0, none⟩ u0).setCell ⟨gR, 1, none⟩ u1).setCell ⟨gR, 2, none⟩ u2).setCell ⟨gR, 3, none⟩ u3)) := Lib.hid fun u0 u1 u2 u3 => by
  have ow := own_below HG.out HB1.out
  have nt := own_ne_tag ow HR1.out (by decide)
  exact ⟨own_setN (own_setN (own_setN (own_setN ow nt) nt) nt) nt, (((HB1.out.setCell hwR _).setCell hwR _).setCell hwR _).setCell hwR _⟩
 clear hW0 hz0 hgx hgR hX1 hR0 hB1 dg
 unfold Cir.andS at hrp
 by_cases c0 : a = 0
 ·rw [if_pos (.inl c0)] at hrp
  subst hrp
  have d0 : ((a : Int) == 0) = true := by simp; omega
  clear c0 hm2 hwb
  go_wp2_with fail
  refine bodyPost_ret (v := .tuple #[.agg #[.int .i64 (I : Int), .slice An ln cn, .slice Ag G.length cg, .slice Ao lo co], .int .i64 0]) (by simp [results, Try.results130, go_sem, r0, r1, r2, r3]) rfl ⟨_, rfl, (HG1.out _ _ _ _).1, (HG1.out _ _ _ _).2⟩
 have d0 : ((a : Int) == 0) = false := by simp; omega
 have hwb' := hwb (by omega)
 clear hwb
 by_cases c1 : a = b ^^^ 1
 ·rw [if_pos (.inr c1)] at hrp
  subst hrp
  obtain ⟨e1, e2⟩ := (Cir.xor1_pair (by omega)).1 c1
  have d1 : ((a : Int) == (b : Int) - 1) = true := by simp; omega
  have d2 : (((a % 2 : Nat) : Int) == 0) = true := by rw [e2]; rfl
  clear c1 e1 e2
  generalize a % 2 = r at *
  go_wp2_with fail
  refine bodyPost_ret (v := .tuple #[.agg #[.int .i64 (I : Int), .slice An ln cn, .slice Ag G.length cg, .slice Ao lo co], .int .i64 0]) (by simp [results, Try.results130, go_sem, r0, r1, r2, r3]) rfl ⟨_, rfl, (HG1.out _ _ _ _).1, (HG1.out _ _ _ _).2⟩
 rw [if_neg (by rintro (h | h); exact c0 h; exact c1 h)] at hrp
 have hdd : ((a : Int) == (b : Int) - 1) = false ∨ (((a : Int) == (b : Int) - 1) = true ∧ (((a % 2 : Nat) : Int) == 0) = false) := by
  by_cases e : b = a + 1
  ·right
   have h2 : ¬ (a % 2 = 0) := fun h => c1 ((Cir.xor1_pair (by omega)).2 ⟨e, h⟩)
   exact ⟨by simp; omega, by simp; omega⟩
  ·left
   simp
   omega
 clear c1
 generalize a % 2 = r at *
 by_cases c2 : a = 1
 ·rw [if_pos (.inl c2)] at hrp
  subst hrp
  have d3 : ((a : Int) == 1) = true := by simp; omega
  clear c2 c0
  rcases hdd with d1 | ⟨d1, d2⟩
  all_goals
   go_wp2_with fail
   refine bodyPost_ret (v := .tuple #[.agg #[.int .i64 (I : Int), .slice An ln cn, .slice Ag G.length cg, .slice Ao lo co], .int .i64 (b : Int)]) (by simp [results, Try.results130, go_sem, r0, r1, r2, r3]) rfl ⟨_, rfl, (HG1.out _ _ _ _).1, (HG1.out _ _ _ _).2⟩
 have d3 : ((a : Int) == 1) = false := by simp; omega
 by_cases c3 : a = b
 ·rw [if_pos (.inr c3)] at hrp
  subst hrp
  have d4 : ((a : Int) == (b : Int)) = true := by simp; omega
  clear c3 c2 c0
  rcases hdd with d1 | ⟨d1, d2⟩
  all_goals
   go_wp2_with fail
   refine bodyPost_ret (v := .tuple #[.agg #[.int .i64 (I : Int), .slice An ln cn, .slice Ag G.length cg, .slice Ao lo co], .int .i64 (b : Int)]) (by simp [results, Try.results130, go_sem, r0, r1, r2, r3]) rfl ⟨_, rfl, (HG1.out _ _ _ _).1, (HG1.out _ _ _ _).2⟩
 rw [if_neg (by rintro (h | h); exact c2 h; exact c3 h)] at hrp
 have d4 : ((a : Int) == (b : Int)) = false := by simp; omega
 have HKs : Hid (∀ k, (∀ j, j < k → G.reverse[j]? ≠ some (a, b)) → G.reverse[k]? = some (a, b) → Cir.knownG F G a b = some (2 * (F + k))) := Lib.hid fun k h1 h2 => Cir.known_some h1 h2
 have HKn : Hid ((∀ j, j < G.length → G.reverse[j]? ≠ some (a, b)) → Cir.knownG F G a b = none) := Lib.hid fun h => Cir.known_none h
 generalize Cir.knownG F G a b = kn at *
 clear r0 r1 r2 r3 f0 f1 f2 f3 HG1 c0 c2 c3
 rcases hdd with d1 | ⟨d1, d2⟩
 all_goals
  go_wp2_with fail
  refine (HL1.out W1 HB1.out).mono ?_
  rintro e w3 ⟨rfl, hb3⟩
  have HX3 := Lib.hid ((hb3.block gx hgx1).trans HX1.out)
  have HR3 := Lib.hid ((hb3.block gR hgR1).trans HR1.out)
  have HB3 := Lib.hid (HB1.out.trans (hb3.mono HB1.out.size))
  clear hb3 q0 q1 q2 q3
  go_wp2_with fail
  go_loopw [10] (fun i wr => ∃ k : Nat, k ≤ G.length ∧ i = .int .i64 k ∧ Hid (∀ j, j < k → G.reverse[j]? ≠ some (a, b)) ∧ Hid (wr.heap[gx]? = some (.cells #[.int .i64 (I : Int), .slice An ln cn, .slice Ag G.length cg, .slice Ao lo co] 26 (0, 0))) ∧ Hid (wr.heap[gR]? = some (.cells #[.int .i64 0, .slice none 0 0, .slice none 0 0, .slice none 0 0] 26 (0, 0))) ∧ Hid (Below w.heap.size w wr)) (fun i _ => G.length - (intOf i).toNat)
  case atStart => exact ⟨0, Nat.zero_le _, rfl, Lib.hid (fun j h => absurd h (Nat.not_lt_zero _)), HX3, HR3, HB3⟩
  case round =>
   obtain ⟨k, hk, rfl, HN, HX, HR, Hb⟩ := hrel
   clear HX3 HR3 HB3 HX1 HR1 HB1 HL1
   have q0 := blk_cell HX.out 0
   have q1 := blk_cell HX.out 1
   have q2 := blk_cell HX.out 2
   have q3 := blk_cell HX.out 3
   simp at q0 q1 q2 q3
   by_cases hlt : k < G.length
   ·obtain ⟨g, hgk, hcells⟩ := HGk.out k hlt
    obtain ⟨bb, oo, hA, y1, y2⟩ := hcells wr Hb.out
    subst hA
    have Hgk := Lib.hid hgk
    clear hcells hgk
    obtain ⟨g1, g2⟩ := g
    simp only at y1 y2
    by_cases e1 : g1 = a
    ·have z1 : ((g1 : Int) == (a : Int)) = true := by simp; omega
     by_cases e2 : g2 = b
     ·have z2 : ((g2 : Int) == (b : Int)) = true := by simp; omega
      have hks := HKs.out k HN.out (by rw [Hgk.out, e1, e2])
      subst hks
      simp only at hrp
      subst hrp
      have r0 := blk_cell HR.out 0
      have r1 := blk_cell HR.out 1
      have r2 := blk_cell HR.out 2
      have r3 := blk_cell HR.out 3
      have f0 := blk_free HR.out 0
      have f1 := blk_free HR.out 1
      have f2 := blk_free HR.out 2
      have f3 := blk_free HR.out 3
      simp at r0 r1 r2 r3
      have hw1 : IntKind.i64.wrap ((F : Int) + (k : Int)) = (F : Int) + k := IntWalk.i64_in _ (by omega)
      have hw2 : IntKind.i64.wrap (2 * ((F : Int) + (k : Int))) = ((2 * (F + k) : Nat) : Int) := by rw [IntWalk.i64_in _ (by omega)]; omega
      generalize 2 * (F + k) = res at *
      clear HKn HKs e1 e2
      go_wp2_with fail
      refine bodyPost_ret (v := .tuple #[.agg #[.int .i64 (I : Int), .slice An ln cn, .slice (some ⟨bb, oo, none⟩) G.length cg, .slice Ao lo co], .int .i64 (res : Int)]) (by simp [results, Try.results130, go_sem, r0, r1, r2, r3]) rfl ⟨_, rfl, ?_, ?_⟩
      ·have ow := own_below HG.out Hb.out
       have nt := own_ne_tag ow HR.out (by decide)
       exact own_setN (own_setN (own_setN (own_setN ow nt) nt) nt) nt
      ·exact (((Hb.out.setCell hwR _).setCell hwR _).setCell hwR _).setCell hwR _
     ·have z2 : ((g2 : Int) == (b : Int)) = false := by simp; omega
      go_wp2_with fail
      go_roundw
      case rel => exact ⟨k + 1, by omega, by go_num, Lib.hid (fun j hj => by
       by_cases e : j = k
       ·subst e; rw [Hgk.out]; intro h; have := Option.some.inj h; injection this; omega
       ·exact HN.out j (by omega)), HX, HR, Hb⟩
      case measure => simp [intOf]; omega
    ·have z1 : ((g1 : Int) == (a : Int)) = false := by simp; omega
     go_wp2_with fail
     go_roundw
     case rel => exact ⟨k + 1, by omega, by go_num, Lib.hid (fun j hj => by
      by_cases e : j = k
      ·subst e; rw [Hgk.out]; intro h; have := Option.some.inj h; injection this; omega
      ·exact HN.out j (by omega)), HX, HR, Hb⟩
     case measure => simp [intOf]; omega
   ·obtain rfl : k = G.length := by omega
    have hkn := HKn.out HN.out
    subst hkn
    simp only at hrp
    subst hrp
    have hb5 := bel_new wr (.cells #[] 64)
    have hz5 : (wr.alloc (.cells #[] 64)).heap.size = wr.heap.size + 1 := by simp
    have HE := Lib.hid (World.ownsRow_lit (base := wr.heap.size) (e := 64) (size := 2) wr #[] 0 (Nat.le_refl _) (by unfold maxLen; omega) rfl)
    have HGr := Lib.hid (Row.below (Row.of_own (own_below HG.out Hb.out)) hb5)
    have hgxz := blk_ltB HX.out
    have hgRz := blk_ltB HR.out
    have HX5 := Lib.hid ((hb5.block gx hgxz).trans HX.out)
    have HR5 := Lib.hid ((hb5.block gR hgRz).trans HR.out)
    have Hb5 := Lib.hid (Hb.out.trans (hb5.mono Hb.out.size))
    have hwr := Hb.out.size
    have q5 := blk_cell HX5.out 2
    simp at q5
    have HCu : Hid (∀ u ∈ cubes (Cir.gatesOf G), u.oneCell' = true) := Lib.hid (fun u hu => by
     unfold cubes at hu
     obtain ⟨x, -, hx⟩ := List.mem_flatMap.1 hu
     simp at hx
     rcases hx with rfl | rfl <;> rfl)
    have HSn : Hid (cubes (Cir.gatesOf ((a, b) :: G)) = cubes (Cir.gatesOf G) ++ [.int .i64 (a : Int), .int .i64 (b : Int)]) := Lib.hid (by
     rw [Cir.gatesOf_cons]
     unfold cubes
     rw [List.flatMap_append]
     rfl)
    generalize hcs : cubes (Cir.gatesOf G) = cs at *
    obtain ⟨B, hB⟩ : ∃ B, B = wr.heap.size := ⟨_, rfl⟩
    have hxB : gx < B := by omega
    have hRB : gR < B := by omega
    have HEB : Hid ((wr.alloc (.cells #[] 64)).ownsRow B 64 2 (.slice (some ⟨wr.heap.size, 0, none⟩) 0 0) 0 []) := Lib.hid (by rw [hB]; exact HE.out)
    have hB5 : B ≤ (wr.alloc (.cells #[] 64)).heap.size := by omega
    clear hb5 hcs HE HGk HKs HKn HX HR HN q0 q1 q3 hlt hk
    go_upto_region 16 with (first
     | (at_builtin; refine append_gatesO rfl (.tmp 72) (.tmp 74) rfl B (.slice (some ⟨wr.heap.size, 0, none⟩) 0 0) 0 [] rfl HEB.out (.slice Ag G.length cg) G.length cs rfl HGr.out HCu.out (by omega) hB5 ?_; intro v6 w6 hown6 hg6 hat6; simp only [Nat.zero_add, List.nil_append] at hown6; obtain ⟨A6, c6, hv6⟩ := slice_of_own hown6; subst hv6; have O6 : Only (fun q => B ≤ q) _ w6 := Only.grown hg6 (fun k hk => (HEB.out.lt k hk).1); have HX6 := Lib.hid ((O6.block gx (by omega) (by omega)).trans HX5.out); have HR6 := Lib.hid ((O6.block gR (by omega) (by omega)).trans HR5.out); have Hb6 := Lib.hid (Only.below Hb5.out O6 (by omega) (fun q hq => by omega)); have hz6 := O6.size; have hbl := bel_new w6 (.cells #[.int .i64 (a : Int), .int .i64 (b : Int)] 64); have hzl : (w6.alloc (.cells #[.int .i64 (a : Int), .int .i64 (b : Int)] 64)).heap.size = w6.heap.size + 1 := (by simp); have Hlit := Lib.hid (Row.of_own (World.ownsRow_lit (base := w6.heap.size) (e := 64) (size := 2) w6 #[.int .i64 (a : Int), .int .i64 (b : Int)] 1 (Nat.le_refl _) (by unfold maxLen; omega) rfl)); have HO6 := Lib.hid (own_below hown6 hbl); have HX7 := Lib.hid ((hbl.block gx (by omega)).trans HX6.out); have HR7 := Lib.hid ((hbl.block gR (by omega)).trans HR6.out); have Hb7 := Lib.hid (Hb6.out.trans (hbl.mono Hb6.out.size)); clear hown6 hg6 hat6 O6 hbl)
     | (at_builtin; refine append_gatesO rfl (.tmp 75) (.tmp 79) rfl B (.slice A6 G.length c6) G.length cs rfl HO6.out _ 1 [.int .i64 (a : Int), .int .i64 (b : Int)] rfl Hlit.out (by simp [Value.oneCell']) (by omega) (by omega) ?_; intro v8 w8 hown8 hg8 hat8; obtain ⟨A8, c8, hv8⟩ := slice_of_own hown8; subst hv8; have O8 : Only (fun q => B ≤ q) _ w8 := Only.grown hg8 (fun k hk => (HO6.out.lt k hk).1); have hX8 := (O8.block gx (by omega) (by omega)).trans HX7.out; have HR8 := Lib.hid ((O8.block gR (by omega) (by omega)).trans HR7.out); have Hb8 := Lib.hid (Only.below Hb7.out O8 (by omega) (fun q hq => by omega)); have q8 := blk_cell hX8 2; have f8 := blk_free hX8 2; have HX8 := Lib.hid hX8; have Hown8 := Lib.hid hown8; have hz8 := O8.size; clear hown8 hg8 hat8 O8 hX8))
    have hX9 := heap_setCell_same w8 gx 2 _ _ (.slice A8 (G.length + 1) c8) HX8.out
    simp at hX9
    have hR9 := (heap_setCell_other' w8 gx 2 (.slice A8 (G.length + 1) c8) gR (fun e => hxR e.symm)).trans HR8.out
    have HB9 := Lib.hid (Hb8.out.setCell (p := ⟨gx, 2, none⟩) hwx (.slice A8 (G.length + 1) c8))
    have HO9 := Lib.hid (own_setB (i := 2) (u := .slice A8 (G.length + 1) c8) Hown8.out hxB)
    clear q8 f8 q2 HX8 HR8 Hb8 Hown8 HO6 HX7 HR7 Hb7 HX6 HR6 Hb6 Hlit
    generalize w8.setCell ⟨gx, 2, none⟩ (.slice A8 (G.length + 1) c8) = W9 at *
    have q0 := blk_cell hX9 0
    have q1 := blk_cell hX9 1
    have q2 := blk_cell hX9 2
    have q3 := blk_cell hX9 3
    have r0 := blk_cell hR9 0
    have r1 := blk_cell hR9 1
    have r2 := blk_cell hR9 2
    have r3 := blk_cell hR9 3
    have f0 := blk_free hR9 0
    have f1 := blk_free hR9 1
    have f2 := blk_free hR9 2
    have f3 := blk_free hR9 3
    simp at q0 q1 q2 q3 r0 r1 r2 r3
    have hw1 : IntKind.i64.wrap ((F : Int) + ((G.length : Int) + 1)) = (F : Int) + (G.length + 1) := IntWalk.i64_in _ (by omega)
    have hw2 : IntKind.i64.wrap ((F : Int) + ((G.length : Int) + 1) - 1) = (F : Int) + G.length := by rw [IntWalk.i64_in _ (by omega)]; omega
    have hw3 : IntKind.i64.wrap (2 * ((F : Int) + (G.length : Int))) = ((2 * (F + G.length) : Nat) : Int) := by rw [IntWalk.i64_in _ (by omega)]; omega
    have HR9 := Lib.hid hR9
    clear hX9 hR9
    go_region
    all_goals
     go_wp2_with fail
     refine bodyPost_ret (v := .tuple #[.agg #[.int .i64 (I : Int), .slice An ln cn, .slice A8 (G.length + 1) c8, .slice Ao lo co], .int .i64 ((2 * (F + G.length) : Nat) : Int)]) (by simp [results, Try.results130, go_sem, r0, r1, r2, r3, hxR]) rfl ⟨_, rfl, ?_, ?_⟩
     ·have nt := own_ne_tag HO9.out HR9.out (by decide)
      show World.ownsRow _ 0 _ 2 _ (G.length + 1) (cubes (Cir.gatesOf ((a, b) :: G)))
      rw [HSn.out]
      exact own_mono (own_setN (own_setN (own_setN (own_setN HO9.out nt) nt) nt) nt) (Nat.zero_le _)
     ·exact ((((HB9.out.setCell hwR _).setCell hwR _).setCell hwR _).setCell hwR _).drew
theorem l3And_sw (I a b F : Nat) (An Ao : Option Addr) (cn co ln lo : Nat) (nx os : List Int) (vg : Value) (G : List (Nat × Nat)) (w : World) (hF : F = 1 + I + ln) (hI : I ≤ 100) (hln : ln ≤ 100) (hG : G.length ≤ 100)
  (hn : Row w 1 (.slice An ln cn) ln (ints nx)) (hg : w.ownsRow 0 64 2 vg G.length (cubes (Cir.gatesOf G))) (ho : Row w 1 (.slice Ao lo co) lo (ints os)) (hab : a < b) (hb : b < 2 * (F + G.length)) :
  Calls Try.prog 130 #[.agg #[.int .i64 (I : Int), .slice An ln cn, vg, .slice Ao lo co], .int .i64 (b : Int), .int .i64 (a : Int)] w (AndGive I (.slice An ln cn) (.slice Ao lo co) (Cir.andS F G a b) w) := by
 obtain ⟨Ag, cg, hvg⟩ := slice_of_own hg
 subst hvg
 have dg : decide ((b : Int) > (a : Int)) = true := decide_eq_true (by omega)
 have hb0 := bel_new w (.cells #[.int .i64 (I : Int), .slice An ln cn, .slice Ag G.length cg, .slice Ao lo co] 26)
 have hX0 := heap_alloc_new w (.cells #[.int .i64 (I : Int), .slice An ln cn, .slice Ag G.length cg, .slice Ao lo co] 26)
 have hz0 : (w.alloc (.cells #[.int .i64 (I : Int), .slice An ln cn, .slice Ag G.length cg, .slice Ao lo co] 26)).heap.size = w.heap.size + 1 := by simp
 obtain ⟨W0, hW0⟩ : ∃ W0, w.alloc (.cells #[.int .i64 (I : Int), .slice An ln cn, .slice Ag G.length cg, .slice Ao lo co] 26) = W0 := ⟨_, rfl⟩
 rw [hW0] at hb0 hX0 hz0
 have hR0 := heap_alloc_new W0 (.cells #[.int .i64 0, .slice none 0 0, .slice none 0 0, .slice none 0 0] 26)
 have hb1 := bel_new W0 (.cells #[.int .i64 0, .slice none 0 0, .slice none 0 0, .slice none 0 0] 26)
 have hX1 := (hb1.block w.heap.size (by omega)).trans hX0
 have hB1 := hb0.trans (hb1.mono (by omega))
 rw [hz0] at hR0
 have HL1 : Hid (∀ w', Below w.heap.size w w' → Calls Try.prog 43 #[.agg #[.int .i64 (I : Int), .slice An ln cn, .slice Ag G.length cg, .slice Ao lo co]] w' fun e w'' => e = .returned (.int .i64 (F : Int)) ∧ Below w'.heap.size w' w'') := Lib.hid fun w' hb => by
  have hlx : ln = nx.length := by have := hn.len; rw [ints_length] at this; omega
  have hlo : lo = os.length := by have := ho.len; rw [ints_length] at this; omega
  have hgg : G.length = (Cir.gatesOf G).length := (Cir.gatesOf_length G).symm
  have := l1First_any (.agg #[.int .i64 (I : Int), .slice An ln cn, .slice Ag G.length cg, .slice Ao lo co]) ⟨I, nx, Cir.gatesOf G, os⟩ w' ⟨_, _, _, rfl, by unfold IntsAt; show Row w' 1 _ nx.length _; rw [← hlx]; exact Row.below hn hb, by unfold CubesAt; show Row w' 2 _ (Cir.gatesOf G).length _; rw [← hgg]; exact Row.below (Row.of_own hg) hb, by unfold IntsAt; show Row w' 1 _ os.length _; rw [← hlo]; exact Row.below ho hb⟩ (by show (0 : Int) ≤ I; omega) (by show (I : Int) ≤ 100; omega) (by show nx.length ≤ 100; omega)
  have e : Cir.first ⟨I, nx, Cir.gatesOf G, os⟩ = (F : Int) := by unfold Cir.first; simp only; omega
  rwa [e] at this
 have HGk : Hid (∀ k, k < G.length → ∃ g, G.reverse[k]? = some g ∧ ∀ w', Below w.heap.size w w' → ∃ b o, Ag = some ⟨b, o, none⟩ ∧ w'.cell? ⟨b, o + k * 2, none⟩ = some (.int .i64 (g.1 : Int)) ∧ w'.cell? ⟨b, o + k * 2 + 1, none⟩ = some (.int .i64 (g.2 : Int))) := Lib.hid fun k hk => by
  obtain ⟨g, hgk⟩ : ∃ g, G.reverse[k]? = some g := ⟨_, List.getElem?_eq_getElem (by simpa using hk)⟩
  refine ⟨g, hgk, fun w' hb => ?_⟩
  obtain ⟨b, o, x, hA, hbl, hx, h1, h2⟩ := cubes_open (Row.of_own hg) hb (Cir.gatesOf_length G).symm (i := k) (by rw [Cir.gatesOf_length]; exact hk)
  have e : x = ((g.1 : Int), (g.2 : Int)) := by
   have h3 := hx.out
   rw [Cir.gatesOf_get, hgk] at h3
   exact (Option.some.inj h3).symm
  subst e
  exact ⟨b, o, hA, h1, h2⟩
 have HG := Lib.hid hg
 have hm2 := tmod_two a
 have hwb : 0 < b → IntKind.i64.wrap ((b : Int) - 1) = (b : Int) - 1 := fun _ => IntWalk.i64_in _ (by omega)
 have hCg : cg ≤ maxLen := by obtain ⟨A, c, e, h1, h2⟩ := Row.shape (Row.of_own hg); injection e with e1 e2 e3; rw [e3]; exact h2
 have hFb : F ≤ 300 := by omega
 obtain ⟨rp, hrp⟩ : ∃ rp, Cir.andS F G a b = rp := ⟨_, rfl⟩
 rw [hrp]
 clear hn hg ho hb0 hb1 hX0 hF
 go_enter Try.func130, Try.ntmps130
 go_upto_region 5 with fail
 generalize W0.alloc (.cells #[.int .i64 0, .slice none 0 0, .slice none 0 0, .slice none 0 0] 26) = W1 at *
 obtain ⟨gx, hgx⟩ : ∃ gx, gx = w.heap.size := ⟨_, rfl⟩
 obtain ⟨gR, hgR⟩ : ∃ gR, gR = w.heap.size + 1 := ⟨_, rfl⟩
 try rw [hz0]
 rw [← hgR] at hR0
 rw [← hgx] at hX1
 rw [← hgR, ← hgx]
 have hwR : w.heap.size ≤ gR := by omega
 have hwx : w.heap.size ≤ gx := by omega
 have hxR : gx ≠ gR := by omega
 have hgx1 := blk_ltB hX1
 have hgR1 := blk_ltB hR0
 have HX1 := Lib.hid hX1
 have HR1 := Lib.hid hR0
 have HB1 := Lib.hid hB1
 have q0 := blk_cell hX1 0
 have q1 := blk_cell hX1 1
 have q2 := blk_cell hX1 2
 have q3 := blk_cell hX1 3
 have r0 := blk_cell hR0 0
 have r1 := blk_cell hR0 1
 have r2 := blk_cell hR0 2
 have r3 := blk_cell hR0 3
 have f0 := blk_free hR0 0
 have f1 := blk_free hR0 1
 have f2 := blk_free hR0 2
 have f3 := blk_free hR0 3
 simp at q0 q1 q2 q3 r0 r1 r2 r3
 have HG1 : Hid (∀ u0 u1 u2 u3 : Value, ((((W1.setCell ⟨gR, 0, none⟩ u0).setCell ⟨gR, 1, none⟩ u1).setCell ⟨gR, 2, none⟩ u2).setCell ⟨gR, 3, none⟩ u3).ownsRow 0 64 2 (.slice Ag G.length cg) G.length (cubes (Cir.gatesOf G)) ∧ Below w.heap.size w ((((W1.setCell ⟨gR, 0, none⟩ u0).setCell ⟨gR, 1, none⟩ u1).setCell ⟨gR, 2, none⟩ u2).setCell ⟨gR, 3, none⟩ u3)) := Lib.hid fun u0 u1 u2 u3 => by
  have ow := own_below HG.out HB1.out
  have nt := own_ne_tag ow HR1.out (by decide)
  exact ⟨own_setN (own_setN (own_setN (own_setN ow nt) nt) nt) nt, (((HB1.out.setCell hwR _).setCell hwR _).setCell hwR _).setCell hwR _⟩
 clear hW0 hz0 hgx hgR hX1 hR0 hB1 dg
 unfold Cir.andS at hrp
 by_cases c0 : a = 0
 ·rw [if_pos (.inl c0)] at hrp
  subst hrp
  have d0 : ((a : Int) == 0) = true := by simp; omega
  clear c0 hm2 hwb
  go_wp2_with fail
  refine bodyPost_ret (v := .tuple #[.agg #[.int .i64 (I : Int), .slice An ln cn, .slice Ag G.length cg, .slice Ao lo co], .int .i64 0]) (by simp [results, Try.results130, go_sem, r0, r1, r2, r3]) rfl ⟨_, rfl, (HG1.out _ _ _ _).1, (HG1.out _ _ _ _).2⟩
 have d0 : ((a : Int) == 0) = false := by simp; omega
 have hwb' := hwb (by omega)
 clear hwb
 by_cases c1 : a = b ^^^ 1
 ·rw [if_pos (.inr c1)] at hrp
  subst hrp
  obtain ⟨e1, e2⟩ := (Cir.xor1_pair (by omega)).1 c1
  have d1 : ((a : Int) == (b : Int) - 1) = true := by simp; omega
  have d2 : (((a % 2 : Nat) : Int) == 0) = true := by rw [e2]; rfl
  clear c1 e1 e2
  generalize a % 2 = r at *
  go_wp2_with fail
  refine bodyPost_ret (v := .tuple #[.agg #[.int .i64 (I : Int), .slice An ln cn, .slice Ag G.length cg, .slice Ao lo co], .int .i64 0]) (by simp [results, Try.results130, go_sem, r0, r1, r2, r3]) rfl ⟨_, rfl, (HG1.out _ _ _ _).1, (HG1.out _ _ _ _).2⟩
 rw [if_neg (by rintro (h | h); exact c0 h; exact c1 h)] at hrp
 have hdd : ((a : Int) == (b : Int) - 1) = false ∨ (((a : Int) == (b : Int) - 1) = true ∧ (((a % 2 : Nat) : Int) == 0) = false) := by
  by_cases e : b = a + 1
  ·right
   have h2 : ¬ (a % 2 = 0) := fun h => c1 ((Cir.xor1_pair (by omega)).2 ⟨e, h⟩)
   exact ⟨by simp; omega, by simp; omega⟩
  ·left
   simp
   omega
 clear c1
 generalize a % 2 = r at *
 by_cases c2 : a = 1
 ·rw [if_pos (.inl c2)] at hrp
  subst hrp
  have d3 : ((a : Int) == 1) = true := by simp; omega
  clear c2 c0
  rcases hdd with d1 | ⟨d1, d2⟩
  all_goals
   go_wp2_with fail
   refine bodyPost_ret (v := .tuple #[.agg #[.int .i64 (I : Int), .slice An ln cn, .slice Ag G.length cg, .slice Ao lo co], .int .i64 (b : Int)]) (by simp [results, Try.results130, go_sem, r0, r1, r2, r3]) rfl ⟨_, rfl, (HG1.out _ _ _ _).1, (HG1.out _ _ _ _).2⟩
 have d3 : ((a : Int) == 1) = false := by simp; omega
 by_cases c3 : a = b
 ·rw [if_pos (.inr c3)] at hrp
  subst hrp
  have d4 : ((a : Int) == (b : Int)) = true := by simp; omega
  clear c3 c2 c0
  rcases hdd with d1 | ⟨d1, d2⟩
  all_goals
   go_wp2_with fail
   refine bodyPost_ret (v := .tuple #[.agg #[.int .i64 (I : Int), .slice An ln cn, .slice Ag G.length cg, .slice Ao lo co], .int .i64 (b : Int)]) (by simp [results, Try.results130, go_sem, r0, r1, r2, r3]) rfl ⟨_, rfl, (HG1.out _ _ _ _).1, (HG1.out _ _ _ _).2⟩
 rw [if_neg (by rintro (h | h); exact c2 h; exact c3 h)] at hrp
 have d4 : ((a : Int) == (b : Int)) = false := by simp; omega
 have HKs : Hid (∀ k, (∀ j, j < k → G.reverse[j]? ≠ some (a, b)) → G.reverse[k]? = some (a, b) → Cir.knownG F G a b = some (2 * (F + k))) := Lib.hid fun k h1 h2 => Cir.known_some h1 h2
 have HKn : Hid ((∀ j, j < G.length → G.reverse[j]? ≠ some (a, b)) → Cir.knownG F G a b = none) := Lib.hid fun h => Cir.known_none h
 generalize Cir.knownG F G a b = kn at *
 clear r0 r1 r2 r3 f0 f1 f2 f3 HG1 c0 c2 c3
 rcases hdd with d1 | ⟨d1, d2⟩
 all_goals
  go_wp2_with fail
  refine (HL1.out W1 HB1.out).mono ?_
  rintro e w3 ⟨rfl, hb3⟩
  have HX3 := Lib.hid ((hb3.block gx hgx1).trans HX1.out)
  have HR3 := Lib.hid ((hb3.block gR hgR1).trans HR1.out)
  have HB3 := Lib.hid (HB1.out.trans (hb3.mono HB1.out.size))
  clear hb3 q0 q1 q2 q3
  go_wp2_with fail
  go_loopw [10] (fun i wr => ∃ k : Nat, k ≤ G.length ∧ i = .int .i64 k ∧ Hid (∀ j, j < k → G.reverse[j]? ≠ some (a, b)) ∧ Hid (wr.heap[gx]? = some (.cells #[.int .i64 (I : Int), .slice An ln cn, .slice Ag G.length cg, .slice Ao lo co] 26 (0, 0))) ∧ Hid (wr.heap[gR]? = some (.cells #[.int .i64 0, .slice none 0 0, .slice none 0 0, .slice none 0 0] 26 (0, 0))) ∧ Hid (Below w.heap.size w wr)) (fun i _ => G.length - (intOf i).toNat)
  case atStart => exact ⟨0, Nat.zero_le _, rfl, Lib.hid (fun j h => absurd h (Nat.not_lt_zero _)), HX3, HR3, HB3⟩
  case round =>
   obtain ⟨k, hk, rfl, HN, HX, HR, Hb⟩ := hrel
   clear HX3 HR3 HB3 HX1 HR1 HB1 HL1
   have q0 := blk_cell HX.out 0
   have q1 := blk_cell HX.out 1
   have q2 := blk_cell HX.out 2
   have q3 := blk_cell HX.out 3
   simp at q0 q1 q2 q3
   by_cases hlt : k < G.length
   ·obtain ⟨g, hgk, hcells⟩ := HGk.out k hlt
    obtain ⟨bb, oo, hA, y1, y2⟩ := hcells wr Hb.out
    subst hA
    have Hgk := Lib.hid hgk
    clear hcells hgk
    obtain ⟨g1, g2⟩ := g
    simp only at y1 y2
    by_cases e1 : g1 = a
    ·have z1 : ((g1 : Int) == (a : Int)) = true := by simp; omega
     by_cases e2 : g2 = b
     ·have z2 : ((g2 : Int) == (b : Int)) = true := by simp; omega
      have hks := HKs.out k HN.out (by rw [Hgk.out, e1, e2])
      subst hks
      simp only at hrp
      subst hrp
      have r0 := blk_cell HR.out 0
      have r1 := blk_cell HR.out 1
      have r2 := blk_cell HR.out 2
      have r3 := blk_cell HR.out 3
      have f0 := blk_free HR.out 0
      have f1 := blk_free HR.out 1
      have f2 := blk_free HR.out 2
      have f3 := blk_free HR.out 3
      simp at r0 r1 r2 r3
      have hw1 : IntKind.i64.wrap ((F : Int) + (k : Int)) = (F : Int) + k := IntWalk.i64_in _ (by omega)
      have hw2 : IntKind.i64.wrap (2 * ((F : Int) + (k : Int))) = ((2 * (F + k) : Nat) : Int) := by rw [IntWalk.i64_in _ (by omega)]; omega
      generalize 2 * (F + k) = res at *
      clear HKn HKs e1 e2
      go_wp2_with fail
      refine bodyPost_ret (v := .tuple #[.agg #[.int .i64 (I : Int), .slice An ln cn, .slice (some ⟨bb, oo, none⟩) G.length cg, .slice Ao lo co], .int .i64 (res : Int)]) (by simp [results, Try.results130, go_sem, r0, r1, r2, r3]) rfl ⟨_, rfl, ?_, ?_⟩
      ·have ow := own_below HG.out Hb.out
       have nt := own_ne_tag ow HR.out (by decide)
       exact own_setN (own_setN (own_setN (own_setN ow nt) nt) nt) nt
      ·exact (((Hb.out.setCell hwR _).setCell hwR _).setCell hwR _).setCell hwR _
     ·have z2 : ((g2 : Int) == (b : Int)) = false := by simp; omega
      go_wp2_with fail
      go_roundw
      case rel => exact ⟨k + 1, by omega, by go_num, Lib.hid (fun j hj => by
       by_cases e : j = k
       ·subst e; rw [Hgk.out]; intro h; have := Option.some.inj h; injection this; omega
       ·exact HN.out j (by omega)), HX, HR, Hb⟩
      case measure => simp [intOf]; omega
    ·have z1 : ((g1 : Int) == (a : Int)) = false := by simp; omega
     go_wp2_with fail
     go_roundw
     case rel => exact ⟨k + 1, by omega, by go_num, Lib.hid (fun j hj => by
      by_cases e : j = k
      ·subst e; rw [Hgk.out]; intro h; have := Option.some.inj h; injection this; omega
      ·exact HN.out j (by omega)), HX, HR, Hb⟩
     case measure => simp [intOf]; omega
   ·obtain rfl : k = G.length := by omega
    have hkn := HKn.out HN.out
    subst hkn
    simp only at hrp
    subst hrp
    have hb5 := bel_new wr (.cells #[] 64)
    have hz5 : (wr.alloc (.cells #[] 64)).heap.size = wr.heap.size + 1 := by simp
    have HE := Lib.hid (World.ownsRow_lit (base := wr.heap.size) (e := 64) (size := 2) wr #[] 0 (Nat.le_refl _) (by unfold maxLen; omega) rfl)
    have HGr := Lib.hid (Row.below (Row.of_own (own_below HG.out Hb.out)) hb5)
    have hgxz := blk_ltB HX.out
    have hgRz := blk_ltB HR.out
    have HX5 := Lib.hid ((hb5.block gx hgxz).trans HX.out)
    have HR5 := Lib.hid ((hb5.block gR hgRz).trans HR.out)
    have Hb5 := Lib.hid (Hb.out.trans (hb5.mono Hb.out.size))
    have hwr := Hb.out.size
    have q5 := blk_cell HX5.out 2
    simp at q5
    have HCu : Hid (∀ u ∈ cubes (Cir.gatesOf G), u.oneCell' = true) := Lib.hid (fun u hu => by
     unfold cubes at hu
     obtain ⟨x, -, hx⟩ := List.mem_flatMap.1 hu
     simp at hx
     rcases hx with rfl | rfl <;> rfl)
    have HSn : Hid (cubes (Cir.gatesOf ((a, b) :: G)) = cubes (Cir.gatesOf G) ++ [.int .i64 (a : Int), .int .i64 (b : Int)]) := Lib.hid (by
     rw [Cir.gatesOf_cons]
     unfold cubes
     rw [List.flatMap_append]
     rfl)
    generalize hcs : cubes (Cir.gatesOf G) = cs at *
    obtain ⟨B, hB⟩ : ∃ B, B = wr.heap.size := ⟨_, rfl⟩
    have hxB : gx < B := by omega
    have hRB : gR < B := by omega
    have HEB : Hid ((wr.alloc (.cells #[] 64)).ownsRow B 64 2 (.slice (some ⟨wr.heap.size, 0, none⟩) 0 0) 0 []) := Lib.hid (by rw [hB]; exact HE.out)
    have hB5 : B ≤ (wr.alloc (.cells #[] 64)).heap.size := by omega
    clear hb5 hcs HE HGk HKs HKn HX HR HN q0 q1 q3 hlt hk
    go_upto_region 16 with (first
     | (at_builtin; refine append_gatesO rfl (.tmp 72) (.tmp 74) rfl B (.slice (some ⟨wr.heap.size, 0, none⟩) 0 0) 0 [] rfl HEB.out (.slice Ag G.length cg) G.length cs rfl HGr.out HCu.out (by omega) hB5 ?_; intro v6 w6 hown6 hg6 hat6; simp only [Nat.zero_add, List.nil_append] at hown6; obtain ⟨A6, c6, hv6⟩ := slice_of_own hown6; subst hv6; have O6 : Only (fun q => B ≤ q) _ w6 := Only.grown hg6 (fun k hk => (HEB.out.lt k hk).1); have HX6 := Lib.hid ((O6.block gx (by omega) (by omega)).trans HX5.out); have HR6 := Lib.hid ((O6.block gR (by omega) (by omega)).trans HR5.out); have Hb6 := Lib.hid (Only.below Hb5.out O6 (by omega) (fun q hq => by omega)); have hz6 := O6.size; have hbl := bel_new w6 (.cells #[.int .i64 (a : Int), .int .i64 (b : Int)] 64); have hzl : (w6.alloc (.cells #[.int .i64 (a : Int), .int .i64 (b : Int)] 64)).heap.size = w6.heap.size + 1 := (by simp); have Hlit := Lib.hid (Row.of_own (World.ownsRow_lit (base := w6.heap.size) (e := 64) (size := 2) w6 #[.int .i64 (a : Int), .int .i64 (b : Int)] 1 (Nat.le_refl _) (by unfold maxLen; omega) rfl)); have HO6 := Lib.hid (own_below hown6 hbl); have HX7 := Lib.hid ((hbl.block gx (by omega)).trans HX6.out); have HR7 := Lib.hid ((hbl.block gR (by omega)).trans HR6.out); have Hb7 := Lib.hid (Hb6.out.trans (hbl.mono Hb6.out.size)); clear hown6 hg6 hat6 O6 hbl)
     | (at_builtin; refine append_gatesO rfl (.tmp 75) (.tmp 79) rfl B (.slice A6 G.length c6) G.length cs rfl HO6.out _ 1 [.int .i64 (a : Int), .int .i64 (b : Int)] rfl Hlit.out (by simp [Value.oneCell']) (by omega) (by omega) ?_; intro v8 w8 hown8 hg8 hat8; obtain ⟨A8, c8, hv8⟩ := slice_of_own hown8; subst hv8; have O8 : Only (fun q => B ≤ q) _ w8 := Only.grown hg8 (fun k hk => (HO6.out.lt k hk).1); have hX8 := (O8.block gx (by omega) (by omega)).trans HX7.out; have HR8 := Lib.hid ((O8.block gR (by omega) (by omega)).trans HR7.out); have Hb8 := Lib.hid (Only.below Hb7.out O8 (by omega) (fun q hq => by omega)); have q8 := blk_cell hX8 2; have f8 := blk_free hX8 2; have HX8 := Lib.hid hX8; have Hown8 := Lib.hid hown8; have hz8 := O8.size; clear hown8 hg8 hat8 O8 hX8))
    have hX9 := heap_setCell_same w8 gx 2 _ _ (.slice A8 (G.length + 1) c8) HX8.out
    simp at hX9
    have hR9 := (heap_setCell_other' w8 gx 2 (.slice A8 (G.length + 1) c8) gR (fun e => hxR e.symm)).trans HR8.out
    have HB9 := Lib.hid (Hb8.out.setCell (p := ⟨gx, 2, none⟩) hwx (.slice A8 (G.length + 1) c8))
    have HO9 := Lib.hid (own_setB (i := 2) (u := .slice A8 (G.length + 1) c8) Hown8.out hxB)
    clear q8 f8 q2 HX8 HR8 Hb8 Hown8 HO6 HX7 HR7 Hb7 HX6 HR6 Hb6 Hlit
    generalize w8.setCell ⟨gx, 2, none⟩ (.slice A8 (G.length + 1) c8) = W9 at *
    have q0 := blk_cell hX9 0
    have q1 := blk_cell hX9 1
    have q2 := blk_cell hX9 2
    have q3 := blk_cell hX9 3
    have r0 := blk_cell hR9 0
    have r1 := blk_cell hR9 1
    have r2 := blk_cell hR9 2
    have r3 := blk_cell hR9 3
    have f0 := blk_free hR9 0
    have f1 := blk_free hR9 1
    have f2 := blk_free hR9 2
    have f3 := blk_free hR9 3
    simp at q0 q1 q2 q3 r0 r1 r2 r3
    have hw1 : IntKind.i64.wrap ((F : Int) + ((G.length : Int) + 1)) = (F : Int) + (G.length + 1) := IntWalk.i64_in _ (by omega)
    have hw2 : IntKind.i64.wrap ((F : Int) + ((G.length : Int) + 1) - 1) = (F : Int) + G.length := by rw [IntWalk.i64_in _ (by omega)]; omega
    have hw3 : IntKind.i64.wrap (2 * ((F : Int) + (G.length : Int))) = ((2 * (F + G.length) : Nat) : Int) := by rw [IntWalk.i64_in _ (by omega)]; omega
    have HR9 := Lib.hid hR9
    clear hX9 hR9
    go_region
    all_goals
     go_wp2_with fail
     refine bodyPost_ret (v := .tuple #[.agg #[.int .i64 (I : Int), .slice An ln cn, .slice A8 (G.length + 1) c8, .slice Ao lo co], .int .i64 ((2 * (F + G.length) : Nat) : Int)]) (by simp [results, Try.results130, go_sem, r0, r1, r2, r3, hxR]) rfl ⟨_, rfl, ?_, ?_⟩
     ·have nt := own_ne_tag HO9.out HR9.out (by decide)
      show World.ownsRow _ 0 _ 2 _ (G.length + 1) (cubes (Cir.gatesOf ((a, b) :: G)))
      rw [HSn.out]
      exact own_mono (own_setN (own_setN (own_setN (own_setN HO9.out nt) nt) nt) nt) (Nat.zero_le _)
     ·exact ((((HB9.out.setCell hwR _).setCell hwR _).setCell hwR _).setCell hwR _).drew
theorem l3And_any (I x y F : Nat) (An Ao : Option Addr) (cn co ln lo : Nat) (nx os : List Int) (vg : Value) (G : List (Nat × Nat)) (w : World) (hF : F = 1 + I + ln) (hI : I ≤ 100) (hln : ln ≤ 100) (hG : G.length ≤ 100)
  (hn : Row w 1 (.slice An ln cn) ln (ints nx)) (hg : w.ownsRow 0 64 2 vg G.length (cubes (Cir.gatesOf G))) (ho : Row w 1 (.slice Ao lo co) lo (ints os)) (hx : x < 2 * (F + G.length)) (hy : y < 2 * (F + G.length)) :
  Calls Try.prog 130 #[.agg #[.int .i64 (I : Int), .slice An ln cn, vg, .slice Ao lo co], .int .i64 (x : Int), .int .i64 (y : Int)] w (AndGive I (.slice An ln cn) (.slice Ao lo co) (Cir.andB F G x y) w) := by
 unfold Cir.andB
 by_cases h : y < x
 ·rw [if_pos h]
  exact l3And_sw I y x F An Ao cn co ln lo nx os vg G w hF hI hln hG hn hg ho h hx
 ·rw [if_neg h]
  exact l3And_st I x y F An Ao cn co ln lo nx os vg G w hF hI hln hG hn hg ho (by omega) hy
end Go.Proofs.Ytkkkjbinfdohpaa
namespace Go.Proofs.Ytkkkjbinfdohpaa
theorem go_once2 {G : Prop} {α : Sort _} {β : Sort _} (F C : α → β → Prop) (main : (∀ a b, F a b → C a b) → G) (key : ∀ a b, F a b → C a b) : G := main key
theorem go_once4 {G : Prop} {α : Sort _} {β : Sort _} {γ : Sort _} {δ : Sort _} (F C : α → β → γ → δ → Prop) (main : (∀ a b c d, F a b c d → C a b c d) → G) (key : ∀ a b c d, F a b c d → C a b c d) : G := main key
theorem go_once0 {G : Prop} (C : Prop) (main : C → G) (key : C) : G := main key
end Go.Proofs.Ytkkkjbinfdohpaa
namespace Go.Proofs.Ytkkkjbinfdohpaa
open Go.RowKit
theorem l3Map_any (v : Value) (l : Nat) (m : List Nat) (w : World) (hm : IntsAt w v (m.map Int.ofNat)) (hl : l / 2 < m.length) (hb : l ≤ 1000000) (hv : ∀ x ∈ m, x ≤ 1000000) :
  Calls Try.prog 125 #[v, .int .i64 (l : Int)] w fun e w' => e = .returned (.int .i64 (Cir.useX m l : Nat)) ∧ Below w.heap.size w w' := by
 obtain ⟨A, c, rfl, hc1, hcm⟩ := Row.shape hm
 rw [List.length_map] at hc1
 obtain ⟨b, o, rfl, hbl, hs⟩ := nat_cell (by have := hm; unfold IntsAt at this; rwa [List.length_map] at this) (Below.refl _ _) rfl hl
 rw [List.length_map]
 have hq := tdiv_two l
 have hr : (l : Int).tmod 2 = ((l % 2 : Nat) : Int) := by rw [Int.tmod_eq_emod_of_nonneg (by omega)]; rfl
 have hx := i64_xor_nat (m.getD (l / 2) 0) (l % 2) (by have := getD_le hv (l / 2); omega) (by omega)
 have hR : Hid (Cir.useX m l = m.getD (l / 2) 0 ^^^ (l % 2)) := Lib.hid rfl
 have hlb : l / 2 ≤ 1000000 := by omega
 have hr2 : l % 2 < 2 := by omega
 generalize l / 2 = q at *
 generalize m.getD q 0 = x at *
 generalize l % 2 = r at *
 generalize x ^^^ r = y at *
 have hwq : IntKind.i64.wrap (q : Int) = q := IntWalk.i64_in _ (by omega)
 have hwr : IntKind.i64.wrap (r : Int) = r := IntWalk.i64_in _ (by omega)
 generalize hML : m.length = ML at *
 clear hm hv
 go_enter Try.func125, Try.ntmps125
 go_wp2_with fail
 go_ret
 exact ⟨by rw [hR.out]; rfl, Below.refl _ _⟩
structure Used (d : Ci) (U : List Bool) : Prop where
  len : U.length = d.gates.length
  closed : Cir.Closed d (List.replicate (Cir.nfirst d) true ++ U)
def UsedGive (d : Ci) (w : World) (e : Ending) (w' : World) : Prop := ∃ v U, e = .returned v ∧ Used d U ∧ w'.ownsRow w.heap.size 4 1 v U.length (bools U) ∧ Below w.heap.size w w'
theorem set_mono {U : List Bool} {i j : Nat} (h : U.getD i false = true) : (U.set j true).getD i false = true := by
 rw [Cir.getD_set']
 split
 ·rfl
 ·exact h
theorem set_at {U : List Bool} {j : Nat} (h : j < U.length) : (U.set j true).getD j false = true := by
 rw [Cir.getD_set', if_pos ⟨rfl, h⟩]
theorem set_keep {U : List Bool} {i j : Nat} (h : i ≠ j) : (U.set j true).getD i false = U.getD i false := by
 rw [Cir.getD_set', if_neg (fun e => h e.1.symm)]
theorem PCells.kept {w w' : World} {g r : Nat} {i : Int} {vn vg vo : Value} (h : PCells w g i vn vg vo) (hg : w.grownBy w' (some r)) (hne : g ≠ r) : PCells w' g i vn vg vo := by
 obtain ⟨z, a, b, c, e⟩ := h
 have hb := hg.block g z (fun e => hne (Option.some.inj e))
 exact ⟨Nat.lt_of_lt_of_le z hg.size, (World.cell?_of_block hb).trans a, (World.cell?_of_block hb).trans b, (World.cell?_of_block hb).trans c, (World.cell?_of_block hb).trans e⟩
def Fan (F : Nat) (gs : List (Nat × Nat)) (j : Nat) (U : List Bool) : Prop := ∀ l, l = (gs.getD j (0, 0)).1 ∨ l = (gs.getD j (0, 0)).2 → F ≤ l / 2 → U.getD (l / 2 - F) false = true
theorem rep_getD (F : Nat) (U : List Bool) (i : Nat) : (List.replicate F true ++ U).getD i false = if i < F then true else U.getD (i - F) false := by
 by_cases h : i < F
 ·rw [if_pos h, List.getD_eq_getElem?_getD, List.getElem?_append_left (by simpa using h)]
  simp [h]
 ·rw [if_neg h, List.getD_eq_getElem?_getD, List.getElem?_append_right (by simp; omega), List.length_replicate, List.getD_eq_getElem?_getD]
theorem used_of {d : Ci} {U : List Bool} {Ls : List Nat} {F : Nat} (hF : F = Cir.nfirst d) (hLs : Ls = d.outs ++ d.next) (hl : U.length = d.gates.length) (h1 : ∀ l ∈ Ls, F ≤ l / 2 → U.getD (l / 2 - F) false = true) (h2 : ∀ j, 0 ≤ j → j < d.gates.length → U.getD j false = true → Fan F d.gates j U) : Used d U := by
 subst hF hLs
 refine ⟨hl, ⟨fun l hm => ?_, fun j hj hk => ?_⟩⟩
 ·rw [rep_getD]
  split
  ·rfl
  ·refine h1 l ?_ (by omega)
   rcases List.mem_append.1 hm with h | h
   ·exact List.mem_append_right _ h
   ·exact List.mem_append_left _ h
 ·rw [rep_getD, if_neg (by omega), Nat.add_sub_cancel_left] at hk
  have hf := h2 j (Nat.zero_le _) hj hk
  constructor
  ·rw [rep_getD]
   split
   ·rfl
   ·exact hf _ (.inl rfl) (by omega)
  ·rw [rep_getD]
   split
   ·rfl
   ·exact hf _ (.inr rfl) (by omega)
theorem l3Used_any (v : Value) (d : Ci) (w : World) (h : CircAt w v (Cir.toCz d)) (hd : Cir.Ok d) :
  Calls Try.prog 129 #[v] w (UsedGive d w) := by
 have s1 := hd.ins
 have s2 := hd.nexts
 have s3 := hd.gatess
 have s4 := hd.outss
 obtain ⟨i0, hi0, hz0, hz1, hz2⟩ := info_parts info_int
 have H1 := Lib.hid h
 have HFi : Hid (∀ w' v', CircAt w' v' (Cir.toCz d) → Calls Try.prog 43 #[v'] w' fun e w'' => e = .returned (.int .i64 (Cir.nfirst d : Nat)) ∧ Below w'.heap.size w' w'') := Lib.hid fun w' v' h' => by
  have := l1First_any v' (Cir.toCz d) w' h' (by show (0 : Int) ≤ (d.ins : Int); omega) (by show (d.ins : Int) ≤ 100; omega) (by show (List.map _ _).length ≤ 100; rw [List.length_map]; omega)
  rwa [Cir.first_toCz] at this
 obtain ⟨An, cn, Ag, cg, Ao, co, rfl⟩ := h.shape
 have hln : (Cir.toCz d).next.length = d.next.length := List.length_map _
 have hlg : (Cir.toCz d).gates.length = d.gates.length := List.length_map _
 have hlo : (Cir.toCz d).outs.length = d.outs.length := List.length_map _
 rw [hln, hlg, hlo] at H1 ⊢
 obtain ⟨vn, vg, vo, e, r1, r2, r3⟩ := H1.out
 injection e with e
 simp only [Array.mk.injEq, List.cons.injEq, and_true] at e
 obtain ⟨-, e1, e2, e3⟩ := e
 subst e1 e2 e3
 have hb1 := bel_new w (.cells #[.int .i64 (Cir.toCz d).ins, .slice An d.next.length cn, .slice Ag d.gates.length cg, .slice Ao d.outs.length co] 26)
 have P1 := PCells.boxed w (Cir.toCz d).ins (.slice An d.next.length cn) (.slice Ag d.gates.length cg) (.slice Ao d.outs.length co) 26
 obtain ⟨W1, hW1⟩ : ∃ W1, w.alloc (.cells #[.int .i64 (Cir.toCz d).ins, .slice An d.next.length cn, .slice Ag d.gates.length cg, .slice Ao d.outs.length co] 26) = W1 := ⟨_, rfl⟩
 obtain ⟨gC, hgC⟩ : ∃ g, w.heap.size = g := ⟨_, rfl⟩
 rw [hW1] at hb1 P1
 rw [hgC] at P1
 have HB1 := Lib.hid hb1
 have PC1 := Lib.hid P1
 have HD := Lib.hid hd
 obtain ⟨z, p0, p1, p2, p3⟩ := P1
 have HW1 := Lib.hid hW1
 have hmk := run_make_row' (P := Try.prog) 69 4 (.bool false) 1 Try.underlying69 info_bool rfl .i64 .i64 d.gates.length (by omega) (by omega)
 clear h hd hln hlg hlo hb1 hW1
 go_enter Try.func129, Try.ntmps129
 go_wp2_with fail
 try rw [HW1.out]
 try rw [hgC]
 refine (HFi.out _ _ (H1.out.below HB1.out)).mono ?_
 rintro e w2 ⟨rfl, hb⟩
 have HB2 := Lib.hid (HB1.out.trans (hb.mono HB1.out.size))
 have PC2 := Lib.hid (PC1.out.below hb)
 clear hb HB1 PC1 z p0 p1 p2 p3 HW1
 obtain ⟨z, p0, p1, p2, p3⟩ := PC2.out
 go_wp2_with fail
 clear hmk
 obtain ⟨G, hG⟩ : ∃ G, G = d.gates.length := ⟨_, rfl⟩
 have hO0 : (w2.alloc (.cells (madeCells #[Value.bool false] d.gates.length) 4)).ownsRow w2.heap.size 4 1 (.slice (some ⟨w2.heap.size, 0, none⟩) d.gates.length d.gates.length) d.gates.length (bools (List.replicate d.gates.length false)) := by
  have h := World.ownsRow_lit (base := w2.heap.size) (e := 4) (size := 1) w2 (madeCells #[Value.bool false] d.gates.length) d.gates.length (Nat.le_refl _) (by unfold maxLen; omega) (by simp [madeCells])
  have e : (madeCells #[Value.bool false] d.gates.length).toList = bools (List.replicate d.gates.length false) := by simp [madeCells, bools, Nat.mod_one, List.map_const']
  rwa [e] at h
 have hb3 := bel_new w2 (.cells (madeCells #[Value.bool false] d.gates.length) 4)
 have hz3 : (w2.alloc (.cells (madeCells #[Value.bool false] d.gates.length) 4)).heap.size = w2.heap.size + 1 := by simp
 generalize w2.alloc (.cells (madeCells #[Value.bool false] d.gates.length) 4) = W3 at *
 obtain ⟨gU, hgU⟩ : ∃ g, w2.heap.size = g := ⟨_, rfl⟩
 have hgU2 : w.heap.size ≤ gU := by rw [← hgU]; exact HB2.out.size
 have hgCU : gC < gU := by rw [← hgU]; exact PC2.out.1
 have HB3 := Lib.hid (HB2.out.trans (hb3.mono HB2.out.size))
 have PC3 := Lib.hid (PC2.out.below hb3)
 rw [hgU] at hO0 hz3
 try rw [hgU]
 clear hgU hb3 HB2 PC2 z p0 p1 p2 p3
 have hbE := bel_new W3 (.cells #[] 3)
 have hE := World.ownsRow_lit (base := W3.heap.size) (e := 3) (size := 1) W3 #[] 0 (Nat.le_refl _) (by unfold maxLen; omega) rfl
 have HE : Hid (((W3.alloc (.cells #[] 3)).drew).ownsRow W3.heap.size 3 1 (.slice (some ⟨W3.heap.size, 0, none⟩) 0 0) 0 []) := Lib.hid hE
 have HU0 := Lib.hid hO0
 have HU : Hid (((W3.alloc (.cells #[] 3)).drew).ownsRow gU 4 1 (.slice (some ⟨gU, 0, none⟩) d.gates.length d.gates.length) d.gates.length (bools (List.replicate d.gates.length false))) := Lib.hid (own_below hO0 hbE.drew)
 have HBE : Hid (Below w.heap.size w ((W3.alloc (.cells #[] 3)).drew)) := Lib.hid (HB3.out.trans (hbE.mono HB3.out.size)).drew
 have PCE : Hid (PCells ((W3.alloc (.cells #[] 3)).drew) gC (Cir.toCz d).ins (.slice An d.next.length cn) (.slice Ag d.gates.length cg) (.slice Ao d.outs.length co)) := Lib.hid (PC3.out.below hbE.drew)
 have RO : Hid (Row ((W3.alloc (.cells #[] 3)).drew) 1 (.slice Ao d.outs.length co) d.outs.length (ints (Cir.toCz d).outs)) := Lib.hid (by have := Row.below r3 HBE.out; rwa [show (Cir.toCz d).outs.length = d.outs.length from List.length_map _] at this)
 have RN : Hid (Row w 1 (.slice An d.next.length cn) d.next.length (ints (Cir.toCz d).next)) := Lib.hid (by have := r1; unfold IntsAt at this; rwa [show (Cir.toCz d).next.length = d.next.length from List.length_map _] at this)
 have hgE : W3.heap.size = gU + 1 := hz3
 obtain ⟨z, p0, p1, p2, p3⟩ := PC3.out
 obtain ⟨zE, t0, t1, t2, t3⟩ := PCE.out
 have HB3E := Lib.hid hbE.drew
 have HzE : Hid (W3.heap.size ≤ ((W3.alloc (.cells #[] 3)).drew).heap.size) := Lib.hid hbE.size
 have HR2 : Hid (Row w 2 (.slice Ag d.gates.length cg) d.gates.length (cubes (Cir.toCz d).gates)) := Lib.hid (by have := r2; unfold CubesAt at this; rwa [show (Cir.toCz d).gates.length = d.gates.length from List.length_map _] at this)
 clear hbE hE hO0 hz3 r1 r2 r3
 obtain ⟨Ls, hLs⟩ : ∃ Ls, Ls = d.outs ++ d.next := ⟨_, rfl⟩
 have hLl : 0 + d.outs.length + d.next.length = Ls.length := by rw [hLs, List.length_append, Nat.zero_add]
 have hLi : [] ++ ints (Cir.toCz d).outs ++ ints (Cir.toCz d).next = ints (Ls.map Int.ofNat) := by rw [hLs]; simp [ints, Cir.toCz]
 have hLn : Ls.length ≤ 100 := by rw [hLs, List.length_append]; omega
 have hLb : ∀ l ∈ Ls, l < 2 * Cir.nvars d := by
  intro l hl
  rw [hLs] at hl
  rcases List.mem_append.1 hl with h | h
  ·exact HD.out.out l h
  ·exact HD.out.next l h
 have HLb := Lib.hid hLb
 have HLs := Lib.hid hLs
 have HLl := Lib.hid hLl
 have HLi := Lib.hid hLi
 have HnG : Hid (Cir.nvars d = Cir.nfirst d + d.gates.length) := Lib.hid (by unfold Cir.nvars; omega)
 obtain ⟨F, hF⟩ : ∃ F, F = Cir.nfirst d := ⟨_, rfl⟩
 have hF10 : F ≤ 8 := by rw [hF]; unfold Cir.nfirst; omega
 have HF := Lib.hid hF
 rw [← hF]
 clear hF hLs hLi hLl hLb
 refine go_once4 (fun (W : World) (A2 : Option Addr) (c2 : Nat) (_ : Value) => Hid (W.ownsRow gU 4 1 (.slice (some ⟨gU, 0, none⟩) d.gates.length d.gates.length) d.gates.length (bools (List.replicate d.gates.length false))) ∧ Hid (W.ownsRow W3.heap.size 3 1 (.slice A2 Ls.length c2) Ls.length (ints (Ls.map Int.ofNat))) ∧ Hid (PCells W gC (Cir.toCz d).ins (.slice An d.next.length cn) (.slice Ag d.gates.length cg) (.slice Ao d.outs.length co)) ∧ Hid (Below w.heap.size w W)) ?C (fun key => ?main) ?key
 case main =>
  go_region_law (first
   | (refine step_append_at rfl (.tmp 16) (.tmp 18) 23 rfl W3.heap.size 3 i0 _ 1 8 Try.underlying23 hi0 hz0 hz1 hz2 rfl (by decide) (.slice (some ⟨W3.heap.size, 0, none⟩) 0 0) 0 [] (by simp [Act.eval, Act.put]) HE.out (.slice Ao d.outs.length co) d.outs.length (ints (Cir.toCz d).outs) (by simp [Act.eval, Act.put]) RO.out (ints_one _) (by unfold maxLen; omega) (by omega) HzE.out ?_; intro v1 w1 hown1 hg1; have hk1 := HBE.out.grown hg1 HBE.out.size (fun k hk => by have := (HE.out.lt k hk).1; omega); have hq1 := HB3E.out.grown hg1 HB3E.out.size (fun k hk => by have := (HE.out.lt k hk).1; omega); obtain ⟨z', a0, a1, a2, a3⟩ := PC3.out.below hq1)
   | (refine step_append_at rfl (.tmp 19) (.tmp 21) 23 rfl W3.heap.size 3 i0 _ 1 8 Try.underlying23 hi0 hz0 hz1 hz2 rfl (by decide) v1 (0 + d.outs.length) ([] ++ ints (Cir.toCz d).outs) (by simp [Act.eval, Act.put]) hown1 (.slice An d.next.length cn) d.next.length (ints (Cir.toCz d).next) (by simp [Act.eval, Act.put]) (Row.below RN.out hk1) (ints_one _) (by unfold maxLen; omega) (by omega) (Nat.le_trans HzE.out hg1.size) ?_; intro v2 w2 hown2 hg2))
  all_goals
   have hB2 := hk1.grown hg2 hk1.size (fun k hk => by have := (hown1.lt k hk).1; omega)
   have hB32 := hq1.grown hg2 hq1.size (fun k hk => (hown1.lt k hk).1)
   have HB2 := Lib.hid hB2
   have PC2 := Lib.hid (PC3.out.below hB32)
   have HU2 := Lib.hid (own_below HU0.out hB32)
   obtain ⟨A2, c2, e2⟩ := slice_of_own hown2
   subst e2
   rw [HLl.out, HLi.out] at hown2
   rw [HLl.out]
   exact key _ _ _ v1 ⟨HU2, Lib.hid hown2, PC2, HB2⟩
 case key =>
  rintro W2 A2 c2 v1 ⟨HU2, HL2, PC2, HB2⟩
  clear HB3E HE HU HBE PCE RO RN HzE z p0 p1 p2 p3 zE t0 t1 t2 t3 HU0 HB3 PC3
  go_wp2_with fail
  go_loopw [6] (fun i wr => ∃ (k : Nat) (U : List Bool), k ≤ Ls.length ∧ i = .int .i64 k ∧ U.length = d.gates.length ∧ Hid (∀ j, j < k → F ≤ Ls.getD j 0 / 2 → U.getD (Ls.getD j 0 / 2 - F) false = true) ∧ Hid (wr.ownsRow gU 4 1 (.slice (some ⟨gU, 0, none⟩) d.gates.length d.gates.length) d.gates.length (bools U)) ∧ Hid (wr.ownsRow W3.heap.size 3 1 (.slice A2 Ls.length c2) Ls.length (ints (Ls.map Int.ofNat))) ∧ Hid (PCells wr gC (Cir.toCz d).ins (.slice An d.next.length cn) (.slice Ag d.gates.length cg) (.slice Ao d.outs.length co)) ∧ Hid (Below w.heap.size w wr)) (fun i _ => Ls.length - (intOf i).toNat)
  case atStart => exact ⟨0, List.replicate d.gates.length false, Nat.zero_le _, rfl, List.length_replicate, Lib.hid (fun j h => absurd h (by omega)), HU2, HL2, PC2, HB2⟩
  case round =>
   obtain ⟨k, U, hk, rfl, hUl, HRt, HU, HL, PC, HB⟩ := hrel
   clear HU2 HL2 PC2 HB2
   by_cases hlt : k < Ls.length
   ·obtain ⟨b, o, eA, hbl, hs⟩ := nat_cell (xs := Ls) (by have := Row.of_own HL.out; exact this) (Below.refl _ _) rfl hlt
    subst eA
    have hl2 := HLb.out (Ls.getD k 0) (by rw [List.getD_eq_getElem?_getD, List.getElem?_eq_getElem hlt]; exact List.getElem_mem hlt)
    rw [HnG.out, ← HF.out] at hl2
    obtain ⟨l, hl⟩ : ∃ l, Ls.getD k 0 = l := ⟨_, rfl⟩
    rw [hl] at hs hl2
    have Hl := Lib.hid hl
    have hq := tdiv_two l
    obtain ⟨q, hq'⟩ : ∃ q, l / 2 = q := ⟨_, rfl⟩
    have Hq := Lib.hid hq'
    have hqb : q < F + d.gates.length := by omega
    rw [hq'] at hq
    have hwq : IntKind.i64.wrap (q : Int) = q := IntWalk.i64_in _ (by omega)
    clear hl hq' hl2
    by_cases hge : F ≤ q
    ·obtain ⟨j, hj⟩ : ∃ j, q = F + j := ⟨q - F, by omega⟩
     have dge : decide ((q : Int) ≥ (F : Int)) = true := decide_eq_true (by omega)
     have dge2 : decide ((F : Int) ≤ (q : Int)) = true := decide_eq_true (by omega)
     have dge3 : decide (F ≤ q) = true := decide_eq_true hge
     have hwj : IntKind.i64.wrap ((q : Int) - (F : Int)) = (j : Int) := by rw [IntWalk.i64_in _ (by omega)]; omega
     have hjG : j < d.gates.length := by omega
     obtain ⟨u0, -, hd0, hf0⟩ := own_slot HU.out (j := j) (by omega)
     have hst := HU.out.stored j (.bool true)
     rw [bools_set] at hst
     have HU' := Lib.hid hst.1
     have HL' : Hid ((wr.setCell ⟨gU, j, none⟩ (.bool true)).ownsRow W3.heap.size 3 1 (.slice (some ⟨b, o, none⟩) Ls.length c2) Ls.length (ints (Ls.map Int.ofNat))) := Lib.hid (own_set HL.out (by omega))
     have PC' := Lib.hid (PC.out.kept hst.2 (by omega))
     have HB' := Lib.hid (HB.out.grown hst.2 HB.out.size (fun k hk => by have := Option.some.inj hk; omega))
     have HR' : Hid (∀ j', j' < k + 1 → F ≤ Ls.getD j' 0 / 2 → (U.set j true).getD (Ls.getD j' 0 / 2 - F) false = true) := Lib.hid (fun j' h1 h2 => by
      rcases Nat.lt_or_ge j' k with h | h
      ·exact set_mono (HRt.out j' h h2)
      ·obtain rfl : j' = k := by omega
       rw [Hl.out, Hq.out, show q - F = j by omega]
       exact set_at (by omega))
     have Hj := Lib.hid hj
     clear hst hj hge HRt
     go_wp2_with fail
     go_roundw
     case rel => exact ⟨k + 1, U.set j true, by omega, by go_num, by rw [List.length_set]; exact hUl, HR', HU', HL', PC', HB'⟩
     case measure => simp [intOf]; omega
    ·have dge : decide ((q : Int) ≥ (F : Int)) = false := decide_eq_false (by omega)
     have dge2 : decide ((F : Int) ≤ (q : Int)) = false := decide_eq_false (by omega)
     have dge3 : decide (F ≤ q) = false := decide_eq_false hge
     have HR' : Hid (∀ j', j' < k + 1 → F ≤ Ls.getD j' 0 / 2 → U.getD (Ls.getD j' 0 / 2 - F) false = true) := Lib.hid (fun j' h1 h2 => by
      rcases Nat.lt_or_ge j' k with h | h
      ·exact HRt.out j' h h2
      ·obtain rfl : j' = k := by omega
       rw [Hl.out, Hq.out] at h2
       exact absurd h2 hge)
     clear HRt
     go_wp2_with fail
     go_roundw
     case rel => exact ⟨k + 1, U, by omega, by go_num, hUl, HR', HU, HL, PC, HB⟩
     case measure => simp [intOf]; omega
   ·obtain rfl : k = Ls.length := by omega
    have hroot : ∀ l ∈ Ls, F ≤ l / 2 → U.getD (l / 2 - F) false = true := by
     intro l hl h2
     obtain ⟨j, hj, e⟩ := List.getElem_of_mem hl
     have e' : Ls.getD j 0 = l := by rw [List.getD_eq_getElem?_getD, List.getElem?_eq_getElem hj]; exact e
     have := HRt.out j hj (by rw [e']; exact h2)
     rwa [e'] at this
    have HRoot := Lib.hid hroot
    have hwG : IntKind.i64.wrap ((d.gates.length : Int) - 1) = (d.gates.length : Int) - 1 := IntWalk.i64_in _ (by omega)
    obtain ⟨z, p0, p1, p2, p3⟩ := PC.out
    clear hroot HRt HL
    go_wp2_with fail
    clear hwG
    go_loopw [7] (fun i wr => ∃ (t : Nat) (U : List Bool), t ≤ d.gates.length ∧ i = .int .i64 ((t : Int) - 1) ∧ U.length = d.gates.length ∧ Hid (∀ l ∈ Ls, F ≤ l / 2 → U.getD (l / 2 - F) false = true) ∧ Hid (∀ j, t ≤ j → j < d.gates.length → U.getD j false = true → Fan F d.gates j U) ∧ Hid (wr.ownsRow gU 4 1 (.slice (some ⟨gU, 0, none⟩) d.gates.length d.gates.length) d.gates.length (bools U)) ∧ Hid (PCells wr gC (Cir.toCz d).ins (.slice An d.next.length cn) (.slice Ag d.gates.length cg) (.slice Ao d.outs.length co)) ∧ Hid (Below w.heap.size w wr)) (fun i _ => (intOf i + 1).toNat)
    case atStart => exact ⟨d.gates.length, U, Nat.le_refl _, rfl, hUl, HRoot, Lib.hid (fun j h1 h2 => absurd h1 (by omega)), HU, PC, HB⟩
    case round =>
     clear z p0 p1 p2 p3 HRoot HU PC HB hUl U
     obtain ⟨t, U, ht, rfl, hUl, HRoot, HFan, HU, PC, HB⟩ := hrel
     rcases t with _ | s
     ·rw [show ((0 : Nat) : Int) - 1 = -1 from rfl]
      have hused := used_of HF.out HLs.out hUl HRoot.out HFan.out
      go_wp2_with fail
      go_ret
      exact ⟨_, U, rfl, hused, by rw [hUl]; exact own_mono HU.out hgU2, HB.out⟩
     ·rw [show ((s + 1 : Nat) : Int) - 1 = (s : Int) by omega]
      obtain ⟨z, p0, p1, p2, p3⟩ := PC.out
      go_wp2_with fail
      obtain ⟨b, o, x, eAg, hbl, hx, hs1, hs2⟩ := cubes_open HR2.out HB.out (List.length_map _).symm (i := s) (by rw [show (Cir.toCz d).gates.length = d.gates.length from List.length_map _]; omega)
      subst eAg
      obtain ⟨gt, hgt⟩ := at_some (show s < d.gates.length by omega)
      have hxe : x = ((gt.1 : Int), (gt.2 : Int)) := by
       have h1 := hx.out
       unfold Cir.toCz at h1
       simp only [List.getElem?_map, hgt] at h1
       exact (Option.some.inj h1).symm
      subst hxe
      have hgd : d.gates.getD s (0, 0) = gt := by rw [List.getD_eq_getElem?_getD, hgt]; rfl
      obtain ⟨g1, g2⟩ := HD.out.gate s gt hgt
      rw [← HF.out] at g1 g2
      obtain ⟨G1, hG1⟩ : ∃ G1, gt.1 = G1 := ⟨_, rfl⟩
      obtain ⟨G2, hG2⟩ : ∃ G2, gt.2 = G2 := ⟨_, rfl⟩
      rw [hG1] at g1 hs1
      rw [hG2] at g2 hs2
      have Hgd := Lib.hid (And.intro hgd (And.intro hG1 hG2))
      have hq1 := tdiv_two G1
      have hq2 := tdiv_two G2
      obtain ⟨q1, hq1'⟩ : ∃ q, G1 / 2 = q := ⟨_, rfl⟩
      obtain ⟨q2, hq2'⟩ : ∃ q, G2 / 2 = q := ⟨_, rfl⟩
      have hb1 : q1 < F + s := by omega
      have hb2 : q2 < F + s := by omega
      rw [hq1'] at hq1
      rw [hq2'] at hq2
      have Hq := Lib.hid (And.intro hq1' hq2')
      have hw1 : IntKind.i64.wrap (q1 : Int) = q1 := IntWalk.i64_in _ (by omega)
      have hw2 : IntKind.i64.wrap (q2 : Int) = q2 := IntWalk.i64_in _ (by omega)
      clear hx hgt hgd hG1 hG2 hq1' hq2' g1 g2
      go_wp2_with fail
      refine go_once0 ?C2 (fun key => ?main2) ?key2
      case main2 =>
       go_region
       all_goals exact key
      case key2 =>
       obtain ⟨gp, hgp⟩ : ∃ g, wr.heap.size = g := ⟨_, rfl⟩
       have hbp := (bel_new wr (.cells #[.int .i64 q1, .int .i64 q2] 3)).drew
       have hPp := heap_alloc_new wr (.cells #[.int .i64 q1, .int .i64 q2] 3)
       have HU4 := Lib.hid (own_below HU.out hbp)
       have PC4 := Lib.hid (PC.out.below hbp)
       have HB4 := Lib.hid (HB.out.trans (hbp.mono HB.out.size))
       have hgUp : gU < gp := by
        rw [← hgp]
        have := HU.out.lt gU rfl
        exact this.2
       rw [hgp] at hPp
       try rw [hgp]
       have HP4 : Hid (((wr.alloc (.cells #[.int .i64 q1, .int .i64 q2] 3)).drew).heap[gp]? = some (.cells #[.int .i64 q1, .int .i64 q2] 3 (0, 0))) := Lib.hid hPp
       clear hbp hPp HU PC HB z p0 p1 p2 p3 hs1 hs2 hw1 hw2 hq1 hq2 hgp
       go_wp2_with fail
       generalize (wr.alloc (.cells #[.int .i64 q1, .int .i64 q2] 3)).drew = W4 at *
       go_loopw [9] (fun i wr => ∃ (pp : Nat) (V : List Bool), pp ≤ 2 ∧ i = .int .i64 pp ∧ V.length = d.gates.length ∧ Hid (∀ l ∈ Ls, F ≤ l / 2 → V.getD (l / 2 - F) false = true) ∧ Hid (∀ j, s + 1 ≤ j → j < d.gates.length → V.getD j false = true → Fan F d.gates j V) ∧ Hid ((1 ≤ pp → V.getD s false = true → F ≤ q1 → V.getD (q1 - F) false = true) ∧ (2 ≤ pp → V.getD s false = true → F ≤ q2 → V.getD (q2 - F) false = true)) ∧ Hid (wr.ownsRow gU 4 1 (.slice (some ⟨gU, 0, none⟩) d.gates.length d.gates.length) d.gates.length (bools V)) ∧ Hid (PCells wr gC (Cir.toCz d).ins (.slice An d.next.length cn) (.slice (some ⟨b, o, none⟩) d.gates.length cg) (.slice Ao d.outs.length co)) ∧ Hid (Below w.heap.size w wr) ∧ Hid (wr.heap[gp]? = some (.cells #[.int .i64 q1, .int .i64 q2] 3 (0, 0)))) (fun i _ => 2 - (intOf i).toNat)
       case atStart => exact ⟨0, U, by omega, rfl, hUl, HRoot, HFan, Lib.hid ⟨fun h => absurd h (by omega), fun h => absurd h (by omega)⟩, HU4, PC4, HB4, HP4⟩
       case round =>
        clear HRoot HFan HU4 PC4 HB4 HP4
        obtain ⟨pp, V, hpp, rfl, hVl, HRoot, HFan, Hp, HU, PC, HB, HP⟩ := hrel
        have zp := blk_ltB HP.out
        have c0 := blk_cell HP.out 0
        have c1 := blk_cell HP.out 1
        simp at c0 c1
        have hsc : wr.cell? ⟨gU, s, none⟩ = some (.bool (V.getD s false)) := by
         obtain ⟨u, hu, hc, -⟩ := own_slot HU.out (j := s) (by omega)
         rw [hc, List.getD_eq_getElem?_getD]
         unfold bools at hu
         rw [List.getElem?_map, List.getElem?_eq_getElem (by omega)] at hu
         rw [List.getElem?_eq_getElem (by omega)]
         exact congrArg some (Option.some.inj hu).symm
        rcases (show pp = 0 ∨ pp = 1 ∨ pp = 2 by omega) with rfl | rfl | rfl
        ·cases hVs : V.getD s false
         ·have hsc' : wr.cell? ⟨gU, s, none⟩ = some (.bool false) := by rw [hsc, hVs]
          have Hvs := Lib.hid hVs
          clear hVs hsc
          go_wp2_with fail
          go_roundw
          case rel => exact ⟨1, V, by omega, by go_num, hVl, HRoot, HFan, Lib.hid ⟨fun _ h => (by rw [Hvs.out] at h; cases h), fun _ h => (by rw [Hvs.out] at h; cases h)⟩, HU, PC, HB, HP⟩
          case measure => simp [intOf]
         ·have hsc' : wr.cell? ⟨gU, s, none⟩ = some (.bool true) := by rw [hsc, hVs]
          have Hvs := Lib.hid hVs
          clear hVs hsc
          by_cases hge : F ≤ q1
          ·obtain ⟨j, hj⟩ : ∃ j, q1 = F + j := ⟨q1 - F, by omega⟩
           have dge : decide ((q1 : Int) ≥ (F : Int)) = true := decide_eq_true (by omega)
           have dge2 : decide ((F : Int) ≤ (q1 : Int)) = true := decide_eq_true (by omega)
           have dge3 : decide (F ≤ q1) = true := decide_eq_true hge
           have hwj : IntKind.i64.wrap ((q1 : Int) - (F : Int)) = (j : Int) := by rw [IntWalk.i64_in _ (by omega)]; omega
           obtain ⟨u0, -, hd0, hf0⟩ := own_slot HU.out (j := j) (by omega)
           have hst := HU.out.stored j (.bool true)
           rw [bools_set] at hst
           have HU' := Lib.hid hst.1
           have PC' := Lib.hid (PC.out.kept hst.2 (by omega))
           have HB' := Lib.hid (HB.out.grown hst.2 HB.out.size (fun k hk => by have := Option.some.inj hk; omega))
           have HP' := Lib.hid ((hst.2.block gp zp (fun e => by have := Option.some.inj e; omega)).trans HP.out)
           have hjs : j ≠ s := by omega
           have hjl : j < V.length := by omega
           have HR' : Hid (∀ l ∈ Ls, F ≤ l / 2 → (V.set j true).getD (l / 2 - F) false = true) := Lib.hid fun l h1 h2 => set_mono (HRoot.out l h1 h2)
           have HF' : Hid (∀ j', s + 1 ≤ j' → j' < d.gates.length → (V.set j true).getD j' false = true → Fan F d.gates j' (V.set j true)) := Lib.hid fun j' h1 h2 h3 l h4 h5 => set_mono (HFan.out j' h1 h2 (by rwa [set_keep (by omega)] at h3) l h4 h5)
           have Hp' : Hid ((1 ≤ 1 → (V.set j true).getD s false = true → F ≤ q1 → (V.set j true).getD (q1 - F) false = true) ∧ (2 ≤ 1 → (V.set j true).getD s false = true → F ≤ q2 → (V.set j true).getD (q2 - F) false = true)) := Lib.hid ⟨fun h1 h2 h3 => by
            first
             | exact set_mono (Hp.out.1 (by omega) Hvs.out h3)
             | (rw [show q1 - F = j by omega]; exact set_at hjl), fun h1 h2 h3 => by
            first
             | exact absurd h1 (by omega)
             | (rw [show q2 - F = j by omega]; exact set_at hjl)⟩
           clear hst hj
           go_wp2_with fail
           go_roundw
           case rel => exact ⟨1, V.set j true, by omega, by go_num, by rw [List.length_set]; exact hVl, HR', HF', Hp', HU', PC', HB', HP'⟩
           case measure => simp [intOf]
          ·have dge : decide ((q1 : Int) ≥ (F : Int)) = false := decide_eq_false (by omega)
           have dge2 : decide ((F : Int) ≤ (q1 : Int)) = false := decide_eq_false (by omega)
           have dge3 : decide (F ≤ q1) = false := decide_eq_false hge
           go_wp2_with fail
           go_roundw
           case rel => exact ⟨1, V, by omega, by go_num, hVl, HRoot, HFan, Lib.hid ⟨fun h1 h2 h3 => by first | exact absurd h3 hge | exact Hp.out.1 (by omega) h2 h3, fun h1 h2 h3 => by first | exact absurd h3 hge | exact absurd h1 (by omega)⟩, HU, PC, HB, HP⟩
           case measure => simp [intOf]
        ·cases hVs : V.getD s false
         ·have hsc' : wr.cell? ⟨gU, s, none⟩ = some (.bool false) := by rw [hsc, hVs]
          have Hvs := Lib.hid hVs
          clear hVs hsc
          go_wp2_with fail
          go_roundw
          case rel => exact ⟨2, V, by omega, by go_num, hVl, HRoot, HFan, Lib.hid ⟨fun _ h => (by rw [Hvs.out] at h; cases h), fun _ h => (by rw [Hvs.out] at h; cases h)⟩, HU, PC, HB, HP⟩
          case measure => simp [intOf]
         ·have hsc' : wr.cell? ⟨gU, s, none⟩ = some (.bool true) := by rw [hsc, hVs]
          have Hvs := Lib.hid hVs
          clear hVs hsc
          by_cases hge : F ≤ q2
          ·obtain ⟨j, hj⟩ : ∃ j, q2 = F + j := ⟨q2 - F, by omega⟩
           have dge : decide ((q2 : Int) ≥ (F : Int)) = true := decide_eq_true (by omega)
           have dge2 : decide ((F : Int) ≤ (q2 : Int)) = true := decide_eq_true (by omega)
           have dge3 : decide (F ≤ q2) = true := decide_eq_true hge
           have hwj : IntKind.i64.wrap ((q2 : Int) - (F : Int)) = (j : Int) := by rw [IntWalk.i64_in _ (by omega)]; omega
           obtain ⟨u0, -, hd0, hf0⟩ := own_slot HU.out (j := j) (by omega)
           have hst := HU.out.stored j (.bool true)
           rw [bools_set] at hst
           have HU' := Lib.hid hst.1
           have PC' := Lib.hid (PC.out.kept hst.2 (by omega))
           have HB' := Lib.hid (HB.out.grown hst.2 HB.out.size (fun k hk => by have := Option.some.inj hk; omega))
           have HP' := Lib.hid ((hst.2.block gp zp (fun e => by have := Option.some.inj e; omega)).trans HP.out)
           have hjs : j ≠ s := by omega
           have hjl : j < V.length := by omega
           have HR' : Hid (∀ l ∈ Ls, F ≤ l / 2 → (V.set j true).getD (l / 2 - F) false = true) := Lib.hid fun l h1 h2 => set_mono (HRoot.out l h1 h2)
           have HF' : Hid (∀ j', s + 1 ≤ j' → j' < d.gates.length → (V.set j true).getD j' false = true → Fan F d.gates j' (V.set j true)) := Lib.hid fun j' h1 h2 h3 l h4 h5 => set_mono (HFan.out j' h1 h2 (by rwa [set_keep (by omega)] at h3) l h4 h5)
           have Hp' : Hid ((1 ≤ 2 → (V.set j true).getD s false = true → F ≤ q1 → (V.set j true).getD (q1 - F) false = true) ∧ (2 ≤ 2 → (V.set j true).getD s false = true → F ≤ q2 → (V.set j true).getD (q2 - F) false = true)) := Lib.hid ⟨fun h1 h2 h3 => by
            first
             | exact set_mono (Hp.out.1 (by omega) Hvs.out h3)
             | (rw [show q1 - F = j by omega]; exact set_at hjl), fun h1 h2 h3 => by
            first
             | exact absurd h1 (by omega)
             | (rw [show q2 - F = j by omega]; exact set_at hjl)⟩
           clear hst hj
           go_wp2_with fail
           go_roundw
           case rel => exact ⟨2, V.set j true, by omega, by go_num, by rw [List.length_set]; exact hVl, HR', HF', Hp', HU', PC', HB', HP'⟩
           case measure => simp [intOf]
          ·have dge : decide ((q2 : Int) ≥ (F : Int)) = false := decide_eq_false (by omega)
           have dge2 : decide ((F : Int) ≤ (q2 : Int)) = false := decide_eq_false (by omega)
           have dge3 : decide (F ≤ q2) = false := decide_eq_false hge
           go_wp2_with fail
           go_roundw
           case rel => exact ⟨2, V, by omega, by go_num, hVl, HRoot, HFan, Lib.hid ⟨fun h1 h2 h3 => by first | exact absurd h3 hge | exact Hp.out.1 (by omega) h2 h3, fun h1 h2 h3 => by first | exact absurd h3 hge | exact absurd h1 (by omega)⟩, HU, PC, HB, HP⟩
           case measure => simp [intOf]
        ·have hws : IntKind.i64.wrap ((s : Int) - 1) = (s : Int) - 1 := IntWalk.i64_in _ (by omega)
         have HF' : Hid (∀ j, s ≤ j → j < d.gates.length → V.getD j false = true → Fan F d.gates j V) := Lib.hid fun j h1 h2 h3 => by
          rcases Nat.lt_or_ge s j with h | h
          ·exact HFan.out j h h2 h3
          ·obtain rfl : j = s := by omega
           intro l hl h5
           rw [Hgd.out.1, Hgd.out.2.1, Hgd.out.2.2] at hl
           rcases hl with rfl | rfl
           ·rw [Hq.out.1] at h5 ⊢
            exact Hp.out.1 (by omega) h3 h5
           ·rw [Hq.out.2] at h5 ⊢
            exact Hp.out.2 (by omega) h3 h5
         go_wp2_with fail
         go_roundw
         case rel => exact ⟨s, V, by omega, rfl, hVl, HRoot, HF', HU, PC, HB⟩
         case measure => simp [intOf] <;> omega
end Go.Proofs.Ytkkkjbinfdohpaa
namespace Go.Proofs.Ytkkkjbinfdohpaa
namespace Cir
def bStep (share : Bool) (F : Nat) (keep : List Bool) (gs : List (Nat × Nat)) (k : Nat) (p : List (Nat × Nat) × List Nat) : List (Nat × Nat) × List Nat :=
  if keep.getD (F + k) false then
    (if share then ((andB F p.1 (useX p.2 (gs.getD k (0, 0)).1) (useX p.2 (gs.getD k (0, 0)).2)).2, p.2 ++ [(andB F p.1 (useX p.2 (gs.getD k (0, 0)).1) (useX p.2 (gs.getD k (0, 0)).2)).1])
    else ((useX p.2 (gs.getD k (0, 0)).1, useX p.2 (gs.getD k (0, 0)).2) :: p.1, p.2 ++ [2 * (F + p.1.length)]))
  else (p.1, p.2 ++ [0])
def bGo (share : Bool) (F : Nat) (keep : List Bool) (gs : List (Nat × Nat)) : Nat → List (Nat × Nat) × List Nat
  | 0 => ([], ownL F)
  | k + 1 => bStep share F keep gs k (bGo share F keep gs k)
def bRes (share : Bool) (c : Ci) (keep : List Bool) : Ci :=
  { ins := c.ins, next := c.next.map (useX (bGo share (nfirst c) keep c.gates c.gates.length).2), gates := (bGo share (nfirst c) keep c.gates c.gates.length).1.reverse, outs := c.outs.map (useX (bGo share (nfirst c) keep c.gates c.gates.length).2) }
structure BInv (F k : Nat) (p : List (Nat × Nat) × List Nat) : Prop where
  len : p.2.length = F + k
  glen : p.1.length ≤ k
  lt : ∀ l ∈ p.2, l < 2 * (F + p.1.length)
theorem b_inv (share : Bool) {F : Nat} (hF : 0 < F) (keep : List Bool) (gs : List (Nat × Nat)) : ∀ k, BInv F k (bGo share F keep gs k)
 | 0 => ⟨by simp [bGo, ownL], Nat.le_refl _, fun l hl => by
   simp only [bGo, ownL, List.mem_map, List.mem_range] at hl
   obtain ⟨a, ha, rfl⟩ := hl
   simp only [bGo, List.length_nil]
   omega⟩
 | k + 1 => by
  have ih := b_inv share hF keep gs k
  rw [bGo]
  generalize bGo share F keep gs k = p at ih ⊢
  unfold bStep
  by_cases hk : keep.getD (F + k) false = true
  ·rw [if_pos hk]
   have t1 := useX_lt (by omega) ih.lt (gs.getD k (0, 0)).1
   have t2 := useX_lt (by omega) ih.lt (gs.getD k (0, 0)).2
   have hg := ih.glen
   have hm := ih.len
   cases share
   ·rw [if_neg (by simp)]
    refine ⟨by simp; omega, by simp; omega, fun l hl => ?_⟩
    simp only [List.length_cons] at hl ⊢
    rcases List.mem_append.1 hl with h | h
    ·have := ih.lt l h; omega
    ·rw [List.mem_singleton.1 h]; omega
   ·rw [if_pos rfl]
    have hln := andB_len F p.1 (useX p.2 (gs.getD k (0, 0)).1) (useX p.2 (gs.getD k (0, 0)).2)
    have hlt := andB_lt hF t1 t2
    refine ⟨by simp; omega, by simp only; omega, fun l hl => ?_⟩
    simp only at hl ⊢
    rcases List.mem_append.1 hl with h | h
    ·have := ih.lt l h; omega
    ·rw [List.mem_singleton.1 h]; exact hlt
  ·rw [if_neg hk]
   have hg := ih.glen
   have hm := ih.len
   refine ⟨by simp; omega, by simp only; omega, fun l hl => ?_⟩
   simp only at hl ⊢
   rcases List.mem_append.1 hl with h | h
   ·exact ih.lt l h
   ·rw [List.mem_singleton.1 h]; omega
theorem bGo_true (F : Nat) (keep : List Bool) (gs : List (Nat × Nat)) : ∀ k, bGo true F keep gs k = optGo F keep gs k
 | 0 => rfl
 | k + 1 => by
  rw [bGo, optGo, bGo_true F keep gs k]
  unfold bStep optStep
  by_cases hk : keep.getD (F + k) false = true
  ·rw [if_pos hk, if_pos hk, if_pos rfl]
  ·rw [if_neg hk, if_neg hk]
theorem bRes_true (c : Ci) (keep : List Bool) : bRes true c keep = built c keep := by
 unfold bRes built
 rw [bGo_true]
theorem useX_even {m : List Nat} {l x : Nat} (h : m.getD (l / 2) 0 = 2 * x) : useX m l = 2 * x + l % 2 := by
 unfold useX
 rw [h]
 have h1 : (2 * x) ^^^ (l % 2) = 2 * x + l % 2 := by
  rcases Nat.mod_two_eq_zero_or_one l with e | e <;> rw [e]
  ·simp
  ·have h2 : (2 * x ^^^ 1) / 2 = x := by rw [Nat.xor_div_two]; simp
   have h3 : (2 * x ^^^ 1) % 2 = 1 := by
    have := Nat.xor_mod_two_pow (a := 2 * x) (b := 1) (n := 1)
    rw [Nat.pow_one] at this
    rw [this, Nat.mul_mod_right]
    rfl
   omega
 exact h1
theorem bGo_false {c : Ci} (hc : Ok c) (keep : List Bool) : ∀ k, k ≤ c.gates.length → (bGo false (nfirst c) keep c.gates k).2 = (List.range (nfirst c + k)).map (fun v => 2 * plc (nfirst c) keep v) ∧ (bGo false (nfirst c) keep c.gates k).1.reverse = keptG (nfirst c) keep c.gates k
 | 0, _ => by
  refine ⟨?_, by simp [bGo, keptG, keptI]⟩
  simp only [bGo, ownL, Nat.add_zero]
  refine List.map_congr_left fun v hv => ?_
  have := List.mem_range.1 hv
  unfold plc
  rw [if_pos this]
 | k + 1, hkl => by
  obtain ⟨h1, h2⟩ := bGo_false hc keep k (by omega)
  have hg := ok_getD hc (show k < c.gates.length by omega)
  have hs := keptI_succ (nfirst c) keep k
  rw [bGo]
  generalize bGo false (nfirst c) keep c.gates k = p at h1 h2 ⊢
  obtain ⟨G, m⟩ := p
  simp only at h1 h2
  have hm : ∀ v, v < nfirst c + k → m.getD v 0 = 2 * plc (nfirst c) keep v := fun v hv => by
   rw [h1, List.getD_eq_getElem?_getD, List.getElem?_map, List.getElem?_range hv]
   rfl
  have hGl : G.length = (keptI (nfirst c) keep k).length := by rw [← List.length_reverse, h2, keptG_len]
  have hu : ∀ l, l / 2 < nfirst c + k → useX m l = useP (nfirst c) keep l := fun l hl => by
   unfold useP
   exact useX_even (hm _ hl)
  unfold bStep
  by_cases hk : keep.getD (nfirst c + k) false = true
  ·rw [if_pos hk] at hs ⊢
   rw [if_neg (by simp)]
   have hpl : plc (nfirst c) keep (nfirst c + k) = nfirst c + (keptI (nfirst c) keep k).length := by
    unfold plc
    rw [if_neg (by omega), if_pos hk, show nfirst c + k - nfirst c = k from by omega]
   refine ⟨?_, ?_⟩
   ·simp only
    rw [← Nat.add_assoc, List.range_succ, List.map_append, h1]
    simp only [List.map_cons, List.map_nil]
    rw [hpl, hGl]
   ·simp only [List.reverse_cons]
    rw [h2]
    unfold keptG
    rw [hs, List.map_append, hu _ (by omega), hu _ (by omega)]
    rfl
  ·rw [if_neg hk] at hs ⊢
   have hpl : plc (nfirst c) keep (nfirst c + k) = 0 := by
    unfold plc
    rw [if_neg (by omega), if_neg hk]
   refine ⟨?_, ?_⟩
   ·simp only
    rw [← Nat.add_assoc, List.range_succ, List.map_append, h1]
    simp only [List.map_cons, List.map_nil]
    rw [hpl]
   ·simp only
    rw [h2]
    unfold keptG
    rw [hs, List.append_nil]
theorem bRes_false {c : Ci} (hc : Ok c) (keep : List Bool) : bRes false c keep = prune c keep := by
 obtain ⟨h1, h2⟩ := bGo_false hc keep c.gates.length (Nat.le_refl _)
 unfold bRes prune
 rw [h2]
 have hu : ∀ l, l < 2 * nvars c → useX (bGo false (nfirst c) keep c.gates c.gates.length).2 l = useP (nfirst c) keep l := fun l hl => by
  unfold useP
  refine useX_even ?_
  rw [h1, List.getD_eq_getElem?_getD, List.getElem?_map, List.getElem?_range (by unfold nvars at hl; omega)]
  rfl
 congr 1
 ·exact List.map_congr_left fun l hl => hu l (hc.next l hl)
 ·exact List.map_congr_left fun l hl => hu l (hc.out l hl)
theorem bRes_ok (share : Bool) {c : Ci} {U : List Bool} (hc : Ok c) (hU : Used c U) : Ok (bRes share c (List.replicate (nfirst c) true ++ U)) := by
 cases share
 ·rw [bRes_false hc]; exact prune_ok hc hU.closed
 ·rw [bRes_true]; exact built_ok hc hU.closed
theorem bRes_same (share : Bool) {c : Ci} {U : List Bool} (hc : Ok c) (hU : Used c U) : SameStep c (bRes share c (List.replicate (nfirst c) true ++ U)) := by
 cases share
 ·rw [bRes_false hc]; exact prune_same hc hU.closed
 ·rw [bRes_true]; exact built_same hc hU.closed
theorem map_set_next {l : List Nat} {k x : Nat} (h : l[k]? = some x) (u : Nat → Nat) : ((l.take k).map u ++ l.drop k).set k (u x) = (l.take (k + 1)).map u ++ l.drop (k + 1) := by
 have hk : k < l.length := (List.getElem?_eq_some_iff.1 h).1
 have hx : l[k] = x := (List.getElem?_eq_some_iff.1 h).2
 rw [List.set_append, if_neg (by simp; omega)]
 simp only [List.length_map, List.length_take, Nat.min_eq_left (Nat.le_of_lt hk), Nat.sub_self]
 rw [List.drop_eq_getElem_cons hk, List.set_cons_zero, take_snoc h, List.map_append, List.append_assoc]
 rfl
end Cir
end Go.Proofs.Ytkkkjbinfdohpaa
namespace Go.Proofs.Ytkkkjbinfdohpaa
open Go.RowKit
section
variable {P : Program} {ops : Array Oper}
theorem ready_of {m : Nat} {om : Oper} (hB : rgB ops = true) (hom : ops[m]? = some om) {listed : Array Bool} (hsz : listed.size = ops.size) (hall : ∀ i, i < m → listed.getD i false = true) (hmf : listed.getD m false = false) : m ∈ Region.ready .any ops listed := by
 have hil : m < listed.size := by have := (Array.getElem?_eq_some_iff.1 hom).1; omega
 refine mem_ready.2 ⟨by simpa [Array.getD, hil] using hmf, om, hom, fun e he hbn => hall e.on ((rgB_ok hB hom).back e he hbn)⟩
theorem anc_open {listed : Array Bool} (L : Shut ops (fun i => listed.getD i false)) {i : Nat} {o : Oper} (ho : ops[i]? = some o) (hr : ∀ e ∈ o.after, Region.binds .any e = true → listed.getD e.on false = true) {j : Nat} (hj : j < i) (ha : ancB ops 16 j i = true) : listed.getD j false = true := by
 rw [show (16 : Nat) = 15 + 1 from rfl, ancB, Bool.or_eq_true] at ha
 rcases ha with ha | ha
 ·exact absurd (by simpa using ha) (Nat.ne_of_lt hj)
 ·simp only [ho, Option.map_some, Option.getD_some, Array.any_eq_true] at ha
  obtain ⟨q, hq, ha⟩ := ha
  rw [Bool.and_eq_true] at ha
  exact ancB_shut L 15 j _ ha.2 (hr _ (Array.getElem_mem hq) ha.1)
theorem getD_setT {listed : Array Bool} {i : Nat} (hil : i < listed.size) : (fun j => (listed.setIfInBounds i true).getD j false) = fun j => if j = i then true else listed.getD j false := by
 funext j
 by_cases e : j = i
 ·subst e; simp [hil]
 ·simp only [e, if_false]
  exact getD_set_ne false (fun h => e h.symm)
theorem open_less {listed : Array Bool} {i : Nat} (hlt : i < ops.size) (hil : i < listed.size) (h1 : listed.getD i false = false) : open_ ops (listed.setIfInBounds i true) < open_ ops listed := by
 have eL := getD_setT hil
 refine countP_lt (fun x _ hx => ?_) ⟨i, List.mem_range.2 hlt, by simpa using h1, ?_⟩
 ·have : (listed.setIfInBounds i true).getD x false = if x = i then true else listed.getD x false := congrFun eL x
  rw [this] at hx
  by_cases e : x = i
  ·simp [e] at hx
  ·simpa [e] using hx
 ·have : (listed.setIfInBounds i true).getD i false = if i = i then true else listed.getD i false := congrFun eL i
  rw [this]
  simp
theorem wpAny_chain {Q : Exit → Act → World → Prop} (hB : rgB ops = true) {m : Nat} (hlast : ∀ i, m ≤ i → i < ops.size → ∀ j, m ≤ j → j < i → ancB ops 16 j i = true) :
  ∀ (l : List Oper) (k fuel : Nat) (listed : Array Bool) (a : Act) (w : World), m ≤ k → ops.toList.drop k = l → listed.size = ops.size → (∀ j, j < ops.size → listed.getD j false = decide (j < k)) → Shut ops (fun i => listed.getD i false) → open_ ops listed ≤ fuel → wpList P ops Q l a w → wpAny P .any ops Q fuel listed a w
 | [], k, fuel, listed, a, w, _, hl, hsz, hd, _, _, h => by
  have hk : ops.size ≤ k := by
   rcases Nat.lt_or_ge k ops.size with h' | h'
   ·have := congrArg List.length hl
    simp at this
    omega
   ·exact h'
  exact wpAny_done (ready_nil hsz fun j hj => by rw [hd j hj]; exact decide_eq_true (by omega)) h fuel
 | o :: l, k, fuel, listed, a, w, hm, hl, hsz, hd, hC, hf, h => by
  have hk : k < ops.size := by
   rcases Nat.lt_or_ge k ops.size with h' | h'
   ·exact h'
   ·rw [List.drop_eq_nil_of_le (by simpa using h')] at hl; cases hl
  rw [List.drop_eq_getElem_cons (by simpa using hk)] at hl
  injection hl with h1 h2
  have ho : ops[k]? = some o := by
   rw [← h1, ← Array.getElem?_toList, List.getElem?_eq_getElem]
  have hkf : listed.getD k false = false := by rw [hd k hk]; exact decide_eq_false (by omega)
  cases fuel with
  | zero =>
   exfalso
   have hpos : 0 < open_ ops listed := List.countP_pos_iff.2 ⟨k, List.mem_range.2 hk, by simp [hkf]⟩
   omega
  | succ fuel =>
   refine ⟨fun hr => ?_, fun i hi => ?_⟩
   ·have := ready_of hB ho hsz (fun i hi => by rw [hd i (by omega)]; exact decide_eq_true hi) hkf
    rw [hr] at this
    cases this
   ·obtain ⟨g1, o', ho', hr⟩ := mem_ready.1 hi
    have hlt := (Array.getElem?_eq_some_iff.1 ho').1
    have hil : i < listed.size := by omega
    have g1' : listed.getD i false = false := by simpa [Array.getD, hil] using g1
    have hki : k ≤ i := by
     rcases Nat.lt_or_ge i k with h' | h'
     ·rw [hd i hlt, decide_eq_true h'] at g1'; cases g1'
     ·exact h'
    have hik : i = k := by
     rcases Nat.lt_or_ge k i with h' | h'
     ·have := anc_open hC ho' hr h' (hlast i (by omega) hlt k hm h')
      rw [hkf] at this; cases this
     ·omega
    subst hik
    obtain rfl := Option.some.inj (ho'.symm.trans ho)
    have eL := getD_setT hil
    unfold wpList at h
    have hgd := (rgB_ok hB ho).guard
    rw [if_pos (by simp [Region.wanted, hgd])] at h
    unfold wpOp
    simp only [ho]
    rw [if_pos (by simp [Region.wanted, hgd])]
    refine h.imp (Oper.wp_mono fun a' w' hq => ?_) id
    refine wpAny_chain hB hlast l (i + 1) fuel _ a' w' (by omega) h2 (by simpa using hsz) (fun j hj => ?_) ?_ ?_ hq
    ·have : (listed.setIfInBounds i true).getD j false = if j = i then true else listed.getD j false := congrFun eL j
     rw [this, hd j hj]
     by_cases e : j = i
     ·subst e; simp
     ·simp only [e, if_false]
      by_cases e2 : j < i
      ·rw [decide_eq_true e2, decide_eq_true (by omega)]
      ·rw [decide_eq_false e2, decide_eq_false (by omega)]
    ·rw [eL]
     intro j p hj hp e he hb
     by_cases ej : j = i
     ·subst ej
      obtain rfl := Option.some.inj (ho.symm.trans hp)
      have := hr e he hb
      by_cases ee : e.on = j <;> simp [ee, this]
     ·simp only [ej, if_false] at hj
      have := hC j p hj hp e he hb
      by_cases ee : e.on = i <;> simp [ee, this]
    ·have := open_less hlt hil g1'
     omega
theorem rg_tail {Q : Exit → Act → World → Prop} {τ : Nat → World → Value → Prop} {d m : Nat} {I : Nat → Option Value → World → Prop} {G : World → World → Prop} {a0 : Act} (hB : rgB ops = true) (hS : (ops.all fun o => match o.dst with | some t => decide (t < a0.tmps.size) | none => true) = true)
  (hm : m < ops.size) (hlast : ∀ i, m ≤ i → i < ops.size → ∀ j, j < i → ancB ops 16 j i = true)
  (hG : ∀ i v w w', τ i w v → G w w' → τ i w' v)
  (hstep : ∀ i o, i < m → ops[i]? = some o → ∀ k ov ρ w, k < ops.size → I k ov w → (ancB ops 8 i d = true → ov = none) → Known ops τ a0 ρ w i o.op.operands.toList → Good P o ρ w fun v w' => τ i w' v ∧ I (k + 1) (if i = d then some v else ov) w' ∧ G w w')
  (hd : d < m) (hend : ∀ f w' k, k ≤ ops.size → I k (some (f d)) w' → (∀ i, i < m → τ i w' (f i)) → Copies ops (fun j => decide (j < m)) f → wpList P ops Q (ops.toList.drop m) (putAll (ops.toList.take m) f 0 a0) w') :
  ∀ (fuel : Nat) (listed : Array Bool) (a : Act) (w : World) (k : Nat), k + fuel = ops.size → listed.size = ops.size → open_ ops listed ≤ fuel → (∀ i, m ≤ i → i < ops.size → listed.getD i false = false) → Inv ops τ d (I k) a0 (fun i => listed.getD i false) a w → wpAny P .any ops Q fuel listed a w := by
 obtain ⟨om, hom⟩ : ∃ om, ops[m]? = some om := ⟨_, Array.getElem?_eq_getElem hm⟩
 intro fuel
 induction fuel with
 | zero =>
  intro listed a w k hk hsz hc hmf h
  exfalso
  have hpos : 0 < open_ ops listed := List.countP_pos_iff.2 ⟨m, List.mem_range.2 hm, by simp [hmf m (Nat.le_refl _) hm]⟩
  omega
 | succ fuel ih =>
  intro listed a w k hk0 hsz hc hmf h
  have hnil : Region.ready .any ops listed = [] → False := by
   intro hr
   have hall : ∀ i, i < m → listed.getD i false = true := by
    intro i
    induction i using Nat.strongRecOn with
    | _ i ihi =>
     intro hi
     rcases hb : listed.getD i false with _ | _
     ·exfalso
      have hi' : i < ops.size := by omega
      have hmm : i ∈ Region.ready .any ops listed := mem_ready.2 ⟨by
       have : i < listed.size := by omega
       simpa [Array.getD, this] using hb, ops[i], Array.getElem?_eq_getElem hi', fun e he hbn => ihi e.on ((rgB_ok hB (Array.getElem?_eq_getElem hi')).back e he hbn) (by
        have := (rgB_ok hB (Array.getElem?_eq_getElem hi')).back e he hbn
        omega)⟩
      rw [hr] at hmm
      cases hmm
     ·rfl
   have := ready_of hB hom hsz hall (hmf m (Nat.le_refl _) hm)
   rw [hr] at this
   cases this
  refine ⟨fun hr => (hnil hr).elim, fun i hi => ?_⟩
  obtain ⟨h1, o, ho, hr⟩ := mem_ready.1 hi
  have hlt := (Array.getElem?_eq_some_iff.1 ho).1
  have hil : i < listed.size := by omega
  have h1' : listed.getD i false = false := by simpa [Array.getD, hil] using h1
  have eL := getD_setT hil
  rcases Nat.lt_or_ge i m with hltm | hge
  ·unfold wpOp
   simp only [ho]
   rw [if_pos (by simp [Region.wanted, (rgB_ok hB ho).guard])]
   have hk := h.known hB hS ho h1' hr
   have hcopy : ∀ (f : Nat → Value), Is ops a0 (fun i => listed.getD i false) f a → ∀ t j, o.op = .assign (.tmp t) → writer ops i t = some j → listed.getD j false = true ∧ a.eval (.tmp t) = f j := fun f hf t j ha hw => h.copy hB hS ho h1' hr hf ha hw
   obtain ⟨hC, f, hf, hI, hτ, hcp⟩ := h
   have hg := hstep i o hltm ho k _ a.eval w (by omega) hI (fun e => if_neg (fun hdl => by have := ancB_shut hC 8 i d e hdl; rw [h1'] at this; cases this)) hk
   refine .inl (Good.wp hg.assign fun v w' ⟨⟨hv, hI', hgw⟩, hva⟩ => ?_)
   refine ih _ _ _ (k + 1) (by omega) (by simpa using hsz) ?_ ?_ ?_
   ·have := open_less hlt hil h1'
    omega
   ·intro j hj1 hj2
    have : (listed.setIfInBounds i true).getD j false = if j = i then true else listed.getD j false := congrFun eL j
    rw [this, if_neg (by omega)]
    exact hmf j hj1 hj2
   ·rw [eL]
    refine ⟨fun j p hj hp e he hb => ?_, _, hf.step hB ho h1' v, ?_, fun j hj => ?_, fun j p t q hj hp ha hw => ?_⟩
    ·by_cases ej : j = i
     ·subst ej
      obtain rfl := Option.some.inj (ho.symm.trans hp)
      have := hr e he hb
      by_cases ee : e.on = j <;> simp [ee, this]
     ·simp only [ej, if_false] at hj
      have := hC j p hj hp e he hb
      by_cases ee : e.on = i <;> simp [ee, this]
    ·by_cases ed : i = d
     ·subst ed
      simpa using hI'
     ·simpa [ed, show ¬ d = i from fun h => ed h.symm] using hI'
    ·by_cases ej : j = i
     ·subst ej
      exact ⟨hlt, by simpa using hv⟩
     ·simp only [ej, if_false] at hj ⊢
      exact ⟨(hτ j hj).1, hG j _ _ _ (hτ j hj).2 hgw⟩
    ·have hqj : q < j := List.mem_range.1 (List.mem_of_find?_eq_some hw)
     by_cases ej : j = i
     ·subst ej
      obtain rfl := Option.some.inj (ho.symm.trans hp)
      obtain ⟨h5, h6⟩ := hcopy f hf t q ha hw
      have hne : q ≠ j := by omega
      exact ⟨by simp only [hne, if_false]; exact h5, by simp only [hne, if_false, if_true]; rw [hva _ ha, h6]⟩
     ·simp only [ej, if_false] at hj ⊢
      obtain ⟨h5, h6⟩ := hcp j p t q hj hp ha hw
      have h5' : listed.getD q false = true := h5
      have hne : q ≠ i := fun e => by rw [e, h1'] at h5'; cases h5'
      simp only [hne, if_false]
      exact ⟨h5, h6⟩
  ·obtain ⟨hC, f, hf, hI, hτ, hcp⟩ := h
   have him : i = m := by
    rcases Nat.lt_or_ge m i with h' | h'
    ·have := anc_open hC ho hr h' (hlast i hge hlt m h')
     rw [hmf m (Nat.le_refl _) hm] at this; cases this
    ·omega
   subst him
   have hall : ∀ j, j < i → listed.getD j false = true := fun j hj => anc_open hC ho hr hj (hlast i (Nat.le_refl _) hlt j hj)
   have hI : I k (some (f d)) w := by simpa [hall d hd] using hI
   have eLt : ∀ j, j < ops.size → (listed.getD j false = true ↔ j < i) := by
    intro j hj
    constructor
    ·intro hl
     rcases Nat.lt_or_ge j i with h5 | h5
     ·exact h5
     ·rw [hmf j h5 hj] at hl; cases hl
    ·exact hall j
   have e1 : Is ops a0 (fun j => decide (j < i)) f a := ⟨hf.defers, hf.size, fun j p t hj hp hd2 hl => hf.mine j p t (hall j (by simpa using hj)) hp hd2 hl,
    fun t ht => hf.old t fun j p hj hp => ht j p (by
     have hjs := (Array.getElem?_eq_some_iff.1 hp).1
     simpa using (eLt j hjs).1 hj) hp⟩
   have e0 : Is ops a0 (fun j => decide (j < 0)) f a0 := ⟨rfl, rfl, fun _ _ _ h => by simp at h, fun _ _ => rfl⟩
   have hlen : (ops.toList.take i).length = i := by simp; omega
   have e2 := putSome_is hB (ops.toList.take i) 0 a0 (by rw [hlen]; rfl) e0
   rw [hlen, Nat.zero_add] at e2
   have he : a = putAll (ops.toList.take i) f 0 a0 := e1.same e2
   have hgo := hend f w k (by omega) hI (fun j hj => (hτ j (hall j hj)).2) (fun j p t q hj hp ha hw => by
    have hj' : j < i := by simpa using hj
    obtain ⟨h5, h6⟩ := hcp j p t q (hall j hj') hp ha hw
    exact ⟨by simpa using (eLt q (hτ q h5).1).1 h5, h6⟩)
   rw [← he] at hgo
   have := wpAny_chain (P := P) hB (fun i h1 h2 j _ hj => hlast i h1 h2 j hj) _ i (fuel + 1) listed a w (Nat.le_refl _) rfl hsz (fun j hj => by
    by_cases e : j < i
    ·rw [hall j e, decide_eq_true e]
    ·rw [hmf j (by omega) hj, decide_eq_false e]) hC hc hgo
   exact this.2 i hi
end
theorem wp_region_rst {id : Nat} {Q : Exit → Act → World → Prop} (S : RS) (hO : S.Ok) (hm : S.P.follows .mixedOrders = true) (hB : rgB S.ops = true) (hS : (S.ops.all fun o => match o.dst with | some t => decide (t < S.a0.tmps.size) | none => true) = true)
  (m : Nat) (rest : List Oper) (hrest : S.ops.toList.drop m = rest) (hsz : Nat.ble (m + 1) S.ops.size = true) (hlast : ((List.range S.ops.size).all fun i => decide (i < m) || (List.range i).all fun j => ancB S.ops 16 j i) = true) (hd : S.d < m)
  (hr : RdO S.rd 0 S.w0) (hJ : S.J none S.w0)
  (h : RSeq S (fun τ => ∀ f w' k, k ≤ S.ops.size → S.I k (some (f S.d)) w' → (∀ i, i < m → tys τ i w' (f i)) → Copies S.ops (fun j => decide (j < m)) f → wpList S.P S.ops Q rest (putAll (S.ops.toList.take m) f 0 S.a0) w') (S.ops.toList.take m) 0 []) : (Code.region id S.ops true).wp S.P Q S.a0 S.w0 := by
 subst hrest
 have hsz := nlb hsz
 have hlen : (S.ops.toList.take m).length = m := by simp; omega
 obtain ⟨τ, _, h3, h4, h5⟩ := rseq_types_l (S.ops.toList.take m) [] (by rw [hlen]; rfl) (by simp) h
 have hl : ∀ i, m ≤ i → i < S.ops.size → ∀ j, j < i → ancB S.ops 16 j i = true := fun i h1 h2 j hj => by
  have := List.all_eq_true.1 hlast i (List.mem_range.2 h2)
  rw [Bool.or_eq_true] at this
  rcases this with h' | h'
  ·have := of_decide_eq_true h'; omega
  ·exact List.all_eq_true.1 h' j (List.mem_range.2 hj)
 refine wp_region_any hm (rg_tail (τ := tys τ) (d := S.d) (m := m) (I := S.I) (G := Only S.E) (a0 := S.a0) hB hS hsz hl (fun i v w w' ht hg => tys_stb h3 i v w w' ht hg) (fun i o hi ho => h5 i o (Nat.zero_le _) (by rw [hlen]; simpa using hi) ho) hd (fun f w' k hk hI ht hc => h4 f w' k hk hI ht hc) S.ops.size (Array.replicate S.ops.size false) S.a0 _ 0 (by omega) (by simp) ?_ ?_ ?_)
 ·unfold open_
  exact Nat.le_trans List.countP_le_length (by simp)
 ·intro i h1 h2
  simp [Array.getD, h2]
 ·have e : (fun i => (Array.replicate S.ops.size false).getD i false) = fun _ => false := by
   funext i
   by_cases h : i < S.ops.size <;> simp [Array.getD, h]
  rw [e]
  refine ⟨(fun j o hj => (by cases hj)), ⟨fun _ => undef, Is.start S.a0 _, ⟨?_, Only.drew _ _, hO.keep _ _ _ hJ (Only.drew _ _)⟩, (fun i hi => (by cases hi)), (fun i o t j hi => (by cases hi))⟩⟩
  cases hrd : S.rd with
  | none => trivial
  | some x =>
   rw [hrd] at hr
   exact Rd.drew1 hr
end Go.Proofs.Ytkkkjbinfdohpaa
namespace Go.Proofs.Ytkkkjbinfdohpaa
open Go.RowKit
section
variable {P : Program}
theorem run_append_lit (w : World) (base : Nat) (t ty e : TypeId) (i : TypeInfo) (z : Value) (size bytes : Nat) (ht : P.underlying t = some (.slice e)) (hi : P.info? e = some i) (hz : i.zero = some z)
  (hsize : i.size = size) (hby : i.bytes = bytes) (hzs : z.cells.size = size) (hsz : 0 < size)
  (g : Nat) (hg : w.heap[g]? = some (.cells #[] e (0, 0))) (sv : Value) (m : Nat) (news : List Value) (hr : Row w size sv m news) (h1 : ∀ u ∈ news, u.oneCell' = true)
  (h63 : m ≤ maxLen) (hbytes : m * bytes ≤ 140737488355328) (hbase : base ≤ g) :
  ∃ v' w', (Builtin.append_ #[t, t] ty #[.slice (some ⟨g, 0, none⟩) 0 0, sv]).run P w = .ok v' w' ∧ w'.ownsRow base e size v' m news ∧ Below w.heap.size w w' := by
 have hgl : g < w.heap.size := (Array.getElem?_eq_some_iff.1 hg).1
 have hown : w.ownsRow base e size (.slice (some ⟨g, 0, none⟩) 0 0) 0 [] := ⟨by simp, .inr ⟨g, 0, #[], rfl, hbase, hg, Nat.le_refl _, by unfold maxLen; omega, by simp, by simp⟩⟩
 obtain ⟨hl, A, c, rfl, hc1, hc2, hcell⟩ := hr
 subst hsize
 subst hby
 rcases Nat.eq_zero_or_pos m with h0 | h0
 ·subst h0
  have hn : news = [] := List.eq_nil_of_length_eq_zero (by simpa using hl)
  subst hn
  cases A with
  | none =>
   refine ⟨_, w, ?_, hown, Below.refl _ _⟩
   simp [Builtin.append_, run_underlying ht, sizeOf, typeInfo, hi, Builtin.lenOf, Builtin.firstCells, storeCells]
  | some a =>
   have hr := run_append_room (P := P) w t ty e i ht hi g 0 0 #[] hg a 0 c [] (by simp) (fun j u h => by simp at h) (fun u h => by simp at h) (Nat.le_refl _) (by simp)
   refine ⟨_, _, hr, ⟨by simp, .inr ⟨g, 0, _, rfl, hbase, setRow_heap w g #[] _ e _ hg, Nat.le_refl _, by unfold maxLen; omega, by simp, by simp⟩⟩, ⟨rfl, rfl, rfl, by simp, fun k hk => ?_⟩⟩
   by_cases e' : k = g
   ·subst e'
    rw [setRow_heap w k #[] _ e _ hg, hg]
    simp
   ·exact setRow_other w g k _ e'
 ·obtain ⟨b, o, hA, _, hc⟩ := hcell h0
  subst hA
  have hr := run_append_grow (P := P) w t ty e i z ht hi hz ⟨g, 0, none⟩ 0 0 [] (by simp) (fun j u h => by simp at h) ⟨b, o, none⟩ m c news hl (fun j u hj => by rw [Go.WideShapes.add_plain]; exact hc j u hj) (by omega) (by unfold maxLen at h63; omega) (growslice_fits (by omega) (by rw [Nat.zero_add]; exact hbytes))
  have hge := grownCap_ge w (0 + m) 0 e
  have hcm : grownCap w (0 + m) 0 e ≤ maxLen := grownCap_le_maxLen w (0 + m) 0 e (by omega)
  rw [Nat.zero_add] at hr hge hcm
  refine ⟨_, _, hr, ⟨by rw [hl], .inr ⟨w.heap.size, _, _, rfl, by omega, heap_alloc_new w.drew _, hge, hcm, ?_, ?_⟩⟩, ⟨rfl, rfl, rfl, by simp, fun k hk => heap_alloc_old w.drew _ hk⟩⟩
  ·simp only [Array.size_append, List.size_toArray, size_zeroCells, hzs, hl, List.length_nil, Nat.zero_add, ← Nat.add_mul]
   congr 1
   omega
  ·simp only [Array.toList_append, List.nil_append]
   rw [← hl]
   exact List.take_left
end
def TLit0 (B : Nat) (e : TypeId) : Ty := fun w v => ∃ g, v = .slice (some ⟨g, 0, none⟩) 0 0 ∧ B ≤ g ∧ w.heap[g]? = some (.cells #[] e (0, 0))
theorem stb_lit0 {E : Nat → Prop} {B : Nat} (hE : ∀ g, E g → g < B) (e : TypeId) : Stb E (TLit0 B e) := fun v w w' ⟨g, h1, h2, h3⟩ ho =>
 ⟨g, h1, h2, (ho.block g (Array.getElem?_eq_some_iff.1 h3).1 (fun h => by have := hE g h; omega)).trans h3⟩
section
variable {S : RS} {Fin : List Ty → Prop} {o : Oper} {l : List Oper} {i : Nat} {τs : List Ty}
theorem rs_build0 (hO : S.Ok) (hid : i ≠ S.d ∨ ∀ ov w, S.J ov w) (e : TypeId)
  (h : ∀ ρ w, (execOp ρ o).run S.P w = .ok (.value (.slice (some ⟨w.heap.size, 0, none⟩) 0 0)) (w.alloc (.cells #[] e)))
  (rest : RSeq S Fin l (i + 1) (TLit0 S.w0.heap.size e :: τs)) : RSeq S Fin (o :: l) i τs :=
 rs_alloc hO hid _ (stb_lit0 hO.low e) (fun ρ w hon _ => ⟨_, _, h ρ w, w.heap.size, rfl, hon.size, heap_alloc_new _ _⟩) rest
theorem rs_appendF (hO : S.Ok) (hid : i ≠ S.d ∨ ∀ ov w, S.J ov w) (e t : TypeId) (size m : Nat) (sv : Value) (news : List Value) (hrd : S.rd = none)
  (x y : Nat) (ho : o.op = .call { callee := .builtin .append, args := #[.tmp x, .tmp y], argTypes := #[t, t] }) (jx jy : Nat) (hx : writer S.ops i x = some jx) (hy : writer S.ops i y = some jy) (hTx : tys τs jx = TLit0 S.w0.heap.size e) (hTy : tys τs jy = TEq sv)
  (hrow : ∀ w, Only S.E S.w0 w → Row w size sv m news)
  (inf : TypeInfo) (z : Value) (bytes : Nat) (ht : S.P.underlying t = some (.slice e)) (hi : S.P.info? e = some inf) (hz : inf.zero = some z) (hsize : inf.size = size) (hby : inf.bytes = bytes) (hzs : z.cells.size = size) (hsz : 0 < size) (h63 : m ≤ 1000000) (hbb : bytes ≤ 1000) (hone : ∀ u ∈ news, u.oneCell' = true)
  (rest : RSeq S Fin l (i + 1) (TOwn S.w0.heap.size e size m news :: τs)) : RSeq S Fin (o :: l) i τs := by
 refine rs_plain hO hid _ (stb_own hO.low e size m news) (fun k ρ w _ hr hon hK => ?_) rest
 rw [ho] at hK
 have h1 := hK.1
 have h2 := hK.2.1
 rw [hx] at h1
 rw [hy] at h2
 simp only [hTx] at h1
 simp only [hTy] at h2
 obtain ⟨g, h1', hB, hg⟩ := h1
 have h2' : ρ (.tmp y) = sv := h2
 obtain ⟨v', w', hrun, hown', hbl⟩ := run_append_lit (P := S.P) w S.w0.heap.size t o.type e inf z size bytes ht hi hz hsize hby hzs hsz g hg sv m news (hrow w hon) hone (by unfold maxLen; omega) (Nat.le_trans (Nat.mul_le_mul h63 hbb) (by decide)) hB
 have hre : (execOp ρ o).run S.P w = .ok (.value v') w' := by
  unfold execOp
  simp only [ho, resolve, invoke, builtin, Sem.run_bind, Sem.run_pure, Result.andThen_ok, List.map_toArray, List.map_cons, List.map_nil, h1', h2', hrun]
 unfold Good
 rw [hre]
 refine ⟨hown', ?_, Only.of_below _ hbl⟩
 rw [hrd]; trivial
end
end Go.Proofs.Ytkkkjbinfdohpaa