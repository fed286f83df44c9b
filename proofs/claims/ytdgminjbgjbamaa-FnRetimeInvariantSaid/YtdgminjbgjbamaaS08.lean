import Derived.Test.YtdgminjbgjbamaaS07
import Derived.Test.YtdgminjbgjbamaaS06
import Derived.Test.YtdgminjbgjbamaaS01
import Derived.Test.YtdgminjbgjbamaaProg
import Derived.Test.YtdgminjbgjbamaaS02
import Derived.StillTailTactics
set_option linter.unusedVariables false
set_option linter.unusedSimpArgs false
set_option maxRecDepth 100000
set_option maxHeartbeats 16000000
namespace Go.Proofs.Ytdgminjbgjbamaa
namespace Mac
def tabOf (m : Mz) (h : valid m = true) : Tab where
  n := m.next.length
  M := 2 ^ m.ins.toNat
  nx s x := stepN m s ((x % 2 ^ m.ins.toNat : Nat) : Int)
  ou s x := stepO m s ((x % 2 ^ m.ins.toNat : Nat) : Int)
  pos := Nat.pow_pos (by decide)
  lt s x hs := by
    obtain ⟨r, q, y, o, h1, h2, h3, h4, h5, h6, h7, h8, h9, h10, h11⟩ := valid_row h hs (Nat.mod_lt x (Nat.pow_pos (by decide)))
    rw [h10]
    exact h6
  nmod s x := by rw [Nat.mod_mod]
  omod s x := by rw [Nat.mod_mod]
theorem valid_sizes {m : Mz} (h : valid m = true) : 0 ≤ m.ins ∧ m.ins ≤ 4 ∧ 1 ≤ m.next.length ∧ m.next.length ≤ 8 ∧ m.out.length = m.next.length := by
  unfold valid at h
  rw [Bool.and_eq_true] at h
  have h0 := h.1
  unfold sizes at h0
  rwa [decide_eq_true_eq] at h0
def behM (m : Mz) (s : Nat) : List Nat → List Int
  | [] => []
  | x :: xs => stepO m s ((x % 2 ^ m.ins.toNat : Nat) : Int) :: behM m (stepN m s ((x % 2 ^ m.ins.toNat : Nat) : Int)) xs
section
variable {m : Mz} (h : valid m = true)
include h
end
end Mac
end Go.Proofs.Ytdgminjbgjbamaa
namespace Go.Proofs.Ytdgminjbgjbamaa
namespace Cir
def pnx (a b : Ci) (s : Nat × Nat) (x : Nat) : Nat × Nat := (nextOf a s.1 x, nextOf b s.2 x)
def pbad (a b : Ci) (s : Nat × Nat) (x : Nat) : Bool := num (outsOf a s.1 x) != num (outsOf b s.2 x)
def psts (l : List ((Nat × Nat) × List Nat)) : List (Nat × Nat) := l.map (·.1)
def pmem (l : List (Nat × Nat)) (n : Nat × Nat) : Bool := decide (n ∈ l)
def ppush (l : List ((Nat × Nat) × List Nat)) (n : Nat × Nat) (p : List Nat) : List ((Nat × Nat) × List Nat) := if pmem (psts l) n then l else l ++ [(n, p)]
def ppushes (a b : Ci) (s : Nat × Nat) (p : List Nat) : Nat → List ((Nat × Nat) × List Nat) → List ((Nat × Nat) × List Nat)
  | 0, l => l
  | j + 1, l => ppush (ppushes a b s p j l) (pnx a b s j) (p ++ [j])
def pfind (a b : Ci) (s : Nat × Nat) (M : Nat) : Option Nat := (List.range M).find? (pbad a b s)
def pbfs (a b : Ci) : Nat → Nat → List ((Nat × Nat) × List Nat) → Option (List Nat)
  | 0, _, _ => none
  | f + 1, k, l => match l[k]? with
    | none => none
    | some (s, p) => match pfind a b s (2 ^ a.ins) with
      | some x => some (p ++ [x])
      | none => pbfs a b f (k + 1) (ppushes a b s p (2 ^ a.ins) l)
def pdist (a b : Ci) : Option (List Nat) := pbfs a b 65 0 [((0, 0), [])]
structure Ps (a b : Ci) (l : List ((Nat × Nat) × List Nat)) : Prop where
  nod : (psts l).Nodup
  lt : ∀ s ∈ psts l, s.1 < 8 ∧ s.2 < 8
  len : ∀ (k : Nat) (s : Nat × Nat) (p : List Nat), l[k]? = some (s, p) → p.length ≤ k
  inp : ∀ (k : Nat) (s : Nat × Nat) (p : List Nat), l[k]? = some (s, p) → ∀ x ∈ p, x < 2 ^ a.ins
  run : ∀ (k : Nat) (s : Nat × Nat) (p : List Nat), l[k]? = some (s, p) → s = (runN a 0 p, runN b 0 p)
def Alike (a b : Ci) : Prop := ∀ xs, Inputs a xs → outN a 0 xs = outN b 0 xs
end Cir
namespace Mac
end Mac
namespace Cir
def tabC (d : Ci) : Mac.Tab where
  n := 2 ^ d.next.length
  M := 2 ^ d.ins
  nx s x := nextOf d s (x % 2 ^ d.ins)
  ou s x := ((num (outsOf d s (x % 2 ^ d.ins)) : Nat) : Int)
  pos := Nat.pow_pos (by decide)
  lt s x _ := nextOf_lt d s _
  nmod s x := by rw [Nat.mod_mod]
  omod s x := by rw [Nat.mod_mod]
def allN (d : Ci) : List (List Int) := (List.range (2 ^ d.next.length)).map fun s => nats (rowN d s)
def allO (d : Ci) : List (List Int) := (List.range (2 ^ d.next.length)).map fun s => nats (rowO d s)
def clsC (d : Ci) : List Nat := Mac.classI (allN d) (allO d)
def seenC (d : Ci) (l : List Nat) : List Nat := Mac.pushesG [] (l.map fun s => Mac.cg (clsC d) s)
end Cir
end Go.Proofs.Ytdgminjbgjbamaa
namespace Go.Proofs.Ytdgminjbgjbamaa
open Go.RowKit Go.Maps
def DrewTwo (R : Nat) (w : World) (e : Ending) (w' : World) : Prop := ∃ va vb ca cb, e = .returned (.tuple #[va, vb]) ∧ CircOwn 0 w' va ca ∧ CircOwn 0 w' vb cb ∧ Only (fun g => g = R) w w'
theorem CircOwn.tag {B : Nat} {w w' : World} {v : Value} {c : Cz} {k : Nat} {old : Array Value} {t : TypeId} {fr : Nat × Nat} (h : CircOwn B w v c) (hk : w.heap[k]? = some (.cells old t fr)) (h1 : 3 ≠ t) (h2 : 72 ≠ t) (ho : Only (fun g => g = k) w w') : CircOwn B w' v c := by
  obtain ⟨vn, vg, vo, e, e1, e2, e3⟩ := h
  exact ⟨vn, vg, vo, e, own_only e1 ho (fun g hg e => own_ne_tag e1 hk h1 (by rw [hg, e])), own_only e2 ho (fun g hg e => own_ne_tag e2 hk h2 (by rw [hg, e])), own_only e3 ho (fun g hg e => own_ne_tag e3 hk h1 (by rw [hg, e]))⟩
theorem CircOwn.shape {B : Nat} {w : World} {v : Value} {c : Cz} (h : CircOwn B w v c) : ∃ An cn Ag cg Ao co, v = .agg #[.int .i64 c.ins, .slice An c.next.length cn, .slice Ag c.gates.length cg, .slice Ao c.outs.length co] := by
  obtain ⟨vN, vG, vO, rfl, h1, h2, h3⟩ := h
  obtain ⟨An, cn, rfl⟩ := slice_of_own h1
  obtain ⟨Ag, cg, rfl⟩ := slice_of_own h2
  obtain ⟨Ao, co, rfl⟩ := slice_of_own h3
  exact ⟨An, cn, Ag, cg, Ao, co, rfl⟩
theorem cubes_of : ∀ (n : Nat) (cs : List Value), cs.length = n * 2 → (∀ u ∈ cs, ∃ x : Int, u = .int .i64 x) → ∃ ks : List (Int × Int), ks.length = n ∧ cs = cubes ks
  | 0, cs, h, _ => ⟨[], rfl, by have := List.eq_nil_of_length_eq_zero (l := cs) (by omega); rw [this]; rfl⟩
  | n + 1, cs, h, hu => by
    match cs, h, hu with
    | a :: b :: cs, h, hu =>
      obtain ⟨x, rfl⟩ := hu a (by simp)
      obtain ⟨y, rfl⟩ := hu b (by simp)
      obtain ⟨ks, h1, h2⟩ := cubes_of n cs (by simp at h; omega) (fun u hm => hu u (by simp [hm]))
      exact ⟨(x, y) :: ks, by simp [h1], by rw [h2]; rfl⟩
    | [a], h, _ => simp at h; omega
    | [], h, _ => simp at h
theorem cubes_ints (ks : List (Int × Int)) : ∀ u ∈ cubes ks, ∃ x : Int, u = .int .i64 x := by
  intro u hu
  unfold cubes at hu
  obtain ⟨k, -, hk⟩ := List.mem_flatMap.1 hu
  simp at hk
  rcases hk with rfl | rfl
  · exact ⟨_, rfl⟩
  · exact ⟨_, rfl⟩
end Go.Proofs.Ytdgminjbgjbamaa
namespace Go.Proofs.Ytdgminjbgjbamaa
namespace Two
def has (k : Nat × Nat) (x : Nat) : Bool := x &&& k.1 == k.2
def fine (k : Nat × Nat) : Bool := k.2 &&& k.1 == k.2
def within (k : Nat × Nat) (t n : Nat) : Bool := (List.range (2 ^ n)).all fun x => !has k x || t.testBit x
def gen (a b : Nat × Nat) : Bool := a.1 &&& b.1 == b.1 && a.2 &&& b.1 == b.2
def addTo (k : Nat × Nat) (t : Nat) : Nat → Nat
  | 0 => t
  | m + 1 => if has k m then addTo k t m ||| 2 ^ m else addTo k t m
def tableOf (l : List (Nat × Nat)) (n : Nat) : Nat := l.foldl (fun t k => addTo k t (2 ^ n)) 0
end Two
end Go.Proofs.Ytdgminjbgjbamaa
namespace Go.Proofs.Ytdgminjbgjbamaa
open Go.RowKit
def hasI (c v x : Int) : Bool := decide (0 ≤ x) && (bits .and .i64 x c == v)
def cubeV (c v : Int) : Value := .agg #[.int .i64 c, .int .i64 v]
end Go.Proofs.Ytdgminjbgjbamaa
namespace Go.Proofs.Ytdgminjbgjbamaa
open Go.RowKit
def okI (N : Nat) (k : Int × Int) : Bool := decide (0 ≤ k.1 ∧ k.1 < (2 : Int) ^ N) && (bits .andNot .i64 k.2 k.1 == 0)
def natK (k : Int × Int) : Nat × Nat := (k.1.toNat, k.2.toNat)
def intK (k : Nat × Nat) : Int × Int := (k.1, k.2)
def WfK (k : Int × Int) : Prop := -9223372036854775808 ≤ k.2 ∧ k.2 ≤ 9223372036854775807
def covFrom (N : Nat) (l : List (Int × Int)) (t : Nat) : Int := if l.all (okI N) then ((l.foldl (fun t k => Two.addTo (natK k) t (2 ^ N)) t : Nat) : Int) else -1
def coverI (n : Int) (ks : List (Int × Int)) : Int := if 0 ≤ n ∧ n ≤ 4 ∧ ks.length ≤ 100 then covFrom n.toNat ks 0 else -1
end Go.Proofs.Ytdgminjbgjbamaa
namespace Go.Proofs.Ytdgminjbgjbamaa
open Go.RowKit
end Go.Proofs.Ytdgminjbgjbamaa
namespace Go.Proofs.Ytdgminjbgjbamaa
open Go.RowKit
def orRow (l : List (Nat × Nat)) (x t : Nat) : Nat := l.foldl (fun t k => if Two.has k x then t ||| 2 ^ x else t) t
def specTab (l : List (Nat × Nat)) : Nat → Nat
  | 0 => 0
  | m + 1 => orRow l m (specTab l m)
end Go.Proofs.Ytdgminjbgjbamaa
namespace Go.Proofs.Ytdgminjbgjbamaa
end Go.Proofs.Ytdgminjbgjbamaa
namespace Go.Proofs.Ytdgminjbgjbamaa
namespace Two
def cand (t n : Nat) (k : Nat × Nat) : Bool := fine k && within k t n
def pstep (t n : Nat) (out : List (Nat × Nat)) (k : Nat × Nat) : List (Nat × Nat) := if cand t n k && !out.any (fun b => gen k b) then out ++ [k] else out
def istep (t n : Nat) (out : List (Nat × Nat)) (k : Nat × Nat) : List (Nat × Nat) := if cand t n k then out ++ [k] else out
section
variable (f : List (Nat × Nat) → Nat × Nat → List (Nat × Nat))
def rowF (out : List (Nat × Nat)) (c : Nat) : Nat → List (Nat × Nat)
  | 0 => out
  | v + 1 => f (rowF out c v) (c, v)
def tabF (m : Nat) : Nat → List (Nat × Nat)
  | 0 => []
  | c + 1 => rowF f (tabF m c) c m
def rowP (c m : Nat) : List (Nat × Nat) := (List.range m).map fun v => (c, v)
def pairsF (m : Nat) : Nat → List (Nat × Nat)
  | 0 => []
  | c + 1 => pairsF m c ++ rowP c m
end
def implicants (t n : Nat) : List (Nat × Nat) := (pairsF (2 ^ n) (2 ^ n)).filter (cand t n)
def prime (t n : Nat) (a : Nat × Nat) : Bool := (implicants t n).all fun b => a == b || !gen a b
def primes (t n : Nat) : List (Nat × Nat) := (implicants t n).filter (prime t n)
def primeAt (L : List (Nat × Nat)) (i : Nat) : Nat → Bool
  | 0 => true
  | j + 1 => primeAt L i j && (i == j || !gen (L.getD i (0, 0)) (L.getD j (0, 0)))
def outAt (L : List (Nat × Nat)) : Nat → List (Nat × Nat)
  | 0 => []
  | i + 1 => if primeAt L i L.length then outAt L i ++ [L.getD i (0, 0)] else outAt L i
end Two
end Go.Proofs.Ytdgminjbgjbamaa
namespace Go.Proofs.Ytdgminjbgjbamaa
namespace Two
def covers (l : List (Nat × Nat)) (t n : Nat) : Bool := (List.range (2 ^ n)).all fun x => !t.testBit x || l.any (has · x)
def allWithin (l : List (Nat × Nat)) (t n : Nat) : Prop := ∀ k ∈ l, within k t n = true
def minF (t n : Nat) (l : List (Nat × Nat)) : Nat → List (Nat × Nat)
  | 0 => l
  | i + 1 => minF t n (if covers (l.eraseIdx i) t n then l.eraseIdx i else l) i
def minimal (t n : Nat) : List (Nat × Nat) := minF t n (primes t n) (primes t n).length
end Two
end Go.Proofs.Ytdgminjbgjbamaa
namespace Go.Proofs.Ytdgminjbgjbamaa
open Go.RowKit
def fitsT (t n : Int) : Bool := decide (0 ≤ n ∧ n ≤ 4 ∧ 0 ≤ t ∧ t < 2 ^ 2 ^ n.toNat)
end Go.Proofs.Ytdgminjbgjbamaa
namespace Go.Proofs.Ytdgminjbgjbamaa
open Go.RowKit
def CubesN (w : World) (v : Value) (ks : List (Nat × Nat)) : Prop := CubesAt w v (ks.map intK)
def Found (l : List (Nat × Nat)) (p : Nat × Nat → Bool) (w : World) (e : Ending) (w' : World) : Prop :=
  ∃ r : Int, e = .returned (.int .i64 r) ∧ (decide (0 ≤ r) = l.any p) ∧ Below w.heap.size w w'
end Go.Proofs.Ytdgminjbgjbamaa
namespace Go.Proofs.Ytdgminjbgjbamaa
open Go.RowKit
end Go.Proofs.Ytdgminjbgjbamaa