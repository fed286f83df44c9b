import Derived.Test.YtlpellciiiflkaaTable
import Derived.Test.YtlpellciiiflkaaMinC
import Derived.Test.YtlpellciiiflkaaSame
import Derived.Test.YtlpellciiiflkaaLawM
import Derived.Test.YtlpellciiiflkaaAlive
namespace Go.Proofs.Ytlpellciiiflkaa
open Go.RowKit
def DrewTable (w : World) (e : Ending) (w' : World) : Prop :=
  ∃ t n : Int, e = .returned (.tuple #[.int .i64 t, .int .i64 n]) ∧ -1 ≤ t ∧ t ≤ 65536 ∧ -1 ≤ n ∧ n ≤ 5 ∧ Below w.heap.size w w'
theorem drawPrimes_any (v : Value) (bs : List Int) (w : World) (h : Row w 1 v bs.length (bs.map (Value.int .u8))) (hb : ∀ x ∈ bs, (Lit.int .u8 x).wf = true) (hl : bs.length ≤ 1048576) :
    Calls Try.prog 29 #[v] w (DrewTable w) := by
  have H := Lib.hid h
  clear h
  go_enter Try.func29, Try.ntmps29
  go_wp2_with fail
  refine (open_any _ bs _ H.out hb hl).mono ?_
  rintro e w1 ⟨rfl, hr1, hb1⟩
  have Hr1 := Lib.hid hr1
  have Hb1 := Lib.hid hb1
  clear hr1 hb1
  go_wp2_with fail
  refine (table_any 9 _ 0 _ Hr1.out (by omega) (by omega) (by omega)).mono ?_
  rintro e w2 ⟨t, n, rfl, h1, h2, h3, h4, hr2, hg2⟩
  have Hb2 := Lib.hid (Hb1.out.grown hg2 Hb1.out.size (fun k hk => by have := Option.some.inj hk; omega))
  clear hr2 hg2
  go_wp2_with fail
  go_ret2
  exact ⟨t, n, rfl, h1, h2, h3, h4, Hb2.out⟩
theorem drawMin_any (v : Value) (bs : List Int) (w : World) (h : Row w 1 v bs.length (bs.map (Value.int .u8))) (hb : ∀ x ∈ bs, (Lit.int .u8 x).wf = true) (hl : bs.length ≤ 1048576) :
    Calls Try.prog 32 #[v] w (DrewTable w) := by
  have H := Lib.hid h
  clear h
  go_enter Try.func32, Try.ntmps32
  go_wp2_with fail
  refine (open_any _ bs _ H.out hb hl).mono ?_
  rintro e w1 ⟨rfl, hr1, hb1⟩
  have Hr1 := Lib.hid hr1
  have Hb1 := Lib.hid hb1
  clear hr1 hb1
  go_wp2_with fail
  refine (table_any 9 _ 0 _ Hr1.out (by omega) (by omega) (by omega)).mono ?_
  rintro e w2 ⟨t, n, rfl, h1, h2, h3, h4, hr2, hg2⟩
  have Hb2 := Lib.hid (Hb1.out.grown hg2 Hb1.out.size (fun k hk => by have := Option.some.inj hk; omega))
  clear hr2 hg2
  go_wp2_with fail
  go_ret2
  exact ⟨t, n, rfl, h1, h2, h3, h4, Hb2.out⟩
/-- One cube out of a slice, as a slice. -/
theorem cubesN_sub {w wr : World} {b o n c : Nat} {ks : List (Nat × Nat)} (h : CubesN w (.slice (some ⟨b, o, none⟩) n c) ks) (hb : Below w.heap.size w wr) {i : Nat} {k : Nat × Nat} (hn : n = ks.length) (hk : ks[i]? = some k) : CubesN wr (.slice (some ⟨b, o + i * 2, none⟩) 1 (c - i)) [k] := by
  have hi : i < ks.length := (List.getElem?_eq_some_iff.1 hk).1
  obtain ⟨b', o', k', hA, hbl, hx, h1, h2⟩ := cubesN_open h hb hn hi
  injection hA with hA
  injection hA with e1 e2
  subst e1 e2
  have hkk : k' = k := by have := hx.out; rw [hk] at this; exact (Option.some.inj this).symm
  subst hkk
  obtain ⟨A, cp, hv, hc1, hc2⟩ := Row.shape h
  injection hv with _ hv1 hv2
  rw [List.length_map] at hc1
  refine ⟨rfl, _, c - i, rfl, ?_, ?_, fun _ => ⟨b, o + i * 2, rfl, Nat.lt_of_lt_of_le hbl hb.size, fun j u hu => ?_⟩⟩
  · simp; omega
  · omega
  · match j, hu with
    | 0, hu => obtain rfl := Option.some.inj hu; exact h1
    | 1, hu => obtain rfl := Option.some.inj hu; exact h2
    | j + 2, hu => exact absurd hu (by simp [cubes, intK])
end Go.Proofs.Ytlpellciiiflkaa
