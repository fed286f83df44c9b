import Derived.Test.YtpbgfhlhpinkeaaRegE
namespace Go.Proofs.Ytpbgfhlhpinkeaa
open Go.RowKit Reg

def Drew3 (w : World) (e : Ending) (w' : World) : Prop :=
  ∃ n t s : Int, e = .returned (.tuple #[.int .i64 n, .int .i64 t, .int .i64 s]) ∧ -1 ≤ s ∧ s ≤ 1024 ∧ 0 ≤ n ∧ n ≤ 11 ∧ 0 ≤ t ∧ t ≤ 1023 ∧ Below w.heap.size w w'

theorem below_grown {w w1 w2 : World} {R : Nat} (hb : Below w.heap.size w w1) (hg : w1.grownBy w2 (some R)) (hR : w.heap.size ≤ R) : Below w.heap.size w w2 :=
  hb.grown hg hb.size (fun k hk => by cases hk; exact hR)

theorem drawShift_any (v : Value) (bs : List Int) (w : World) (h : Row w 1 v bs.length (bs.map (Value.int .u8))) (hb : ∀ x ∈ bs, (Lit.int .u8 x).wf = true) (hl : bs.length ≤ 1048576) :
    Calls Try.prog 20 #[v] w (Drew3 w) := by
  have Hh := Lib.hid h
  clear h
  go_enter Try.func20, Try.ntmps20
  go_wp2_with fail
  refine (open_any v bs w Hh.out hb hl).mono ?_
  rintro e w1 ⟨rfl, hr1, hb1⟩
  have Hr1 := Lib.hid hr1
  have Hb1 := Lib.hid hb1
  clear hr1 hb1 hb
  go_wp2_with fail
  refine (register_any _ _ _ _ Hr1.out (by omega) (by omega) (by omega)).mono ?_
  rintro e w2 ⟨n, t, s, rfl, h1, h2, h3, h4, h5, h6, hr2, hg2⟩
  have Hb2 := Lib.hid (below_grown Hb1.out hg2 (Nat.le_refl _))
  clear hr2 hg2
  go_wp2_with fail
  refine bodyPost_ret (v := .tuple #[.int .i64 n, .int .i64 t, .int .i64 s]) (by simp [results, Try.results20, go_sem]) rfl ⟨n, t, s, rfl, h1, h2, h3, h4, h5, h6, Hb2.out⟩

theorem drawPeriod_any (v : Value) (bs : List Int) (w : World) (h : Row w 1 v bs.length (bs.map (Value.int .u8))) (hb : ∀ x ∈ bs, (Lit.int .u8 x).wf = true) (hl : bs.length ≤ 1048576) :
    Calls Try.prog 22 #[v] w (Drew3 w) := by
  have Hh := Lib.hid h
  clear h
  go_enter Try.func22, Try.ntmps22
  go_wp2_with fail
  refine (open_any v bs w Hh.out hb hl).mono ?_
  rintro e w1 ⟨rfl, hr1, hb1⟩
  have Hr1 := Lib.hid hr1
  have Hb1 := Lib.hid hb1
  clear hr1 hb1 hb
  go_wp2_with fail
  refine (register_any _ _ _ _ Hr1.out (by omega) (by omega) (by omega)).mono ?_
  rintro e w2 ⟨n, t, s, rfl, h1, h2, h3, h4, h5, h6, hr2, hg2⟩
  have Hb2 := Lib.hid (below_grown Hb1.out hg2 (Nat.le_refl _))
  clear hr2 hg2
  go_wp2_with fail
  refine bodyPost_ret (v := .tuple #[.int .i64 n, .int .i64 t, .int .i64 s]) (by simp [results, Try.results22, go_sem]) rfl ⟨n, t, s, rfl, h1, h2, h3, h4, h5, h6, Hb2.out⟩

end Go.Proofs.Ytpbgfhlhpinkeaa
