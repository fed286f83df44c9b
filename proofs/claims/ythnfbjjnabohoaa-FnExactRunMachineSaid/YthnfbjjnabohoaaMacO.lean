import Derived.Test.YthnfbjjnabohoaaRead
import Derived.Test.YthnfbjjnabohoaaMacD
import Derived.Test.YthnfbjjnabohoaaRsB
namespace Go.Proofs.Ythnfbjjnabohoaa
set_option maxRecDepth 100000
open Go.RowKit Go.Joins Go.ChangeShapes Go.WideShapes Go.ChangeAt Go.Deep
theorem els_ss {w : World} : ∀ {els : List (List Value)}, (∀ e ∈ els, GInts w e) → ∃ (vs : List Value) (xss : List (List Int)), els.flatten = vs ∧ vs.length = els.length ∧ xss.length = els.length ∧ (∀ (i : Nat) (x : List Int) (u : Value), xss[i]? = some x → vs[i]? = some u → Row w 1 u x.length (ints x)) ∧ ∀ x ∈ xss, ∀ y ∈ x, WfI y
  | [], _ => ⟨[], [], rfl, rfl, rfl, by simp, by simp⟩
  | e :: els, h => by
    obtain ⟨vs, xss, h1, h2, h3, h4, h5⟩ := els_ss fun e' h' => h e' (List.mem_cons_of_mem _ h')
    obtain ⟨A, n, c, xs, rfl, hr, hl, hw⟩ := h e (by simp)
    refine ⟨.slice A n c :: vs, xs :: xss, by simp [h1], by simp [h2], by simp [h3], fun i x u hx hu => ?_, fun x hx => ?_⟩
    · cases i with
      | zero =>
        simp at hx hu
        subst hx hu
        exact hr
      | succ i => exact h4 i x u (by simpa using hx) (by simpa using hu)
    · rcases List.mem_cons.1 hx with rfl | hx
      · exact hw
      · exact h5 x hx
section
variable {H : Type} {enc : TypeId × Value → H} {w : World} {r : Reach} {b0 base : Nat} {spare : Nat → Bool} {held : Bool} {v : Value} {d : DataW H} {p : List MemPlace}
theorem rd_intss {n : Nat} {cs : List Value} {y : DataW H × List MemPlace} (h : DataW.trod enc Try.prog w base spare held n 22 cs = some y) : ∃ v xss, cs = [v] ∧ SSAt ints w v xss ∧ ∀ x ∈ xss, ∀ y ∈ x, WfI y := by
  obtain ⟨A, n, c, els, rfl, hr, rfl, hl, hg⟩ := slice_rd (size := 1) Try.underlying22 (by kernel_rfl) (by decide) (fun cs => GInts w cs) (fun _ _ _ _ h => rd_ints h) h
  obtain ⟨vs, xss, h1, h2, h3, h4, h5⟩ := els_ss hg
  exact ⟨_, xss, rfl, ⟨vs, by omega, by rw [h3, ← h1]; exact hr, h4⟩, h5⟩
/-- A machine, as an argument. -/
def AMach (w : World) (v : Value) : Prop := ∃ m : Mz, MachAt w v m ∧ WfI m.ins ∧ (∀ x ∈ m.next, ∀ y ∈ x, WfI y) ∧ ∀ x ∈ m.out, ∀ y ∈ x, WfI y
theorem open_amach (hv : Value.okWide Try.prog w r b0 24 v) (h : DataW.Trod enc Try.prog w base spare held 24 v d p) : AMach w v := by
  obtain ⟨v0, v1, v2, y0, y1, y2, n, rfl, rfl, rfl, h0, h1, h2⟩ := open_agg3 Try.underlying24 (by kernel_rfl) (by kernel_rfl) hv h
  obtain ⟨x, e0, w0⟩ := rd_int h0
  obtain ⟨u1, xss, e1, i1, w1⟩ := rd_intss h1
  obtain ⟨u2, yss, e2, i2, w2⟩ := rd_intss h2
  simp only [List.cons.injEq, and_true] at e0 e1 e2
  subst e0 e1 e2
  exact ⟨{ ins := x, next := xss, out := yss }, ⟨_, _, rfl, i1, i2⟩, w0, w1, w2⟩
end
def TMach (m : Mz) : Ty := fun w v => MachAt w v m
theorem stb_mach (m : Mz) : Stb (fun _ => False) (TMach m) := fun _ _ _ h ho => h.below (only_below ho)
/-- A machine in a box of the law's. -/
structure BoxM (w : World) (g : Nat) (m : Mz) (vn vo : Value) : Prop where
  pc : MCells w g m.ins vn vo
  at_ : MachAt w (.agg #[.int .i64 m.ins, vn, vo]) m
theorem BoxM.below {w w' : World} {g : Nat} {m : Mz} {vn vo : Value} (h : BoxM w g m vn vo) (hb : Below w.heap.size w w') : BoxM w' g m vn vo := ⟨h.pc.below hb, h.at_.below hb⟩
theorem BoxM.made {w : World} {m : Mz} {vn vo : Value} (t : TypeId) (h : MachAt w (.agg #[.int .i64 m.ins, vn, vo]) m) : BoxM (w.alloc (.cells #[.int .i64 m.ins, vn, vo] t)) w.heap.size m vn vo :=
  ⟨MCells.boxed _ _ _ _ _, h.below (bel_alloc _ _)⟩
end Go.Proofs.Ythnfbjjnabohoaa
