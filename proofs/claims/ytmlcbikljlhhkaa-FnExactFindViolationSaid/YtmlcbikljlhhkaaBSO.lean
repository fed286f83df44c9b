import Derived.Test.YtmlcbikljlhhkaaRead
import Derived.Test.YtmlcbikljlhhkaaGb
namespace Go.Proofs.Ytmlcbikljlhhkaa
set_option maxRecDepth 100000
open Go.RowKit Go.Joins Go.ChangeShapes Go.WideShapes Go.ChangeAt Go.Deep
theorem els_bss {w : World} : ∀ {els : List (List Value)}, (∀ e ∈ els, GBools w e) → ∃ (vs : List Value) (xss : List (List Bool)), els.flatten = vs ∧ vs.length = els.length ∧ xss.length = els.length ∧ (∀ (i : Nat) (x : List Bool) (u : Value), xss[i]? = some x → vs[i]? = some u → Row w 1 u x.length (bools x))
  | [], _ => ⟨[], [], rfl, rfl, rfl, by simp⟩
  | e :: els, h => by
    obtain ⟨vs, xss, h1, h2, h3, h4⟩ := els_bss fun e' h' => h e' (List.mem_cons_of_mem _ h')
    obtain ⟨A, n, c, xs, rfl, hr, hl⟩ := h e (by simp)
    refine ⟨.slice A n c :: vs, xs :: xss, by simp [h1], by simp [h2], by simp [h3], fun i x u hx hu => ?_⟩
    · cases i with
      | zero =>
        simp at hx hu
        subst hx hu
        exact hr
      | succ i => exact h4 i x u (by simpa using hx) (by simpa using hu)
section
variable {H : Type} {enc : TypeId × Value → H} {w : World} {r : Reach} {b0 base : Nat} {spare : Nat → Bool} {held : Bool} {v : Value} {d : DataW H} {p : List MemPlace}
theorem rd_boolss {n : Nat} {cs : List Value} {y : DataW H × List MemPlace} (h : DataW.trod enc Try.prog w base spare held n 39 cs = some y) : ∃ v xss, cs = [v] ∧ SSAt bools w v xss := by
  obtain ⟨A, n, c, els, rfl, hr, rfl, hl, hg⟩ := slice_rd (size := 1) Try.underlying39 (by kernel_rfl) (by decide) (fun cs => GBools w cs) (fun _ _ _ _ h => rd_bools h) h
  obtain ⟨vs, xss, h1, h2, h3, h4⟩ := els_bss hg
  exact ⟨_, xss, rfl, ⟨vs, by omega, by rw [h3, ← h1]; exact hr, h4⟩⟩
def ABoolSS (w : World) (v : Value) : Prop := ∃ xss : List (List Bool), SSAt bools w v xss
theorem open_aboolss (hv : Value.okWide Try.prog w r b0 39 v) (h : DataW.Trod enc Try.prog w base spare held 39 v d p) : ABoolSS w v := by
  obtain ⟨A, n, c, rfl⟩ := slice_val Try.underlying39 hv
  obtain ⟨m, hm⟩ := h
  obtain ⟨u, xss, e, h1⟩ := rd_boolss hm
  simp [Value.cells] at e
  subst e
  exact ⟨xss, h1⟩
end
theorem Kept.atR {v : Value} {xs : List (List Bool)} {T : Nat} {w : World} (h : Kept (fun w' => SSAt bools w' v xs) T w) : SSAt bools w v xs := by
  obtain ⟨w0, h, _, hb⟩ := h
  exact SSAt.below h hb
end Go.Proofs.Ytmlcbikljlhhkaa
