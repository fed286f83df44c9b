import Derived.Test.YtmlcbikljlhhkaaVioE
namespace Go.Proofs.Ytmlcbikljlhhkaa
open Go.RowKit
set_option maxRecDepth 100000
section
variable {S : RS} {Fin : List Ty → Prop} {o : Oper} {l : List Oper} {i : Nat} {τs : List Ty}
/-- A slice of one row, in a region. -/
theorem rs_front0 (hO : S.Ok) (hid : i ≠ S.d ∨ ∀ ov w, S.J ov w) (hE : S.E = fun _ => False) (B : Nat) (hB : B ≤ S.w0.heap.size) (xs : List Bool)
    (h : ∀ ρ w, Only S.E S.w0 w → Known S.ops (tys τs) S.a0 ρ w i o.op.operands.toList → ∃ u, RowIn (From B) w 1 u xs.length (bools xs) ∧ (execOp ρ o).run S.P w = .ok (.value (.slice (some ⟨w.heap.size, 0, none⟩) 1 1)) (w.alloc (.cells #[u] 78)))
    (rest : RSeq S Fin l (i + 1) (TFront B xs :: τs)) : RSeq S Fin (o :: l) i τs := by
  refine rs_alloc hO hid (TFront B xs) (by rw [hE]; exact stb_front B xs) (fun ρ w ho hK => ?_) rest
  obtain ⟨u, h1, h2⟩ := h ρ w ho hK
  exact ⟨_, _, h2, w.heap.size, u, rfl, Nat.le_trans hB ho.size, by simp, blk_cell (heap_alloc_new w _) 0, h1.below (bel_new _ _)⟩
/-- A row in front of rows, in a region. -/
theorem rs_front (hO : S.Ok) (hid : i ≠ S.d ∨ ∀ ov w, S.J ov w) (hE : S.E = fun _ => False) (hF : S.F = fun _ => False) (hrd : S.rd = none) (hP : S.P = Try.prog) (x y : Nat) (B : Nat) (hB : B ≤ S.w0.heap.size) (xs : List Bool) (xss : List (List Bool)) (c : Value)
    (ho : o.op = .call { callee := .builtin .append, args := #[.tmp x, .tmp y], argTypes := #[39, 39] }) (jx jy : Nat) (hx : writer S.ops i x = some jx) (hy : writer S.ops i y = some jy) (hTx : tys τs jx = TFront B xs) (hTy : tys τs jy = TEq c)
    (hs : SSIn bools (From B) S.w0 c xss) (hn : 0 < xss.length) (hm : xss.length ≤ 1000)
    (rest : RSeq S Fin l (i + 1) (TSS B (xs :: xss) :: τs)) : RSeq S Fin (o :: l) i τs := by
  refine rs_plain hO hid (TSS B (xs :: xss)) (by rw [hE]; exact stb_ss B _) (fun k ρ w hk hr hon hK => ?_) rest
  rw [ho] at hK
  have h1 := hK.1
  have h2 := hK.2.1
  rw [hx] at h1
  rw [hy] at h2
  simp only [hTx] at h1
  simp only [hTy] at h2
  have h2' : ρ (.tmp y) = c := h2
  rw [hE] at hon
  obtain ⟨v', w', hrun, hss, hbl⟩ := run_front o.type h1 (hs.below (only_below hon)) (Nat.le_trans hB hon.size) hn hm
  have hre : (execOp ρ o).run S.P w = .ok (.value v') w' := by
    unfold execOp
    rw [hP]
    simp only [ho, resolve, invoke, builtin, Sem.run_bind, Sem.run_pure, Result.andThen_ok, List.map_toArray, List.map_cons, List.map_nil, h2', hrun]
  unfold Good
  rw [hre]
  refine ⟨hss, ?_, ?_⟩
  · rw [hrd]; trivial
  · rw [hF]; exact Only.of_below _ hbl
end
end Go.Proofs.Ytmlcbikljlhhkaa
