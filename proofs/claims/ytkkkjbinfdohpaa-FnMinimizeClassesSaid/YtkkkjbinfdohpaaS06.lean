import Derived.Test.YtkkkjbinfdohpaaS05
import Derived.Test.YtkkkjbinfdohpaaS02
import Derived.Test.YtkkkjbinfdohpaaS04
import Derived.Test.YtkkkjbinfdohpaaS01
import Derived.Test.YtkkkjbinfdohpaaS03
set_option linter.unusedVariables false
set_option linter.unusedSimpArgs false
set_option maxRecDepth 100000
set_option maxHeartbeats 16000000
namespace Go.Proofs.Ytkkkjbinfdohpaa
open Go.RowKit
def TAggO (B : Nat) (e : TypeId) (size n : Nat) (cs : List Value) (mk : Value → Value) : Ty := fun w v => ∃ A c, v = mk (.slice A n c) ∧ w.ownsRow B e size (.slice A n c) n cs
theorem stb_aggq (B : Nat) (e : TypeId) (size n : Nat) (cs : List Value) (mk : Value → Value) : Stb (fun _ => False) (TAggO B e size n cs mk) := fun _ w w' ⟨A, c, h1, h2⟩ ho => ⟨A, c, h1, own_below h2 (only_below ho)⟩
theorem own_ne_own {w : World} {B B' n n' size size' : Nat} {e e' : TypeId} {v v' : Value} {cs cs' : List Value} (h : w.ownsRow B e size v n cs) (h' : w.ownsRow B' e' size' v' n' cs') (hne : e ≠ e') {g : Nat} (hg : v.ownBlock = some g) : v'.ownBlock ≠ some g := by
 intro hg'
 rcases h.2 with ⟨rfl, -⟩ | ⟨k, cap, cur, rfl, -, hk, -⟩
 ·cases hg
 ·rcases h'.2 with ⟨rfl, -⟩ | ⟨k', cap', cur', rfl, -, hk', -⟩
  ·cases hg'
  ·obtain rfl : k = g := Option.some.inj hg
   obtain rfl : k' = k := Option.some.inj hg'
   rw [hk] at hk'
   injection hk' with h1
   injection h1 with _ h2
   exact hne h2
theorem set4_heap {w : World} {g : Nat} {o0 o1 o2 o3 a b c d : Value} {t : TypeId} (h : w.heap[g]? = some (.cells #[o0, o1, o2, o3] t (0, 0))) : ((((w.setCell ⟨g, 0, none⟩ a).setCell ⟨g, 1, none⟩ b).setCell ⟨g, 2, none⟩ c).setCell ⟨g, 3, none⟩ d).heap[g]? = some (.cells #[a, b, c, d] t (0, 0)) := by
 have y1 := heap_setCell_same w g 0 _ _ a h
 have y2 := heap_setCell_same _ g 1 _ _ b y1
 have y3 := heap_setCell_same _ g 2 _ _ c y2
 have y4 := heap_setCell_same _ g 3 _ _ d y3
 simpa using y4
theorem set1_only (w : World) (g i : Nat) (u : Value) : Only (fun k => k = g) w (w.setCell ⟨g, i, none⟩ u) := Only.grown (set_grown w g i u) (fun k hk => (Option.some.inj hk).symm)
theorem set4_only (w : World) (g : Nat) (a b c d : Value) : Only (fun k => k = g) w ((((w.setCell ⟨g, 0, none⟩ a).setCell ⟨g, 1, none⟩ b).setCell ⟨g, 2, none⟩ c).setCell ⟨g, 3, none⟩ d) :=
 (((set1_only w g 0 a).trans (set1_only _ g 1 b)).trans (set1_only _ g 2 c)).trans (set1_only _ g 3 d)
end Go.Proofs.Ytkkkjbinfdohpaa
namespace Go.Proofs.Ytkkkjbinfdohpaa
open Go.RowKit
section
variable {P : Program} {ops : Array Oper}
theorem run_store_rowX {o : Oper} {ρ : Operand → Value} {w : World} (ty : TypeId) (x y : Operand) (ho : o.op = .store ty x y)
  (g : Nat) (cells : Array Value) (hx : ρ x = .pointer (some ⟨g, 0, none⟩)) (hy : ρ y = .agg cells)
  (t : TypeId) (old : Array Value) (hg : w.heap[g]? = some (.cells old t (0, 0))) (hi : (P.info? ty).map (·.size) = some cells.size)
  (hold : old.size = cells.size) (h1 : cells.all (·.oneCell') = true) : (execOp ρ o).run P w = .ok .skip (w.setRow g cells) := by
 unfold execOp
 simp only [ho, hx, hy, Instr.storeAt, Instr.sureAddr, Sem.run_bind, Sem.run_pure, Result.andThen_ok, run_storeVar_row w g t ty old cells hg hi hold h1]
theorem getD_both {l : Array Bool} {i : Nat} (h : i < l.size) : l.getD i true = l.getD i false := by simp [Array.getD, h]
theorem good_extract {o : Oper} {p : Operand} {ix : Nat} (ho : o.op = .extract p ix) {ρ : Operand → Value} {w : World} {R : Value → World → Prop} (h : Good P o ρ w R) : ∃ v, (∀ w', (execOp ρ o).run P w' = .ok (.value v) w') ∧ R v w := by
 have key : ∀ w', (execOp ρ o).run P w' = match ρ p with | .tuple vs => (match vs[ix]? with | some v => .ok (.value v) w' | none => (execOp ρ o).run P w') | _ => (execOp ρ o).run P w' := by
  intro w'
  cases hv : ρ p <;> try rfl
  rename_i vs
  cases hx : vs[ix]? <;> simp [execOp, ho, Instr.extract, hv, hx]
 unfold Good at h
 cases hv : ρ p
 case tuple vs =>
  cases hx : vs[ix]? with
  | none => simp [execOp, ho, Instr.extract, hv, hx] at h
  | some v =>
   refine ⟨v, fun w' => by simp [execOp, ho, Instr.extract, hv, hx], ?_⟩
   have := key w
   rw [hv] at this
   simp only [hx] at this
   rw [this] at h
   exact h
 all_goals simp [execOp, ho, Instr.extract, hv] at h
theorem rg_tailx {Q : Exit → Act → World → Prop} {τ : Nat → World → Value → Prop} {d m z : Nat} {I : Nat → Option Value → World → Prop} {G : World → World → Prop} {a0 : Act} {om on oz : Oper} {ty : TypeId} {x y tz : Tmp} {p : Operand} {ix : Nat} (hB : rgB ops = true) (hS : (ops.all fun o => match o.dst with | some t => decide (t < a0.tmps.size) | none => true) = true)
  (hm : ops.size = m + 2) (hom : ops[m]? = some om) (hon : ops[m + 1]? = some on) (hoz : ops[z]? = some oz) (hzm : z < m) (hmo : om.op = .store ty (.tmp x) (.tmp y)) (hmd : om.dst = none) (hzo : oz.op = .extract p ix) (hzd : oz.dst = some tz) (hx : tz ≠ x) (hy : tz ≠ y)
  (hlm : ∀ j, j < m → j ≠ z → ancB ops 16 j m = true) (hln : ∀ j, j ≤ m → ancB ops 16 j (m + 1) = true)
  (hG : ∀ i v w w', τ i w v → G w w' → τ i w' v)
  (hstep : ∀ i o, i < m → ops[i]? = some o → ∀ k ov ρ w, k < ops.size → I k ov w → (ancB ops 8 i d = true → ov = none) → Known ops τ a0 ρ w i o.op.operands.toList → Good P o ρ w fun v w' => τ i w' v ∧ I (k + 1) (if i = d then some v else ov) w' ∧ G w w')
  (hd : d < m) (hend : ∀ f w' k, k ≤ ops.size → I k (some (f d)) w' → (∀ i, i < m → τ i w' (f i)) → Copies ops (fun j => decide (j < m)) f → ∃ w1, (execOp (putAll (ops.toList.take m) f 0 a0).eval om).run P w' = .ok .skip w1 ∧ wpList P ops Q [on] (putAll (ops.toList.take m) f 0 a0) w1) :
  ∀ (fuel : Nat) (listed : Array Bool) (a : Act) (w : World) (k : Nat), k + fuel = ops.size → listed.size = ops.size → open_ ops listed ≤ fuel → (∀ i, m ≤ i → i < ops.size → listed.getD i false = false) → Inv ops τ d (I k) a0 (fun i => listed.getD i false) a w → wpAny P .any ops Q fuel listed a w := by
 -- what holds when the m first ones are done
 have done : ∀ (listed : Array Bool) (a : Act) (w : World) (k : Nat), k ≤ ops.size → (∀ j, j < m → listed.getD j false = true) → (∀ i, m ≤ i → i < ops.size → listed.getD i false = false) → Inv ops τ d (I k) a0 (fun i => listed.getD i false) a w → ∃ w1, (execOp a.eval om).run P w = .ok .skip w1 ∧ wpList P ops Q [on] a w1 := by
  intro listed a w k hk hall hmf h
  obtain ⟨hC, f, hf, hI, hτ, hcp⟩ := h
  have hI : I k (some (f d)) w := by simpa [hall d hd] using hI
  have eLt : ∀ j, j < ops.size → (listed.getD j false = true ↔ j < m) := by
   intro j hj
   constructor
   ·intro hl
    rcases Nat.lt_or_ge j m with h5 | h5
    ·exact h5
    ·rw [hmf j h5 hj] at hl; cases hl
   ·exact hall j
  have e1 : Is ops a0 (fun j => decide (j < m)) f a := ⟨hf.defers, hf.size, fun j p t hj hp hd2 hl => hf.mine j p t (hall j (by simpa using hj)) hp hd2 hl,
   fun t ht => hf.old t fun j p hj hp => ht j p (by
    have hjs := (Array.getElem?_eq_some_iff.1 hp).1
    simpa using (eLt j hjs).1 hj) hp⟩
  have e0 : Is ops a0 (fun j => decide (j < 0)) f a0 := ⟨rfl, rfl, fun _ _ _ h => by simp at h, fun _ _ => rfl⟩
  have hlen : (ops.toList.take m).length = m := by simp; omega
  have e2 := putSome_is hB (ops.toList.take m) 0 a0 (by rw [hlen]; rfl) e0
  rw [hlen, Nat.zero_add] at e2
  have he : a = putAll (ops.toList.take m) f 0 a0 := e1.same e2
  have hgo := hend f w k hk hI (fun j hj => (hτ j (hall j hj)).2) (fun j p t q hj hp ha hw => by
   have hj' : j < m := by simpa using hj
   obtain ⟨h5, h6⟩ := hcp j p t q (hall j hj') hp ha hw
   exact ⟨by simpa using (eLt q (hτ q h5).1).1 h5, h6⟩)
  rw [← he] at hgo
  exact hgo
 have hchain : ∀ i, m + 1 ≤ i → i < ops.size → ∀ j, m + 1 ≤ j → j < i → ancB ops 16 j i = true := fun i h1 h2 j h3 h4 => by omega
 have hdrop : ops.toList.drop (m + 1) = [on] := by
  rw [List.drop_eq_getElem_cons (by simp; omega), List.drop_eq_nil_of_le (by simp; omega)]
  have := hon
  rw [← Array.getElem?_toList, List.getElem?_eq_getElem (by simp; omega)] at this
  rw [Option.some.inj this]
 intro fuel
 induction fuel with
 | zero =>
  intro listed a w k hk hsz hc hmf h
  exfalso
  have hpos : 0 < open_ ops listed := List.countP_pos_iff.2 ⟨m, List.mem_range.2 (by omega), by simp [hmf m (Nat.le_refl _) (by omega)]⟩
  omega
 | succ fuel ih =>
  intro listed a w k hk0 hsz hc hmf h
  have hnil : Region.ready .any ops listed = [] → False := by
   intro hr
   have hall : ∀ i, i < m → listed.getD i false = true := by
    intro i
    induction i using Nat.strongRecOn with
    | _ i ihi =>
     intro hi
     rcases hb : listed.getD i false with _ | _
     ·exfalso
      have hi' : i < ops.size := by omega
      have hmm : i ∈ Region.ready .any ops listed := mem_ready.2 ⟨by
       have : i < listed.size := by omega
       simpa [Array.getD, this] using hb, ops[i], Array.getElem?_eq_getElem hi', fun e he hbn => ihi e.on ((rgB_ok hB (Array.getElem?_eq_getElem hi')).back e he hbn) (by
        have := (rgB_ok hB (Array.getElem?_eq_getElem hi')).back e he hbn
        omega)⟩
      rw [hr] at hmm
      cases hmm
     ·rfl
   have := ready_of hB hom hsz hall (hmf m (Nat.le_refl _) (by omega))
   rw [hr] at this
   cases this
  refine ⟨fun hr => (hnil hr).elim, fun i hi => ?_⟩
  obtain ⟨h1, o, ho, hr⟩ := mem_ready.1 hi
  have hlt := (Array.getElem?_eq_some_iff.1 ho).1
  have hil : i < listed.size := by omega
  have h1' : listed.getD i false = false := by simpa [Array.getD, hil] using h1
  have eL := getD_setT hil
  rcases Nat.lt_or_ge i m with hltm | hge
  ·unfold wpOp
   simp only [ho]
   rw [if_pos (by simp [Region.wanted, (rgB_ok hB ho).guard])]
   have hk := h.known hB hS ho h1' hr
   have hcopy : ∀ (f : Nat → Value), Is ops a0 (fun i => listed.getD i false) f a → ∀ t j, o.op = .assign (.tmp t) → writer ops i t = some j → listed.getD j false = true ∧ a.eval (.tmp t) = f j := fun f hf t j ha hw => h.copy hB hS ho h1' hr hf ha hw
   obtain ⟨hC, f, hf, hI, hτ, hcp⟩ := h
   have hg := hstep i o hltm ho k _ a.eval w (by omega) hI (fun e => if_neg (fun hdl => by have := ancB_shut hC 8 i d e hdl; rw [h1'] at this; cases this)) hk
   refine .inl (Good.wp hg.assign fun v w' ⟨⟨hv, hI', hgw⟩, hva⟩ => ?_)
   refine ih _ _ _ (k + 1) (by omega) (by simpa using hsz) ?_ ?_ ?_
   ·have := open_less hlt hil h1'
    omega
   ·intro j hj1 hj2
    have : (listed.setIfInBounds i true).getD j false = if j = i then true else listed.getD j false := congrFun eL j
    rw [this, if_neg (by omega)]
    exact hmf j hj1 hj2
   ·rw [eL]
    refine ⟨fun j p hj hp e he hb => ?_, _, hf.step hB ho h1' v, ?_, fun j hj => ?_, fun j p t q hj hp ha hw => ?_⟩
    ·by_cases ej : j = i
     ·subst ej
      obtain rfl := Option.some.inj (ho.symm.trans hp)
      have := hr e he hb
      by_cases ee : e.on = j <;> simp [ee, this]
     ·simp only [ej, if_false] at hj
      have := hC j p hj hp e he hb
      by_cases ee : e.on = i <;> simp [ee, this]
    ·by_cases ed : i = d
     ·subst ed
      simpa using hI'
     ·simpa [ed, show ¬ d = i from fun h => ed h.symm] using hI'
    ·by_cases ej : j = i
     ·subst ej
      exact ⟨hlt, by simpa using hv⟩
     ·simp only [ej, if_false] at hj ⊢
      exact ⟨(hτ j hj).1, hG j _ _ _ (hτ j hj).2 hgw⟩
    ·have hqj : q < j := List.mem_range.1 (List.mem_of_find?_eq_some hw)
     by_cases ej : j = i
     ·subst ej
      obtain rfl := Option.some.inj (ho.symm.trans hp)
      obtain ⟨h5, h6⟩ := hcopy f hf t q ha hw
      have hne : q ≠ j := by omega
      exact ⟨by simp only [hne, if_false]; exact h5, by simp only [hne, if_false, if_true]; rw [hva _ ha, h6]⟩
     ·simp only [ej, if_false] at hj ⊢
      obtain ⟨h5, h6⟩ := hcp j p t q hj hp ha hw
      have h5' : listed.getD q false = true := h5
      have hne : q ≠ i := fun e => by rw [e, h1'] at h5'; cases h5'
      simp only [hne, if_false]
      exact ⟨h5, h6⟩
  ·have hC := h.shut
   have him : i = m := by
    rcases Nat.lt_or_ge m i with h' | h'
    ·obtain rfl : i = m + 1 := by omega
     have := anc_open hC ho hr h' (hln m (Nat.le_refl _))
     rw [hmf m (Nat.le_refl _) (by omega)] at this; cases this
    ·omega
   subst him
   obtain rfl := Option.some.inj (ho.symm.trans hom)
   have hall0 : ∀ j, j < i → j ≠ z → listed.getD j false = true := fun j hj hjz => anc_open hC ho hr hj (hlm j hj hjz)
   unfold wpOp
   simp only [ho]
   rw [if_pos (by simp [Region.wanted, (rgB_ok hB ho).guard])]
   have hnone : ∀ (b : Act) (u : Value), b.put o.dst u = b := fun b u => by rw [hmd]; rfl
   have hgon := (rgB_ok hB hon).guard
   rcases hz : listed.getD z false with _ | _
   ·-- the component is still to be taken out
    have hzlt : z < ops.size := by omega
    have hzl : z < listed.size := by omega
    have hrz : ∀ e ∈ oz.after, Region.binds .any e = true → listed.getD e.on false = true := fun e he hb => by
     have := (rgB_ok hB hoz).back e he hb
     exact hall0 e.on (by omega) (by omega)
    have hk := h.known hB hS hoz hz hrz
    obtain ⟨-, f, hf, hI, hτ, hcp⟩ := h
    have hg := hstep z oz hzm hoz k _ a.eval w (by omega) hI (fun e => if_neg (fun hdl => by have := ancB_shut hC 8 z d e hdl; rw [hz] at this; cases this)) hk
    obtain ⟨v, hrun, hv, hI', hgw⟩ := good_extract hzo hg
    have hzna : ∀ q, oz.op = .assign q → v = a.eval q := fun q hq => by rw [hzo] at hq; cases hq
    have hinv : Inv ops τ d (I (k + 1)) a0 (fun j => (listed.setIfInBounds z true).getD j false) (a.put oz.dst v) w := by
     rw [getD_setT hzl]
     refine ⟨fun j p hj hp e he hb => ?_, _, hf.step hB hoz hz v, ?_, fun j hj => ?_, fun j p t q hj hp ha hw => ?_⟩
     ·by_cases ej : j = z
      ·subst ej
       obtain rfl := Option.some.inj (hoz.symm.trans hp)
       have := hrz e he hb
       by_cases ee : e.on = j <;> simp [ee, this]
      ·simp only [ej, if_false] at hj
       have := hC j p hj hp e he hb
       by_cases ee : e.on = z <;> simp [ee, this]
     ·by_cases ed : z = d
      ·subst ed
       simpa using hI'
      ·simpa [ed, show ¬ d = z from fun h => ed h.symm] using hI'
     ·by_cases ej : j = z
      ·subst ej
       exact ⟨hzlt, by simpa using hv⟩
      ·simp only [ej, if_false] at hj ⊢
       exact ⟨(hτ j hj).1, hG j _ _ _ (hτ j hj).2 hgw⟩
     ·by_cases ej : j = z
      ·subst ej
       obtain rfl := Option.some.inj (hoz.symm.trans hp)
       rw [hzo] at ha; cases ha
      ·simp only [ej, if_false] at hj ⊢
       obtain ⟨h5, h6⟩ := hcp j p t q hj hp ha hw
       have h5' : listed.getD q false = true := h5
       have hne : q ≠ z := fun e => by rw [e, hz] at h5'; cases h5'
       simp only [hne, if_false]
       exact ⟨h5, h6⟩
    have eZ := getD_setT hzl
    have gZ : ∀ j, (listed.setIfInBounds z true).getD j false = if j = z then true else listed.getD j false := fun j => congrFun eZ j
    obtain ⟨w1, hr1, hq⟩ := done (listed.setIfInBounds z true) (a.put oz.dst v) w (k + 1) (by omega) (fun j hj => by
     rw [gZ j]
     by_cases e : j = z
     ·rw [if_pos e]
     ·rw [if_neg e]; exact hall0 j hj e) (fun j h1 h2 => by rw [gZ j, if_neg (by omega)]; exact hmf j h1 h2) hinv
    have ex : (a.put oz.dst v).eval (.tmp x) = a.eval (.tmp x) := put_get_ne a oz.dst v x (by rw [hzd]; intro e; exact hx (Option.some.inj e))
    have ey : (a.put oz.dst v).eval (.tmp y) = a.eval (.tmp y) := put_get_ne a oz.dst v y (by rw [hzd]; intro e; exact hy (Option.some.inj e))
    have hr2 : (execOp a.eval o).run P w = .ok .skip w1 := by
     rw [← hr1]
     unfold execOp
     simp only [hmo, ex, ey]
    left
    unfold Oper.wp
    rw [hr2]
    show wpAny P .any ops Q fuel (listed.setIfInBounds i true) (a.put o.dst undef) w1
    rw [hnone]
    have gI : ∀ j, (listed.setIfInBounds i true).getD j false = if j = i then true else listed.getD j false := fun j => congrFun eL j
    have hzi : (listed.setIfInBounds i true).getD z false = false := by rw [gI z, if_neg (by omega)]; exact hz
    have hop : open_ ops (listed.setIfInBounds i true) ≤ fuel := by have := open_less hlt hil h1'; omega
    have hC1 : Shut ops (fun j => (listed.setIfInBounds i true).getD j false) := by
     rw [eL]
     intro j p hj hp e he hb
     by_cases ej : j = i
     ·subst ej
      obtain rfl := Option.some.inj (ho.symm.trans hp)
      have := hr e he hb
      by_cases ee : e.on = j <;> simp [ee, this]
     ·simp only [ej, if_false] at hj
      have := hC j p hj hp e he hb
      by_cases ee : e.on = i <;> simp [ee, this]
    cases fuel with
    | zero =>
     exfalso
     have hpos : 0 < open_ ops (listed.setIfInBounds i true) := List.countP_pos_iff.2 ⟨z, List.mem_range.2 hzlt, by simp [hzi]⟩
     omega
    | succ fuel =>
     have hrz1 : ∀ e ∈ oz.after, Region.binds .any e = true → (listed.setIfInBounds i true).getD e.on false = true := fun e he hb => by
      rw [gI]
      split
      ·rfl
      ·exact hrz e he hb
     have hzl1 : z < (listed.setIfInBounds i true).size := by simpa using hzl
     refine ⟨fun hr => ?_, fun i' hi' => ?_⟩
     ·have : z ∈ Region.ready .any ops (listed.setIfInBounds i true) := mem_ready.2 ⟨by rw [getD_both hzl1]; exact hzi, oz, hoz, hrz1⟩
      rw [hr] at this
      cases this
     ·obtain ⟨q1, o', ho', hr'⟩ := mem_ready.1 hi'
      have hlt' := (Array.getElem?_eq_some_iff.1 ho').1
      have hil' : i' < (listed.setIfInBounds i true).size := by simp; omega
      have q1' : (listed.setIfInBounds i true).getD i' false = false := by rw [← getD_both hil']; exact q1
      have hiz : i' = z := by
       rcases Nat.lt_or_ge i' i with h5 | h5
       ·rcases Nat.decEq i' z with h6 | h6
        ·exfalso
         have := hall0 i' h5 h6
         rw [gI i', if_neg (by omega), this] at q1'
         cases q1'
        ·exact h6
       ·have h7 : i' ≠ i := fun e => by rw [gI i', if_pos e] at q1'; cases q1'
        obtain rfl : i' = i + 1 := by omega
        have := anc_open hC1 ho' hr' (show z < i + 1 by omega) (hln z (by omega))
        rw [hzi] at this; cases this
      subst hiz
      obtain rfl := Option.some.inj (ho'.symm.trans hoz)
      unfold wpOp
      simp only [ho']
      rw [if_pos (by simp [Region.wanted, (rgB_ok hB ho').guard])]
      left
      unfold Oper.wp
      rw [hrun w1]
      show wpAny P .any ops Q fuel ((listed.setIfInBounds i true).setIfInBounds i' true) (a.put o'.dst v) w1
      have gB : ∀ j, ((listed.setIfInBounds i true).setIfInBounds i' true).getD j false = if j = i' then true else (listed.setIfInBounds i true).getD j false := fun j => congrFun (getD_setT hil') j
      refine wpAny_chain (P := P) hB hchain _ (i + 1) fuel _ _ _ (Nat.le_refl _) hdrop (by simpa using hsz) (fun j hj => ?_) ?_ ?_ hq
      ·rw [gB j, gI j]
       by_cases e1 : j = i'
       ·rw [if_pos e1, decide_eq_true (by omega)]
       ·rw [if_neg e1]
        by_cases e2 : j = i
        ·rw [if_pos e2, decide_eq_true (by omega)]
        ·rw [if_neg e2]
         by_cases e3 : j < i
         ·rw [hall0 j e3 e1, decide_eq_true (by omega)]
         ·rw [hmf j (by omega) hj, decide_eq_false (by omega)]
      ·rw [getD_setT hil']
       intro j p hj hp e he hb
       by_cases ej : j = i'
       ·subst ej
        obtain rfl := Option.some.inj (ho'.symm.trans hp)
        have := hr' e he hb
        by_cases ee : e.on = j <;> simp [ee, this]
       ·simp only [ej, if_false] at hj
        have := hC1 j p hj hp e he hb
        by_cases ee : e.on = i' <;> simp [ee, this]
      ·have := open_less hlt' hil' q1'
       omega
   ·have hall : ∀ j, j < i → listed.getD j false = true := fun j hj => by
     by_cases e : j = z
     ·rw [e]; exact hz
     ·exact hall0 j hj e
    obtain ⟨w1, hr1, hq⟩ := done listed a w k (by omega) hall hmf h
    left
    unfold Oper.wp
    rw [hr1]
    show wpAny P .any ops Q fuel (listed.setIfInBounds i true) (a.put o.dst undef) w1
    rw [hnone]
    have gI : ∀ j, (listed.setIfInBounds i true).getD j false = if j = i then true else listed.getD j false := fun j => congrFun eL j
    refine wpAny_chain (P := P) hB hchain _ (i + 1) fuel _ _ _ (Nat.le_refl _) hdrop (by simpa using hsz) (fun j hj => ?_) ?_ ?_ hq
    ·rw [gI j]
     by_cases e2 : j = i
     ·rw [if_pos e2, decide_eq_true (by omega)]
     ·rw [if_neg e2]
      by_cases e3 : j < i
      ·rw [hall j e3, decide_eq_true (by omega)]
      ·rw [hmf j (by omega) hj, decide_eq_false (by omega)]
    ·rw [eL]
     intro j p hj hp e he hb
     by_cases ej : j = i
     ·subst ej
      obtain rfl := Option.some.inj (ho.symm.trans hp)
      have := hr e he hb
      by_cases ee : e.on = j <;> simp [ee, this]
     ·simp only [ej, if_false] at hj
      have := hC j p hj hp e he hb
      by_cases ee : e.on = i <;> simp [ee, this]
    ·have := open_less hlt hil h1'
     omega
end
theorem wp_region_rsx {id : Nat} {Q : Exit → Act → World → Prop} (S : RS) (hO : S.Ok) (hm : S.P.follows .mixedOrders = true) (hB : rgB S.ops = true) (hS : (S.ops.all fun o => match o.dst with | some t => decide (t < S.a0.tmps.size) | none => true) = true)
  (m z : Nat) (om on oz : Oper) (hsz : S.ops.size = m + 2) (hom : S.ops[m]? = some om) (hon : S.ops[m + 1]? = some on) (hoz : S.ops[z]? = some oz) (hzm : z < m)
  (ty : TypeId) (x y tz : Tmp) (p : Operand) (ix : Nat) (hmo : om.op = .store ty (.tmp x) (.tmp y)) (hmd : om.dst = none) (hzo : oz.op = .extract p ix) (hzd : oz.dst = some tz) (hx : (tz == x) = false) (hy : (tz == y) = false)
  (hlm : ((List.range m).all fun j => decide (j = z) || ancB S.ops 16 j m) = true) (hln : ((List.range (m + 1)).all fun j => ancB S.ops 16 j (m + 1)) = true) (hd : S.d < m)
  (hr : RdO S.rd 0 S.w0) (hJ : S.J none S.w0)
  (h : RSeq S (fun τ => ∀ f w' k, k ≤ S.ops.size → S.I k (some (f S.d)) w' → (∀ i, i < m → tys τ i w' (f i)) → Copies S.ops (fun j => decide (j < m)) f → ∃ w1, (execOp (putAll (S.ops.toList.take m) f 0 S.a0).eval om).run S.P w' = .ok .skip w1 ∧ wpList S.P S.ops Q [on] (putAll (S.ops.toList.take m) f 0 S.a0) w1) (S.ops.toList.take m) 0 []) : (Code.region id S.ops true).wp S.P Q S.a0 S.w0 := by
 have hlen : (S.ops.toList.take m).length = m := by simp; omega
 obtain ⟨τ, _, h3, h4, h5⟩ := rseq_types_l (S.ops.toList.take m) [] (by rw [hlen]; rfl) (by simp) h
 refine wp_region_any hm (rg_tailx (τ := tys τ) (d := S.d) (m := m) (z := z) (I := S.I) (G := Only S.E) (a0 := S.a0) (om := om) (on := on) (oz := oz) (ty := ty) (x := x) (y := y) (tz := tz) (p := p) (ix := ix) hB hS hsz hom hon hoz hzm hmo hmd hzo hzd (fun e => by simp [e] at hx) (fun e => by simp [e] at hy) (fun j hj hjz => ?_) (fun j hj => List.all_eq_true.1 hln j (List.mem_range.2 (by omega))) (fun i v w w' ht hg => tys_stb h3 i v w w' ht hg) (fun i o hi ho => h5 i o (Nat.zero_le _) (by rw [hlen]; simpa using hi) ho) hd (fun f w' k hk hI ht hc => h4 f w' k hk hI ht hc) S.ops.size (Array.replicate S.ops.size false) S.a0 _ 0 (by omega) (by simp) ?_ ?_ ?_)
 ·have := List.all_eq_true.1 hlm j (List.mem_range.2 hj)
  rw [Bool.or_eq_true] at this
  rcases this with h' | h'
  ·exact absurd (of_decide_eq_true h') hjz
  ·exact h'
 ·unfold open_
  exact Nat.le_trans List.countP_le_length (by simp)
 ·intro i h1 h2
  simp [Array.getD, h2]
 ·have e : (fun i => (Array.replicate S.ops.size false).getD i false) = fun _ => false := by
   funext i
   by_cases h : i < S.ops.size <;> simp [Array.getD, h]
  rw [e]
  refine ⟨(fun j o hj => (by cases hj)), ⟨fun _ => undef, Is.start S.a0 _, ⟨?_, Only.drew _ _, hO.keep _ _ _ hJ (Only.drew _ _)⟩, (fun i hi => (by cases hi)), (fun i o t j hi => (by cases hi))⟩⟩
  cases hrd : S.rd with
  | none => trivial
  | some q =>
   rw [hrd] at hr
   exact Rd.drew1 hr
end Go.Proofs.Ytkkkjbinfdohpaa
namespace Go.Proofs.Ytkkkjbinfdohpaa
open Go.RowKit
section
variable {P : Program} {w : World} {ops : Array Oper} {o : Oper} {a : Act} {K : Act → World → Prop} {Q : Exit → Act → World → Prop} {E : Prop}
end
end Go.Proofs.Ytkkkjbinfdohpaa
namespace Go.Proofs.Ytkkkjbinfdohpaa
open Go.RowKit Go.Maps
theorem PCells.only {E : Nat → Prop} {w w' : World} {g : Nat} {i : Int} {vn vg vo : Value} (h : PCells w g i vn vg vo) (ho : Only E w w') (hne : ¬ E g) : PCells w' g i vn vg vo := by
 obtain ⟨z, a, b, c, e⟩ := h
 have hb := ho.block g z hne
 exact ⟨Nat.lt_of_lt_of_le z ho.size, (World.cell?_of_block hb).trans a, (World.cell?_of_block hb).trans b, (World.cell?_of_block hb).trans c, (World.cell?_of_block hb).trans e⟩
theorem l3Build_any (share : Bool) (v : Value) (d : Ci) (w : World) (h : CircAt w v (Cir.toCz d)) (hd : Cir.Ok d) :
  Calls Try.prog 123 #[v, .bool share] w fun e w' => (∃ U v', Used d U ∧ e = .returned v' ∧ CircOwn 0 w' v' (Cir.toCz (Cir.bRes share d (List.replicate (Cir.nfirst d) true ++ U)))) ∧ Below w.heap.size w w' := by
 have s1 := hd.ins
 have s2 := hd.nexts
 have s3 := hd.gatess
 have s4 := hd.outss
 obtain ⟨i0, hi0, hz0, hz1, hz2⟩ := info_parts info_int
 have H1 := Lib.hid h
 have HD := Lib.hid hd
 have HU1 := Lib.hid (fun w' v' (h' : CircAt w' v' (Cir.toCz d)) => l3Used_any v' d w' h' hd)
 have HFi : Hid (∀ w' v' (gs : List (Int × Int)), CircAt w' v' ⟨d.ins, (Cir.toCz d).next, gs, []⟩ → Calls Try.prog 43 #[v'] w' fun e w'' => e = .returned (.int .i64 (Cir.nfirst d : Nat)) ∧ Below w'.heap.size w' w'') := Lib.hid fun w' v' gs h' => by
  have := l1First_any v' ⟨d.ins, (Cir.toCz d).next, gs, []⟩ w' h' (by show (0 : Int) ≤ (d.ins : Int); omega) (by show (d.ins : Int) ≤ 100; omega) (by show (List.map _ _).length ≤ 100; rw [List.length_map]; omega)
  rwa [show Cir.first ⟨(d.ins : Int), (Cir.toCz d).next, gs, []⟩ = ((Cir.nfirst d : Nat) : Int) from by have := Cir.first_toCz d; unfold Cir.first at this ⊢; exact this] at this
 have HFd : Hid (∀ w' v', CircAt w' v' (Cir.toCz d) → Calls Try.prog 43 #[v'] w' fun e w'' => e = .returned (.int .i64 (Cir.nfirst d : Nat)) ∧ Below w'.heap.size w' w'') := Lib.hid fun w' v' h' => by
  have := l1First_any v' (Cir.toCz d) w' h' (by show (0 : Int) ≤ (d.ins : Int); omega) (by show (d.ins : Int) ≤ 100; omega) (by show (List.map _ _).length ≤ 100; rw [List.length_map]; omega)
  rwa [Cir.first_toCz] at this
 obtain ⟨An, cn, Ag, cg, Ao, co, rfl⟩ := h.shape
 have hln : (Cir.toCz d).next.length = d.next.length := List.length_map _
 have hlg : (Cir.toCz d).gates.length = d.gates.length := List.length_map _
 have hlo : (Cir.toCz d).outs.length = d.outs.length := List.length_map _
 have hins : (Cir.toCz d).ins = (d.ins : Int) := rfl
 rw [hln, hlg, hlo, hins] at H1 ⊢
 obtain ⟨vn, vg, vo, e, r1, r2, r3⟩ := H1.out
 injection e with e
 simp only [Array.mk.injEq, List.cons.injEq, and_true] at e
 obtain ⟨-, e1, e2, e3⟩ := e
 subst e1 e2 e3
 have RN : Hid (Row w 1 (.slice An d.next.length cn) d.next.length (ints (Cir.toCz d).next)) := Lib.hid (by have := r1; unfold IntsAt at this; rwa [hln] at this)
 have RG : Hid (Row w 2 (.slice Ag d.gates.length cg) d.gates.length (cubes (Cir.toCz d).gates)) := Lib.hid (by have := r2; unfold CubesAt at this; rwa [hlg] at this)
 have RO : Hid (Row w 1 (.slice Ao d.outs.length co) d.outs.length (ints (Cir.toCz d).outs)) := Lib.hid (by have := r3; unfold IntsAt at this; rwa [hlo] at this)
 have hb1 := bel_new w (.cells #[.int .i64 (d.ins : Int), .slice An d.next.length cn, .slice Ag d.gates.length cg, .slice Ao d.outs.length co] 26)
 have P1 := PCells.boxed w (d.ins : Int) (.slice An d.next.length cn) (.slice Ag d.gates.length cg) (.slice Ao d.outs.length co) 26
 have hzz1 : (w.alloc (.cells #[.int .i64 (d.ins : Int), .slice An d.next.length cn, .slice Ag d.gates.length cg, .slice Ao d.outs.length co] 26)).heap.size = w.heap.size + 1 := by simp
 obtain ⟨W1, hW1⟩ : ∃ W1, w.alloc (.cells #[.int .i64 (d.ins : Int), .slice An d.next.length cn, .slice Ag d.gates.length cg, .slice Ao d.outs.length co] 26) = W1 := ⟨_, rfl⟩
 rw [hW1] at hb1 P1 hzz1
 have hb2 := bel_new W1 (.cells #[.int .i64 0, .slice none 0 0, .slice none 0 0, .slice none 0 0] 26)
 have hR2 := heap_alloc_new W1 (.cells #[.int .i64 0, .slice none 0 0, .slice none 0 0, .slice none 0 0] 26)
 have hzz2 : (W1.alloc (.cells #[.int .i64 0, .slice none 0 0, .slice none 0 0, .slice none 0 0] 26)).heap.size = W1.heap.size + 1 := by simp
 have P2 := P1.below hb2
 obtain ⟨W2, hW2⟩ : ∃ W2, W1.alloc (.cells #[.int .i64 0, .slice none 0 0, .slice none 0 0, .slice none 0 0] 26) = W2 := ⟨_, rfl⟩
 rw [hW2] at hb2 hR2 P2 hzz2
 have HB2 := Lib.hid (hb1.trans (hb2.mono hb1.size))
 obtain ⟨gC, hgC⟩ : ∃ g, w.heap.size = g := ⟨_, rfl⟩
 obtain ⟨gR, hgR⟩ : ∃ g, W1.heap.size = g := ⟨_, rfl⟩
 rw [hgC] at P2
 rw [hgR] at hR2
 have hgRC : gR = gC + 1 := by omega
 have hgRz : gR < W2.heap.size := by omega
 have HR2 := Lib.hid hR2
 have PC2 := Lib.hid P2
 have HW := Lib.hid (And.intro hW1 (And.intro hW2 (And.intro hgC hgR)))
 obtain ⟨z, p0, p1, p2, p3⟩ := P2
 clear h hd hln hlg hlo hins hb1 hb2 hW1 hW2 P1 hR2 hzz1 hzz2 r1 r2 r3 hgR hgC
 go_enter Try.func123, Try.ntmps123
 go_wp2_with fail
 rw [HW.out.1, HW.out.2.1]
 try rw [HW.out.2.2.1]
 try rw [← hgRC]
 refine (HU1.out _ _ (H1.out.below HB2.out)).mono ?_
 rintro e w2 ⟨vU, U, rfl, hU, hoU, hb⟩
 obtain ⟨AU, cU, eU⟩ := slice_of_own hoU
 subst eU
 have HUs := Lib.hid hU
 have hUl := hU.len
 have HO2 := Lib.hid hoU
 have HR3 := Lib.hid ((hb.block gR hgRz).trans HR2.out)
 have PC3 := Lib.hid (PC2.out.below hb)
 have HB3 := Lib.hid (HB2.out.trans (hb.mono HB2.out.size))
 have Hwz : Hid (gC = w.heap.size) := Lib.hid HW.out.2.2.1.symm
 have HgRC := Lib.hid hgRC
 have hgC2 : gC < w2.heap.size := PC3.out.1
 have hgzz : gR < w2.heap.size := Nat.lt_of_lt_of_le hgRz hb.size
 clear hU hoU hb HR2 PC2 HB2 z p0 p1 p2 p3 HW hgRz hgRC
 obtain ⟨z, p0, p1, p2, p3⟩ := PC3.out
 go_wp2_with fail
 refine wp_region_rsl (quietRS Try.prog _ w2 _) quietRS_ok (by kernel_rfl) (by kernel_rfl) (by kernel_rfl) 8 _ rfl rfl (by kernel_rfl) (show (0 : Nat) < 8 by decide) trivial trivial ?_
 apply rs_eq quietRS_ok quiet_any
 ·intro ρ w' ho hK
  have ho : Only _ w2 w' := ho
  obtain ⟨h0, -⟩ := hK
  have h0' : ρ (.tmp 2) = _ := h0
  go_simp
  try exact rfl
 apply rs_eq quietRS_ok quiet_any
 ·intro ρ w' ho hK
  have ho : Only _ w2 w' := ho
  obtain ⟨h0, -⟩ := hK
  have h0' : ρ (.tmp 17) = _ := h0
  obtain ⟨-, q0, q1, q2, q3⟩ := PC3.out.below (only_below ho)
  go_simp
  try exact rfl
 refine rs_build0 quietRS_ok quiet_any 3 (fun ρ w' => by go_simp) ?_
 apply rs_eq quietRS_ok quiet_any
 ·intro ρ w' ho hK
  have ho : Only _ w2 w' := ho
  obtain ⟨h0, -⟩ := hK
  have h0' : ρ (.tmp 2) = _ := h0
  go_simp
  try exact rfl
 apply rs_eq quietRS_ok quiet_any
 ·intro ρ w' ho hK
  have ho : Only _ w2 w' := ho
  obtain ⟨h0, -⟩ := hK
  have h0' : ρ (.tmp 20) = _ := h0
  obtain ⟨-, q0, q1, q2, q3⟩ := PC3.out.below (only_below ho)
  go_simp
  try exact rfl
 refine rs_appendF quietRS_ok quiet_any 3 23 1 d.next.length (.slice An d.next.length cn) (ints (Cir.toCz d).next) rfl 19 21 rfl 2 4 rfl rfl rfl rfl (fun w' ho => Row.below RN.out (HB3.out.trans ((only_below ho).mono HB3.out.size))) i0 _ 8 Try.underlying23 hi0 hz0 hz1 hz2 rfl (by decide) (by omega) (by decide) (ints_one _) ?_
 refine rs_look quietRS_ok quiet_any (TAggO w2.heap.size 3 1 d.next.length (ints (Cir.toCz d).next) (fun u => .agg #[.int .i64 (d.ins : Int), u, .slice none 0 0, .slice none 0 0])) (stb_aggq _ _ _ _ _ _) (fun ρ w' ho hK => by
  obtain ⟨h0, h1, -⟩ := hK
  have h0' : ρ (.tmp 18) = .int .i64 (d.ins : Int) := h0
  have h1' : w'.ownsRow w2.heap.size 3 1 (ρ (.tmp 22)) d.next.length (ints (Cir.toCz d).next) := h1
  obtain ⟨A, c, e1⟩ := slice_of_own h1'
  rw [e1] at h1'
  refine ⟨.agg #[.int .i64 (d.ins : Int), .slice A d.next.length c, .slice none 0 0, .slice none 0 0], ?_, A, c, rfl, h1'⟩
  go_simp) ?_
 refine rs_alloc quietRS_ok quiet_any (TBoxZ w2.heap.size #[.int .i64 0, .slice none 0 0, .slice none 0 0, .slice none 0 0] 26) (stb_boxz _ _ _) (fun ρ w' ho hK => by
  refine ⟨.pointer (some ⟨w'.heap.size, 0, none⟩), .cells #[.int .i64 0, .slice none 0 0, .slice none 0 0, .slice none 0 0] 26, ?_, ⟨_, rfl, ho.size, heap_alloc_new _ _⟩⟩
  go_simp) ?_
 intro f w9 k9 hk9 hI9 ht9 hcp9
 have E0 : f 0 = _ := ht9 0 (nlb rfl)
 have E1 : f 1 = _ := ht9 1 (nlb rfl)
 have E2 : (TLit0 w2.heap.size 3) w9 (f 2) := ht9 2 (nlb rfl)
 have E3 : f 3 = _ := ht9 3 (nlb rfl)
 have E4 : f 4 = _ := ht9 4 (nlb rfl)
 have E5 : (TOwn w2.heap.size 3 1 d.next.length (ints (Cir.toCz d).next)) w9 (f 5) := ht9 5 (nlb rfl)
 have E6 : (TAggO w2.heap.size 3 1 d.next.length (ints (Cir.toCz d).next) (fun u => .agg #[.int .i64 (d.ins : Int), u, .slice none 0 0, .slice none 0 0])) w9 (f 6) := ht9 6 (nlb rfl)
 have E7 : (TBoxZ w2.heap.size #[.int .i64 0, .slice none 0 0, .slice none 0 0, .slice none 0 0] 26) w9 (f 7) := ht9 7 (nlb rfl)
 have Ho9 : Only _ w2 w9 := hI9.2.1
 simp only [putAll, E0, E1, E3, E4, Nat.zero_add, Nat.reduceAdd, Act.put, List.setIfInBounds_toArray, List.set_cons_succ, List.set_cons_zero, List.take, List.getElem_toArray, List.getElem_cons_succ, List.getElem_cons_zero]
 clear E0 E1 E3 E4
 clear hI9 ht9 hcp9 hk9
 generalize f 2 = r2 at *
 generalize f 5 = r5 at *
 generalize f 6 = r6 at *
 generalize f 7 = r7 at *
 have hb9 := only_below Ho9
 obtain ⟨gx, e7, hgx, hk7⟩ : ∃ g', r7 = .pointer (some ⟨g', 0, none⟩) ∧ w2.heap.size ≤ g' ∧ w9.heap[g']? = some (.cells #[.int .i64 0, .slice none 0 0, .slice none 0 0, .slice none 0 0] 26 (0, 0)) := E7
 obtain ⟨AN, cN, e6, hN⟩ : ∃ A c, r6 = .agg #[.int .i64 (d.ins : Int), .slice A d.next.length c, .slice none 0 0, .slice none 0 0] ∧ w9.ownsRow w2.heap.size 3 1 (.slice A d.next.length c) d.next.length (ints (Cir.toCz d).next) := E6
 subst e7 e6
 refine wpList_store_rowTo rfl 26 (.tmp 6) (.tmp 23) rfl rfl gx #[.int .i64 (d.ins : Int), .slice AN d.next.length cN, .slice none 0 0, .slice none 0 0] rfl rfl 26 _ hk7 (by kernel_rfl) rfl (by simp [Value.oneCell']) ?_
 have hX4 := setRow_heap w9 gx _ #[.int .i64 (d.ins : Int), .slice AN d.next.length cN, .slice none 0 0, .slice none 0 0] _ _ hk7
 have hO4 : Only (fun g => g = gx) w9 (w9.setRow gx #[.int .i64 (d.ins : Int), .slice AN d.next.length cN, .slice none 0 0, .slice none 0 0]) := ⟨rfl, rfl, rfl, by simp, fun k hk hn => setRow_other _ _ _ _ hn⟩
 generalize w9.setRow gx #[.int .i64 (d.ins : Int), .slice AN d.next.length cN, .slice none 0 0, .slice none 0 0] = w4 at *
 have hw29 : w2.heap.size ≤ w9.heap.size := hb9.size
 have hwz2 : w.heap.size ≤ w2.heap.size := HB3.out.size
 have HB4 : Hid (Below w.heap.size w w4) := Lib.hid (Only.below (HB3.out.trans (hb9.mono HB3.out.size)) hO4 (by omega) (fun k hk => by omega))
 have HN4 := Lib.hid (own_only hN hO4 (fun g hg e => own_ne_tag hN hk7 (by decide) (by rw [hg, e])))
 have hU9 := own_below HO2.out hb9
 have HU4 := Lib.hid (own_only hU9 hO4 (fun g hg e => own_ne_tag hU9 hk7 (by decide) (by rw [hg, e])))
 have HR4 := Lib.hid ((hO4.block gR (by omega) (by omega)).trans ((hb9.block gR hgzz).trans HR3.out))
 have PC4 : Hid (PCells w4 gC (d.ins : Int) (.slice An d.next.length cn) (.slice Ag d.gates.length cg) (.slice Ao d.outs.length co)) := Lib.hid (PCells.kept (PC3.out.below hb9) hO4.grownBy (by omega))
 have HX4 := Lib.hid hX4
 have hgxz : gx < w4.heap.size := blk_ltB hX4
 have hgx4 : gx < w4.heap.size := blk_ltB hX4
 have hgRx : gR < gx := by omega
 have hgCx : gC < gx := by omega
 have hwR : w.heap.size ≤ gR := by have := HgRC.out; have := Hwz.out; omega
 have hwx : w.heap.size ≤ gx := by omega
 have hw2z : w2.heap.size ≤ w4.heap.size := by omega
 clear Ho9 hb9 hk7 hN hX4 hO4 hU9 HR3 PC3 HO2 z p0 p1 p2 p3 E5 E2 HB3 HU1
 obtain ⟨z, p0, p1, p2, p3⟩ := PC4.out
 go_wp2_with fail
 have hE := World.ownsRow_lit (base := w4.heap.size) (e := 3) (size := 1) w4 #[] 0 (Nat.le_refl _) (by unfold maxLen; omega) rfl
 have hbE := bel_new w4 (.cells #[] 3)
 generalize w4.alloc (.cells #[] 3) = W5 at *
 have HE : Hid (W5.ownsRow w4.heap.size 3 1 (.slice (some ⟨w4.heap.size, 0, none⟩) 0 0) 0 (ints ((Cir.ownL 0).map Int.ofNat))) := Lib.hid hE
 have HbE := Lib.hid hbE
 have hF10 : Cir.nfirst d ≤ 8 := by unfold Cir.nfirst; omega
 have hF0 : 0 < Cir.nfirst d := by unfold Cir.nfirst; omega
 obtain ⟨F, hF⟩ : ∃ F, F = Cir.nfirst d := ⟨_, rfl⟩
 have HF := Lib.hid hF
 rw [← hF] at HFi HFd hF10 hF0
 clear hE hbE hF z p0 p1 p2 p3
 go_loopw [7, 8] (fun vm i wr => ∃ (k : Nat) (vm' : Value), vm' = vm ∧ k ≤ F ∧ i = .int .i64 k ∧ Hid (wr.ownsRow w4.heap.size 3 1 vm k (ints ((Cir.ownL k).map Int.ofNat))) ∧ Hid (Below w4.heap.size w4 wr)) (fun _ i _ => F - (intOf i).toNat)
 case atStart => exact ⟨0, _, rfl, Nat.zero_le _, rfl, HE, HbE⟩
 case round =>
  obtain ⟨k, vm', hvm, hk, rfl, HM, Hb⟩ := hrel
  subst hvm
  clear HE HbE
  obtain ⟨Am, cm, em⟩ := slice_of_own HM.out
  subst em
  obtain ⟨z, p0, p1, p2, p3⟩ := PC4.out.below Hb.out
  go_wp2_with fail
  refine (HFd.out _ _ (H1.out.below (HB4.out.trans (Hb.out.mono HB4.out.size)))).mono ?_
  rintro e wf ⟨rfl, hbf⟩
  have HMf := Lib.hid (own_below HM.out hbf)
  have HbF : Hid (Below w4.heap.size w4 wf) := Lib.hid (Hb.out.trans (hbf.mono Hb.out.size))
  have hzf := HbF.out.size
  clear hbf HM Hb z p0 p1 p2 p3
  obtain ⟨z, p0, p1, p2, p3⟩ := PC4.out.below HbF.out
  by_cases hlt : k < F
  ·have hw2 := IntWalk.i64_in (2 * (k : Int)) (by omega)
   have Hlit := Lib.hid (Row.of_own (World.ownsRow_lit (base := wf.heap.size) (e := 3) (size := 1) wf #[.int .i64 (2 * (k : Int))] 1 (Nat.le_refl _) (by unfold maxLen; omega) rfl))
   have HOa := Lib.hid (HMf.out.alloc (.cells #[.int .i64 (2 * (k : Int))] 3))
   have hza : (wf.alloc (.cells #[.int .i64 (2 * (k : Int))] 3)).heap.size = wf.heap.size + 1 := by simp
   go_wp2_with (at_builtin; refine append_ints rfl (.tmp 31) (.tmp 34) rfl w4.heap.size _ k _ rfl HOa.out _ 1 [.int .i64 (2 * (k : Int))] rfl Hlit.out (by simp [Value.oneCell']) (by omega) (by omega) ?_; intro v4 w5 hown4 hg4 hat4; have Hown4 := Lib.hid hown4; have Hg4 := Lib.hid hg4; clear hown4 hg4 hat4)
   go_roundw
   case rel => exact ⟨k + 1, _, rfl, by omega, by go_num, Lib.hid (by
     have e : ints ((Cir.ownL (k + 1)).map Int.ofNat) = ints ((Cir.ownL k).map Int.ofNat) ++ [.int .i64 (2 * (k : Int))] := by
      unfold Cir.ownL ints
      rw [List.range_succ]
      simp
     rw [e]
     exact Hown4.out), Lib.hid ((HbF.out.alloc HbF.out.size _).grown Hg4.out (by omega) (fun q hq => (HOa.out.lt q hq).1))⟩
   case measure => simp [intOf]; omega
  ·obtain rfl : F = k := by omega
   go_wp2_with fail
   have HN5 := Lib.hid (own_below HN4.out HbF.out)
   have HX5 := Lib.hid ((HbF.out.block gx hgxz).trans HX4.out)
   have HR5 := Lib.hid ((HbF.out.block gR (by omega)).trans HR4.out)
   have HU5 := Lib.hid (own_below HU4.out HbF.out)
   have PC5 := Lib.hid (PC4.out.below HbF.out)
   have HB5 : Hid (Below w.heap.size w wf) := Lib.hid (HB4.out.trans (HbF.out.mono HB4.out.size))
   have HlN : Hid (∀ g, (Value.slice AN d.next.length cN).ownBlock = some g → g < w4.heap.size) := Lib.hid fun g hg => (HN4.out.lt g hg).2
   have HlU : Hid (∀ g, (Value.slice AU U.length cU).ownBlock = some g → g < w4.heap.size) := Lib.hid fun g hg => (HU4.out.lt g hg).2
   obtain ⟨keep, hkeep⟩ : ∃ keep, keep = List.replicate F true ++ U := ⟨_, rfl⟩
   have Hkeep := Lib.hid hkeep
   have HKU : Hid (∀ j, keep.getD (F + j) false = U.getD j false) := Lib.hid fun j => by rw [hkeep, rep_getD, if_neg (by omega), Nat.add_sub_cancel_left]
   have HInv := Lib.hid (fun k => Cir.b_inv share hF0 keep d.gates k)
   have HG5 : Hid (wf.ownsRow (cond share 0 w4.heap.size) 64 2 (.slice none 0 0) (Cir.bGo share F keep d.gates 0).1.length (cubes (Cir.gatesOf (Cir.bGo share F keep d.gates 0).1))) := Lib.hid (World.ownsRow_nil _ _ _ _)
   have HM5 : Hid (wf.ownsRow w4.heap.size 3 1 (.slice Am F cm) F (ints ((Cir.bGo share F keep d.gates 0).2.map Int.ofNat))) := HMf
   have hg4z : w4.heap.size ≤ wf.heap.size := hzf
   clear HMf HbF hkeep HN4 HX4 HR4 HU4 PC4 HB4 hzf hlt z p0 p1 p2 p3
   go_loopw [7, 9] (fun vm i wr => ∃ (k M : Nat) (vm' vg : Value), vm' = vm ∧ Hid (M = F + k) ∧ k ≤ d.gates.length ∧ i = .int .i64 k ∧ Hid (wr.ownsRow w4.heap.size 3 1 vm M (ints ((Cir.bGo share F keep d.gates k).2.map Int.ofNat))) ∧ Hid (wr.ownsRow (cond share 0 w4.heap.size) 64 2 vg (Cir.bGo share F keep d.gates k).1.length (cubes (Cir.gatesOf (Cir.bGo share F keep d.gates k).1))) ∧ Hid (wr.heap[gx]? = some (.cells #[.int .i64 (d.ins : Int), .slice AN d.next.length cN, vg, .slice none 0 0] 26 (0, 0))) ∧ Hid (wr.heap[gR]? = some (.cells #[.int .i64 0, .slice none 0 0, .slice none 0 0, .slice none 0 0] 26 (0, 0))) ∧ Hid (wr.ownsRow w2.heap.size 3 1 (.slice AN d.next.length cN) d.next.length (ints (Cir.toCz d).next)) ∧ Hid (wr.ownsRow W2.heap.size 4 1 (.slice AU U.length cU) U.length (bools U)) ∧ Hid (PCells wr gC (d.ins : Int) (.slice An d.next.length cn) (.slice Ag d.gates.length cg) (.slice Ao d.outs.length co)) ∧ w4.heap.size ≤ wr.heap.size ∧ Hid (Below w.heap.size w wr)) (fun _ i _ => d.gates.length - (intOf i).toNat)
   case atStart => exact ⟨0, F, _, .slice none 0 0, rfl, Lib.hid rfl, Nat.zero_le _, rfl, HM5, HG5, HX5, HR5, HN5, HU5, PC5, hg4z, HB5⟩
   case round =>
    obtain ⟨k, M, vm', vg, hvm, HM0, hk, rfl, HM, HG, HX, HR, HN, HU, PC, hzr, HB⟩ := hrel
    subst hvm
    clear HM5 HG5 HX5 HR5 HN5 HU5 PC5 hg4z HB5
    obtain ⟨Am, cm, em⟩ := slice_of_own HM.out
    subst em
    obtain ⟨Ag2, cg2, eg⟩ := slice_of_own HG.out
    subst eg
    obtain ⟨z, p0, p1, p2, p3⟩ := PC.out
    by_cases hlt : k < d.gates.length
    ·obtain ⟨bq, o, x, rfl, hbl, hx, hs1, hs2⟩ := cubes_open RG.out HB.out (show d.gates.length = (Cir.toCz d).gates.length from (List.length_map _).symm) (i := k) (by rw [show (Cir.toCz d).gates.length = d.gates.length from List.length_map _]; exact hlt)
     obtain ⟨gt, hgt⟩ := at_some hlt
     have hxe : x = ((gt.1 : Int), (gt.2 : Int)) := by
      have h1 := hx.out
      unfold Cir.toCz at h1
      simp only [List.getElem?_map, hgt] at h1
      exact (Option.some.inj h1).symm
     subst hxe
     obtain ⟨g1, g2⟩ := HD.out.gate k gt hgt
     rw [← HF.out] at g1 g2
     have hgD : d.gates.getD k (0, 0) = gt := by rw [List.getD_eq_getElem?_getD, hgt, Option.getD_some]
     have HSt : Hid (Cir.bGo share F keep d.gates (k + 1) = if U.getD k false then (if share then ((Cir.andB F (Cir.bGo share F keep d.gates k).1 (Cir.useX (Cir.bGo share F keep d.gates k).2 gt.1) (Cir.useX (Cir.bGo share F keep d.gates k).2 gt.2)).2, (Cir.bGo share F keep d.gates k).2 ++ [(Cir.andB F (Cir.bGo share F keep d.gates k).1 (Cir.useX (Cir.bGo share F keep d.gates k).2 gt.1) (Cir.useX (Cir.bGo share F keep d.gates k).2 gt.2)).1]) else ((Cir.useX (Cir.bGo share F keep d.gates k).2 gt.1, Cir.useX (Cir.bGo share F keep d.gates k).2 gt.2) :: (Cir.bGo share F keep d.gates k).1, (Cir.bGo share F keep d.gates k).2 ++ [2 * (F + (Cir.bGo share F keep d.gates k).1.length)])) else ((Cir.bGo share F keep d.gates k).1, (Cir.bGo share F keep d.gates k).2 ++ [0])) := Lib.hid (by rw [Cir.bGo]; unfold Cir.bStep; rw [hgD, HKU.out k])
     have hInk := HInv.out k
     generalize hpp : Cir.bGo share F keep d.gates k = pp at *
     obtain ⟨G, m⟩ := pp
     obtain ⟨x1, hx1⟩ : ∃ x1, x1 = gt.1 := ⟨_, rfl⟩
     obtain ⟨x2, hx2⟩ : ∃ x2, x2 = gt.2 := ⟨_, rfl⟩
     rw [← hx1] at g1 HSt hs1
     rw [← hx2] at g2 HSt hs2
     have hml : m.length = F + k := hInk.len
     have hGl : G.length ≤ k := hInk.glen
     have y1b := Cir.useX_lt (show 0 < F + G.length by omega) hInk.lt x1
     have y2b := Cir.useX_lt (show 0 < F + G.length by omega) hInk.lt x2
     have hmv : ∀ l ∈ m, l ≤ 1000000 := fun l hl => by have : l < 2 * (F + G.length) := hInk.lt l hl; omega
     have hMF := HM0.out
     have HMap : Hid (∀ w' l, w'.ownsRow w4.heap.size 3 1 (.slice Am M cm) M (ints (m.map Int.ofNat)) → l / 2 < F + k → l ≤ 1000 → Calls Try.prog 125 #[.slice Am M cm, .int .i64 (l : Int)] w' fun e w'' => e = .returned (.int .i64 (Cir.useX m l : Nat)) ∧ Below w'.heap.size w' w'') := Lib.hid fun w' l hr h1 h2 => l3Map_any (.slice Am M cm) l m w' (by
      have h := Row.of_own hr
      unfold IntsAt
      rw [List.length_map, hml, ← hMF]
      exact h) (by omega) (by omega) hmv
     have HG' : Hid (wr.ownsRow (cond share 0 w4.heap.size) 64 2 (.slice Ag2 G.length cg2) G.length (cubes (Cir.gatesOf G))) := HG
     have HM' : Hid (wr.ownsRow w4.heap.size 3 1 (.slice Am M cm) M (ints (m.map Int.ofNat))) := HM
     have hsk : (bools U)[k]? = some (.bool (U.getD k false)) := by
      unfold bools
      rw [List.getElem?_map, List.getElem?_eq_getElem (by omega), List.getD_eq_getElem?_getD, List.getElem?_eq_getElem (by omega)]
      rfl
     obtain ⟨gu, cu', hvu, hgu1, hgu2, -, -⟩ := own_open HU.out (by omega)
     injection hvu with hAU _ hcu
     subst hAU hcu
     obtain ⟨u1, hu1, hd1, hf1⟩ := own_slot HU.out (j := k) (by omega)
     obtain rfl : u1 = .bool (U.getD k false) := Option.some.inj (hu1.symm.trans hsk)
     have hgxz := blk_ltB HX.out
     have hgRz := blk_ltB HR.out
     have e1' : x1 / 2 < F + k := by omega
     have e2' : x2 / 2 < F + k := by omega
     have hx1b : x1 ≤ 1000 := by omega
     have hx2b : x2 ≤ 1000 := by omega
     have hCirc : Hid (Cir.nfirst d = 1 + d.ins + d.next.length) := Lib.hid rfl
     have hFn := HF.out
     have hFn2 := hCirc.out
     have HFI : Hid (F = 1 + d.ins + d.next.length) := Lib.hid (by omega)
     have HAnd : Hid (∀ w' vg' cg', w'.ownsRow 0 64 2 (.slice vg' G.length cg') G.length (cubes (Cir.gatesOf G)) → w'.ownsRow w2.heap.size 3 1 (.slice AN d.next.length cN) d.next.length (ints (Cir.toCz d).next) → Calls Try.prog 130 #[.agg #[.int .i64 (d.ins : Int), .slice AN d.next.length cN, .slice vg' G.length cg', .slice none 0 0], .int .i64 ((Cir.useX m x1 : Nat) : Int), .int .i64 ((Cir.useX m x2 : Nat) : Int)] w' (AndGive d.ins (.slice AN d.next.length cN) (.slice none 0 0) (Cir.andB F G (Cir.useX m x1) (Cir.useX m x2)) w')) := Lib.hid fun w' vg' cg' h1 h2 => l3And_any d.ins _ _ F AN none cN 0 d.next.length 0 (Cir.toCz d).next [] _ G w' (by omega) (by omega) (by omega) (by omega) (Row.of_own h2) h1 (Row.nil _ _) y1b y2b
     clear hFn hFn2 hCirc
     have hnGM : ∀ g, (Value.slice Ag2 G.length cg2).ownBlock = some g → (Value.slice Am M cm).ownBlock ≠ some g := fun g hg => own_ne_own HG'.out HM'.out (by decide) hg
     have HnGM := Lib.hid hnGM
     have hltM : ∀ g, (Value.slice Am M cm).ownBlock = some g → w4.heap.size ≤ g ∧ g < wr.heap.size := fun g hg => HM'.out.lt g hg
     have HltM := Lib.hid hltM
     have hwk : IntKind.i64.wrap ((k : Int) + 1) = (k : Int) + 1 := IntWalk.i64_in _ (by omega)
     have Hk1 : Hid (M + 1 = F + (k + 1)) := Lib.hid (by omega)
     have hMb : M ≤ 100 := by omega
     clear hx hgt hgD hpp hx1 hx2 hmv hInk hnGM hltM hu1 hsk HM HG hml hMF z p0 p1 p2 p3
     have HRL : Hid (∀ (w' : World) (r : Nat) (v4 : Value), v4 = v4) := Lib.hid fun _ _ _ => rfl
     generalize hy1 : Cir.useX m x1 = y1 at *
     generalize hy2 : Cir.useX m x2 = y2 at *
     have Hy1 := Lib.hid hy1
     have Hy2 := Lib.hid hy2
     clear hy1 hy2 HRL
     cases hfl : U.getD k false
     ·rw [hfl] at hd1
      rw [hfl, if_neg (by simp)] at HSt
      obtain ⟨zz, p0, p1, p2, p3⟩ := PC.out
      have HM5 := HM'
      have HG5 := HG'
      have HX5 := HX
      have HR5 := HR
      have HN5 := HN
      have HU5 := HU
      have PC5 := PC
      have HB5 := HB
      clear HMap HAnd HM' HG' HX HR HN HU PC HB hs1 hs2
      have hbl := bel_new wr (.cells #[.int .i64 (0 : Int)] 3)
      have hzl : (wr.alloc (.cells #[.int .i64 (0 : Int)] 3)).heap.size = wr.heap.size + 1 := by simp
      have Hlit := Lib.hid (Row.of_own (World.ownsRow_lit (base := wr.heap.size) (e := 3) (size := 1) wr #[.int .i64 (0 : Int)] 1 (Nat.le_refl _) (by unfold maxLen; omega) rfl))
      have HMl := Lib.hid (own_below HM5.out hbl)
      have HNl := Lib.hid (own_below HN5.out hbl)
      have HUl := Lib.hid (own_below HU5.out hbl)
      have HGl := Lib.hid (own_below HG5.out hbl)
      have HXl := Lib.hid ((hbl.block gx (blk_ltB HX5.out)).trans HX5.out)
      have HRl := Lib.hid ((hbl.block gR (blk_ltB HR5.out)).trans HR5.out)
      have PCl := Lib.hid (PC5.out.below hbl)
      have HBl := Lib.hid (HB5.out.trans (hbl.mono HB5.out.size))
      have Hsn : Hid (ints (List.map Int.ofNat (m ++ [0])) = ints (m.map Int.ofNat) ++ [Value.int .i64 (0 : Int)]) := Lib.hid (by unfold ints; rw [List.map_append, List.map_append]; rfl)
      generalize ints (m.map Int.ofNat) = cs9 at *
      clear hbl HM5 HN5 HU5 HG5 HX5 HR5 PC5 HB5
      go_wp2_with (at_builtin; refine append_ints rfl (.tmp 107) (.tmp 109) rfl w4.heap.size (.slice Am M cm) M cs9 rfl HMl.out _ 1 [.int .i64 (0 : Int)] rfl Hlit.out (by simp [Value.oneCell']) (by omega) (by omega) ?_; intro v4 w5 hown4 hg4 hat4; have Hown4 := Lib.hid hown4; have Hg4 := Lib.hid hg4; clear hown4 hg4 hat4)
      have O9' : Only (fun q => (Value.slice Am M cm).ownBlock = some q) _ w5 := Only.grown Hg4.out (fun k hk => hk)
      have hO9 := Lib.hid O9'
      have hz5 := O9'.size
      clear O9'
      have ham : ∀ q, (Value.slice Am M cm).ownBlock = some q → w4.heap.size ≤ q := fun q hq => (HMl.out.lt q hq).1
      have Ham := Lib.hid ham
      clear ham
      go_roundw
      case rel => exact ⟨k + 1, M + 1, v4, .slice Ag2 G.length cg2, rfl, Hk1, by omega, by go_num, Lib.hid (by rw [HSt.out]; show w5.ownsRow w4.heap.size 3 1 v4 (M + 1) (ints ((m ++ [0]).map Int.ofNat)); rw [Hsn.out]; exact Hown4.out), Lib.hid (by rw [HSt.out]; exact own_only HGl.out hO9.out (fun q hq e => own_ne_own HGl.out HMl.out (by decide) hq e)), Lib.hid ((hO9.out.block gx (blk_ltB HXl.out) (fun e => by have := Ham.out gx e; omega)).trans HXl.out), Lib.hid ((hO9.out.block gR (blk_ltB HRl.out) (fun e => by have := Ham.out gR e; omega)).trans HRl.out), Lib.hid (own_only HNl.out hO9.out (fun q hq e => by have h1 := HlN.out q hq; have h2 := Ham.out q e; omega)), Lib.hid (own_only HUl.out hO9.out (fun q hq e => own_ne_own HUl.out HMl.out (by decide) hq e)), Lib.hid (PCl.out.only hO9.out (fun e => by have := Ham.out gC e; omega)), by omega, Lib.hid (Only.below HBl.out hO9.out HBl.out.size (fun q hq => by have := Ham.out q hq; omega))⟩
      case measure => simp [intOf]; omega
     ·rw [hfl] at hd1
      rw [hfl, if_pos rfl] at HSt
      cases share
      ·rw [if_neg (by simp)] at HSt
       have hcs0 : ∃ cs, cs = cubes (Cir.gatesOf G) := ⟨_, rfl⟩
       obtain ⟨cs, hcs⟩ := hcs0
       have HGf : Hid (wr.ownsRow w4.heap.size 64 2 (.slice Ag2 G.length cg2) G.length cs) := Lib.hid (by rw [hcs]; exact HG'.out)
       have Hcs := Lib.hid hcs
       have hne : ¬ ((Value.slice Ag2 G.length cg2).ownBlock = some gx) := own_ne_tag HGf.out HX.out (by decide)
       have hneR : ¬ ((Value.slice Ag2 G.length cg2).ownBlock = some gR) := own_ne_tag HGf.out HR.out (by decide)
       have hneC : ¬ ((Value.slice Ag2 G.length cg2).ownBlock = some gC) := fun e => by have := (HGf.out.lt gC e).1; omega
       have hneb : ¬ ((Value.slice Ag2 G.length cg2).ownBlock = some bq) := fun e => by have h1 := (HGf.out.lt bq e).1; have h2 := hbl; omega
       have hbqz : bq < wr.heap.size := by omega
       have HBel : Hid (∀ w', Only (fun g => (Value.slice Ag2 G.length cg2).ownBlock = some g) wr w' → Below w.heap.size w w') := Lib.hid fun w' ho => Only.below HB.out ho HB.out.size (fun q hq => by have := (HGf.out.lt q hq).1; omega)
       obtain ⟨zz, p0, p1, p2, p3⟩ := PC.out
       clear HG' hcs HAnd
       go_wp2_with fail
       obtain ⟨i0, hi0, hz0, hz1, hz2⟩ := info_parts info_gate
       have hO := fun ops a => appRS2_ok (Pg := Try.prog) (ops := ops) (a := a) (news := [.int .i64 (y1 : Int), .int .i64 (y2 : Int)]) (d := 20) (HGf.out)
       refine wp_region_rsl (appRS2 Try.prog _ wr _ (w4.heap.size) 64 2 (Value.slice Ag2 G.length cg2) (G.length) (cs) [.int .i64 (y1 : Int), .int .i64 (y2 : Int)] 20) (hO _ _) (by kernel_rfl) (by kernel_rfl) (by kernel_rfl) 22 _ rfl rfl (by kernel_rfl) (show (20 : Nat) < 22 by decide) trivial HGf.out ?_
       apply rs_eq (hO _ _) (.inl (nnb rfl))
       ·intro ρ w' ho hK
        have ho : Only _ wr w' := ho
        obtain ⟨h0, -⟩ := hK
        have h0' : ρ (.tmp 6) = _ := h0
        go_simp
        try exact rfl
       apply rs_eq (hO _ _) (.inl (nnb rfl))
       ·intro ρ w' ho hK
        have ho : Only _ wr w' := ho
        obtain ⟨h0, -⟩ := hK
        have h0' : ρ (.tmp 77) = _ := h0
        have k2 := cell_on ho (fun e => hne e) hgxz (blk_cell HX.out 2)
        simp at k2
        have hP : PCells w' gC (d.ins : Int) (.slice An d.next.length cn) (.slice (some ⟨bq, o, none⟩) d.gates.length cg) (.slice Ao d.outs.length co) := PC.out.only ho (fun e => hneC e)
        obtain ⟨-, q0, q1, q2, q3⟩ := hP
        have c1 := (World.cell?_of_block (a := ⟨bq, o + k * 2, none⟩) (ho.block bq hbqz (fun e => hneb e))).trans hs1
        have c2 := (World.cell?_of_block (a := ⟨bq, o + k * 2 + 1, none⟩) (ho.block bq hbqz (fun e => hneb e))).trans hs2
        go_simp
        try exact rfl
       refine rs_old (hO _ _) (.inl (nnb rfl)) _ (.inl rfl) _ rfl rfl ?_
       apply rs_eq (hO _ _) (.inl (nnb rfl))
       ·intro ρ w' ho hK
        have ho : Only _ wr w' := ho
        obtain ⟨h0, -⟩ := hK
        have h0' : ρ (.tmp 2) = _ := h0
        go_simp
        try exact rfl
       apply rs_eq (hO _ _) (.inl (nnb rfl))
       ·intro ρ w' ho hK
        have ho : Only _ wr w' := ho
        obtain ⟨h0, -⟩ := hK
        have h0' : ρ (.tmp 80) = _ := h0
        have k2 := cell_on ho (fun e => hne e) hgxz (blk_cell HX.out 2)
        simp at k2
        have hP : PCells w' gC (d.ins : Int) (.slice An d.next.length cn) (.slice (some ⟨bq, o, none⟩) d.gates.length cg) (.slice Ao d.outs.length co) := PC.out.only ho (fun e => hneC e)
        obtain ⟨-, q0, q1, q2, q3⟩ := hP
        have c1 := (World.cell?_of_block (a := ⟨bq, o + k * 2, none⟩) (ho.block bq hbqz (fun e => hneb e))).trans hs1
        have c2 := (World.cell?_of_block (a := ⟨bq, o + k * 2 + 1, none⟩) (ho.block bq hbqz (fun e => hneb e))).trans hs2
        go_simp
        try exact rfl
       refine rs_old (hO _ _) (.inl (nnb rfl)) _ (.inl rfl) _ rfl rfl ?_
       apply rs_eq (hO _ _) (.inl (nnb rfl))
       ·intro ρ w' ho hK
        have ho : Only _ wr w' := ho
        obtain ⟨h0, h1, -⟩ := hK
        have h0' : ρ (.tmp 81) = _ := h0
        have h1' : ρ (.tmp 82) = _ := h1
        go_simp
        try exact rfl
       apply rs_eq (hO _ _) (.inl (nnb rfl))
       ·intro ρ w' ho hK
        have ho : Only _ wr w' := ho
        obtain ⟨h0, -⟩ := hK
        have h0' : ρ (.tmp 83) = _ := h0
        go_simp
        try exact rfl
       apply rs_eq (hO _ _) (.inl (nnb rfl))
       ·intro ρ w' ho hK
        have ho : Only _ wr w' := ho
        obtain ⟨h0, -⟩ := hK
        have h0' : ρ (.tmp 84) = _ := h0
        have k2 := cell_on ho (fun e => hne e) hgxz (blk_cell HX.out 2)
        simp at k2
        have hP : PCells w' gC (d.ins : Int) (.slice An d.next.length cn) (.slice (some ⟨bq, o, none⟩) d.gates.length cg) (.slice Ao d.outs.length co) := PC.out.only ho (fun e => hneC e)
        obtain ⟨-, q0, q1, q2, q3⟩ := hP
        have c1 := (World.cell?_of_block (a := ⟨bq, o + k * 2, none⟩) (ho.block bq hbqz (fun e => hneb e))).trans hs1
        have c2 := (World.cell?_of_block (a := ⟨bq, o + k * 2 + 1, none⟩) (ho.block bq hbqz (fun e => hneb e))).trans hs2
        go_simp
        try exact rfl
       refine rs_call (hO _ _) (.inl (nnb rfl)) (TEq (.int .i64 ((y1 : Nat) : Int))) (stb_eq _ _) 125 _ _ rfl (fun ρ w' ho hK => by
        have ho : Only _ wr w' := ho
        obtain ⟨h0, h1, h2, -⟩ := hK
        have h0' : ρ (.func 125) = .func (.func 125) #[] #[] := h0
        have h1' : ρ (.tmp 79) = _ := h1
        have h2' : ρ (.tmp 85) = _ := h2
        refine ⟨#[ρ (.tmp 79), ρ (.tmp 85)], ?_, ?_⟩
        ·go_simp
        ·rw [h1', h2']
         refine (HMap.out w' x1 (own_only HM'.out ho (fun q hq e => HnGM.out q e hq)) e1' hx1b).mono ?_
         rintro e w2 ⟨rfl, hb⟩
         exact ⟨_, rfl, by rw [Hy1.out]; rfl, hb⟩) ?_
       refine rs_old (hO _ _) (.inl (nnb rfl)) _ (.inl rfl) _ rfl rfl ?_
       apply rs_eq (hO _ _) (.inl (nnb rfl))
       ·intro ρ w' ho hK
        have ho : Only _ wr w' := ho
        obtain ⟨h0, -⟩ := hK
        have h0' : ρ (.tmp 2) = _ := h0
        go_simp
        try exact rfl
       apply rs_eq (hO _ _) (.inl (nnb rfl))
       ·intro ρ w' ho hK
        have ho : Only _ wr w' := ho
        obtain ⟨h0, -⟩ := hK
        have h0' : ρ (.tmp 88) = _ := h0
        have k2 := cell_on ho (fun e => hne e) hgxz (blk_cell HX.out 2)
        simp at k2
        have hP : PCells w' gC (d.ins : Int) (.slice An d.next.length cn) (.slice (some ⟨bq, o, none⟩) d.gates.length cg) (.slice Ao d.outs.length co) := PC.out.only ho (fun e => hneC e)
        obtain ⟨-, q0, q1, q2, q3⟩ := hP
        have c1 := (World.cell?_of_block (a := ⟨bq, o + k * 2, none⟩) (ho.block bq hbqz (fun e => hneb e))).trans hs1
        have c2 := (World.cell?_of_block (a := ⟨bq, o + k * 2 + 1, none⟩) (ho.block bq hbqz (fun e => hneb e))).trans hs2
        go_simp
        try exact rfl
       refine rs_old (hO _ _) (.inl (nnb rfl)) _ (.inl rfl) _ rfl rfl ?_
       apply rs_eq (hO _ _) (.inl (nnb rfl))
       ·intro ρ w' ho hK
        have ho : Only _ wr w' := ho
        obtain ⟨h0, h1, -⟩ := hK
        have h0' : ρ (.tmp 89) = _ := h0
        have h1' : ρ (.tmp 90) = _ := h1
        go_simp
        try exact rfl
       apply rs_eq (hO _ _) (.inl (nnb rfl))
       ·intro ρ w' ho hK
        have ho : Only _ wr w' := ho
        obtain ⟨h0, -⟩ := hK
        have h0' : ρ (.tmp 91) = _ := h0
        go_simp
        try exact rfl
       apply rs_eq (hO _ _) (.inl (nnb rfl))
       ·intro ρ w' ho hK
        have ho : Only _ wr w' := ho
        obtain ⟨h0, -⟩ := hK
        have h0' : ρ (.tmp 92) = _ := h0
        have k2 := cell_on ho (fun e => hne e) hgxz (blk_cell HX.out 2)
        simp at k2
        have hP : PCells w' gC (d.ins : Int) (.slice An d.next.length cn) (.slice (some ⟨bq, o, none⟩) d.gates.length cg) (.slice Ao d.outs.length co) := PC.out.only ho (fun e => hneC e)
        obtain ⟨-, q0, q1, q2, q3⟩ := hP
        have c1 := (World.cell?_of_block (a := ⟨bq, o + k * 2, none⟩) (ho.block bq hbqz (fun e => hneb e))).trans hs1
        have c2 := (World.cell?_of_block (a := ⟨bq, o + k * 2 + 1, none⟩) (ho.block bq hbqz (fun e => hneb e))).trans hs2
        go_simp
        try exact rfl
       refine rs_call (hO _ _) (.inl (nnb rfl)) (TEq (.int .i64 ((y2 : Nat) : Int))) (stb_eq _ _) 125 _ _ rfl (fun ρ w' ho hK => by
        have ho : Only _ wr w' := ho
        obtain ⟨h0, h1, h2, -⟩ := hK
        have h0' : ρ (.func 125) = .func (.func 125) #[] #[] := h0
        have h1' : ρ (.tmp 87) = _ := h1
        have h2' : ρ (.tmp 93) = _ := h2
        refine ⟨#[ρ (.tmp 87), ρ (.tmp 93)], ?_, ?_⟩
        ·go_simp
        ·rw [h1', h2']
         refine (HMap.out w' x2 (own_only HM'.out ho (fun q hq e => HnGM.out q e hq)) e2' hx2b).mono ?_
         rintro e w2 ⟨rfl, hb⟩
         exact ⟨_, rfl, by rw [Hy2.out]; rfl, hb⟩) ?_
       apply rs_eq (hO _ _) (.inl (nnb rfl))
       ·intro ρ w' ho hK
        have ho : Only _ wr w' := ho
        obtain ⟨h0, h1, -⟩ := hK
        have h0' : ρ (.tmp 86) = _ := h0
        have h1' : ρ (.tmp 94) = _ := h1
        go_simp
        try exact rfl
       refine rs_build1 (hO _ _) (.inl (nnb rfl)) 2 [.int .i64 (y1 : Int), .int .i64 (y2 : Int)] 64 rfl (fun ρ w' ho hK => by
        have ho : Only _ wr w' := ho
        obtain ⟨h0, -⟩ := hK
        have h0' : ρ (.tmp 95) = _ := h0
        go_simp) ?_
       refine rs_append2 rfl (w4.heap.size) 64 24 2 (Value.slice Ag2 G.length cg2) (G.length) (cs) _ rfl rfl (fun g hg => hg) (show w4.heap.size ≤ wr.heap.size by omega) _ _ rfl _ _ rfl rfl rfl rfl i0 _ 16 Try.underlying24 hi0 hz0 hz1 hz2 rfl (by decide) (by omega) (by decide) (by simp [Value.oneCell']) ?_
       apply rs_eq (hO _ _) (.inl (nnb rfl))
       ·intro ρ w' ho hK
        have ho : Only _ wr w' := ho
        obtain ⟨h0, -⟩ := hK
        have h0' : ρ (.tmp 6) = _ := h0
        go_simp
        try exact rfl
       intro f w9 k9 hk9 hI9 ht9 hcp9
       have E0 : f 0 = _ := ht9 0 (nlb rfl)
       have E1 : f 1 = _ := ht9 1 (nlb rfl)
       have E2 : f 2 = _ := ht9 2 (nlb rfl)
       conv at E2 => rhs; whnf
       have E3 : f 3 = _ := ht9 3 (nlb rfl)
       have E4 : f 4 = _ := ht9 4 (nlb rfl)
       have E5 : f 5 = _ := ht9 5 (nlb rfl)
       conv at E5 => rhs; whnf
       have E6 : f 6 = _ := ht9 6 (nlb rfl)
       have E7 : f 7 = _ := ht9 7 (nlb rfl)
       have E8 : f 8 = _ := ht9 8 (nlb rfl)
       have E9 : f 9 = _ := ht9 9 (nlb rfl)
       have E10 : f 10 = _ := ht9 10 (nlb rfl)
       conv at E10 => rhs; whnf
       have E11 : f 11 = _ := ht9 11 (nlb rfl)
       have E12 : f 12 = _ := ht9 12 (nlb rfl)
       have E13 : f 13 = _ := ht9 13 (nlb rfl)
       conv at E13 => rhs; whnf
       have E14 : f 14 = _ := ht9 14 (nlb rfl)
       have E15 : f 15 = _ := ht9 15 (nlb rfl)
       have E16 : f 16 = _ := ht9 16 (nlb rfl)
       have E17 : f 17 = _ := ht9 17 (nlb rfl)
       have E18 : f 18 = _ := ht9 18 (nlb rfl)
       have E19 : (TNew _ 2 1 [.int .i64 (y1 : Int), .int .i64 (y2 : Int)]) w9 (f 19) := ht9 19 (nlb rfl)
       have E20 : (TAny) w9 (f 20) := ht9 20 (nlb rfl)
       have E21 : f 21 = _ := ht9 21 (nlb rfl)
       have Ho9 : Only _ wr w9 := hI9.2.1
       have hown9 : w9.ownsRow (w4.heap.size) 64 2 (f 20) (G.length + 1) (cs ++ [.int .i64 (y1 : Int), .int .i64 (y2 : Int)]) := hI9.2.2.1
       have hat9 : ∀ g, (f 20).ownBlock = some g → (Value.slice Ag2 G.length cg2).ownBlock = some g ∨ wr.heap.size ≤ g := hI9.2.2.2
       simp only [putAll, E0, E1, E2, E3, E4, E5, E6, E7, E8, E9, E10, E11, E12, E13, E14, E15, E16, E17, E18, E21, Nat.zero_add, Nat.reduceAdd, Act.put, List.setIfInBounds_toArray, List.set_cons_succ, List.set_cons_zero, List.take, List.getElem_toArray, List.getElem_cons_succ, List.getElem_cons_zero]
       clear E0 E1 E2 E3 E4 E5 E6 E7 E8 E9 E10 E11 E12 E13 E14 E15 E16 E17 E18 E21
       clear hI9 ht9 hcp9 hk9
       generalize f 19 = r19 at *
       generalize f 20 = r20 at *
       have O9 : Only (fun g => (Value.slice Ag2 G.length cg2).ownBlock = some g) wr w9 := Ho9
       have hX9 := (O9.block gx hgxz hne).trans HX.out
       have HR9 := Lib.hid ((O9.block gR hgRz hneR).trans HR.out)
       have HN9 := Lib.hid (own_only HN.out O9 (fun q hq e => own_ne_own HN.out HGf.out (by decide) hq e))
       have HU9 := Lib.hid (own_only HU.out O9 (fun q hq e => own_ne_own HU.out HGf.out (by decide) hq e))
       have HM9 := Lib.hid (own_only HM'.out O9 (fun q hq e => HnGM.out q e hq))
       have PC9 := Lib.hid (PC.out.only O9 hneC)
       have HB9 := Lib.hid (HBel.out w9 O9)
       obtain ⟨A9, c9, hv9⟩ := slice_of_own hown9
       subst hv9
       have q1 := blk_cell hX9 2
       have f1 := blk_free hX9 2
       simp at q1
       have hz9 := O9.size
       have hx10 := heap_setCell_same w9 gx 2 _ _ (.slice A9 (G.length + 1) c9) hX9
       simp at hx10
       have HX5 : Hid ((w9.setCell ⟨gx, 2, none⟩ (.slice A9 (G.length + 1) c9)).heap[gx]? = some (.cells #[.int .i64 (d.ins : Int), .slice AN d.next.length cN, .slice A9 (G.length + 1) c9, .slice none 0 0] 26 (0, 0))) := Lib.hid hx10
       have hOs := set1_only w9 gx 2 (.slice A9 (G.length + 1) c9)
       have HG5 : Hid ((w9.setCell ⟨gx, 2, none⟩ (.slice A9 (G.length + 1) c9)).ownsRow w4.heap.size 64 2 (.slice A9 (G.length + 1) c9) (G.length + 1) (cubes (Cir.gatesOf ((y1, y2) :: G)))) := Lib.hid (by
        have e : cubes (Cir.gatesOf ((y1, y2) :: G)) = cs ++ [.int .i64 (y1 : Int), .int .i64 (y2 : Int)] := by rw [Hcs.out, Cir.gatesOf_cons]; unfold cubes; rw [List.flatMap_append]; rfl
        rw [e]
        exact own_only hown9 hOs (fun g hg e => own_ne_tag hown9 hX9 (by decide) (by rw [hg, e])))
       have HR5 := Lib.hid ((hOs.block gR (blk_ltB HR9.out) (by omega)).trans HR9.out)
       have HN5 := Lib.hid (own_only HN9.out hOs (fun g hg e => own_ne_tag HN9.out hX9 (by decide) (by rw [hg, e])))
       have HU5 := Lib.hid (own_only HU9.out hOs (fun g hg e => own_ne_tag HU9.out hX9 (by decide) (by rw [hg, e])))
       have HM5 := Lib.hid (own_only HM9.out hOs (fun g hg e => own_ne_tag HM9.out hX9 (by decide) (by rw [hg, e])))
       have PC5 := Lib.hid (PC9.out.only hOs (by omega))
       have HB5 := Lib.hid (Only.below HB9.out hOs HB9.out.size (fun k hk => by omega))
       obtain ⟨W6, hW6⟩ : ∃ W6, w9.setCell ⟨gx, 2, none⟩ (.slice A9 (G.length + 1) c9) = W6 := ⟨_, rfl⟩
       rw [hW6] at HX5 HG5 HR5 HN5 HU5 HM5 PC5 HB5 hOs
       have hz6 := hOs.size
       clear Ho9 O9 hX9 HR9 HN9 HU9 HM9 PC9 HB9 hown9 hat9 hO hx10 hOs HMap HM' HN HU HX HR HGf PC HB HBel hne hneR hneC hneb zz p0 p1 p2 p3 Hcs hs1 hs2
       go_wp2_with fail
       clear hW6 q1 f1
       have hgx6 := blk_ltB HX5.out
       have hGl15 : G.length ≤ 100 := by omega
       have HCx : Hid (∀ w', Below W6.heap.size W6 w' → CircAt w' (.agg #[.int .i64 (d.ins : Int), .slice AN d.next.length cN, .slice A9 (G.length + 1) c9, .slice none 0 0]) ⟨d.ins, (Cir.toCz d).next, Cir.gatesOf ((y1, y2) :: G), []⟩) := Lib.hid fun w' hb => ⟨_, _, _, rfl, by
         have h := Row.of_own (own_below HN5.out hb)
         unfold IntsAt
         rw [show (Cir.toCz d).next.length = d.next.length from List.length_map _]
         exact h, by
         have h := Row.of_own (own_below HG5.out hb)
         unfold CubesAt
         rw [show (Cir.gatesOf ((y1, y2) :: G)).length = G.length + 1 from by rw [Cir.gatesOf_length]; rfl]
         exact h, Row.nil _ _⟩
       have hw1 : IntKind.i64.wrap ((F : Int) + ((G.length : Int) + 1)) = (F : Int) + (G.length + 1) := IntWalk.i64_in _ (by omega)
       have hw2 : IntKind.i64.wrap ((F : Int) + ((G.length : Int) + 1) - 1) = (F : Int) + G.length := by rw [IntWalk.i64_in _ (by omega)]; omega
       have hw3 : IntKind.i64.wrap (2 * ((F : Int) + (G.length : Int))) = ((2 * (F + G.length) : Nat) : Int) := by rw [IntWalk.i64_in _ (by omega)]; omega
       refine wp_region_rs (quietRS Try.prog _ W6 _) quietRS_ok (by kernel_rfl) (by kernel_rfl) (by kernel_rfl) (nlb rfl) trivial trivial ?_
       apply rs_eq quietRS_ok quiet_any
       ·intro ρ w' ho hK
        have ho : Only _ W6 w' := ho
        obtain ⟨h0, -⟩ := hK
        have h0' : ρ (.tmp 6) = _ := h0
        have hXq := ((only_below ho).block gx hgx6).trans HX5.out
        have k0 := blk_cell hXq 0
        have k1 := blk_cell hXq 1
        have k2 := blk_cell hXq 2
        have k3 := blk_cell hXq 3
        simp at k0 k1 k2 k3
        go_simp
        try exact rfl
       refine rs_call quietRS_ok quiet_any (TEq (.int .i64 (F : Int))) (stb_eq _ _) 43 _ _ rfl (fun ρ w' ho hK => by
        have ho : Only _ W6 w' := ho
        obtain ⟨h0, h1, -⟩ := hK
        have h0' : ρ (.func 43) = .func (.func 43) #[] #[] := h0
        have h1' : ρ (.tmp 99) = _ := h1
        refine ⟨#[ρ (.tmp 99)], ?_, ?_⟩
        ·go_simp
        ·rw [h1']
         refine (HFi.out w' _ _ (HCx.out w' (only_below ho))).mono ?_
         rintro e w2 ⟨rfl, hb⟩
         exact ⟨_, rfl, rfl, hb⟩) ?_
       apply rs_eq quietRS_ok quiet_any
       ·intro ρ w' ho hK
        have ho : Only _ W6 w' := ho
        obtain ⟨h0, -⟩ := hK
        have h0' : ρ (.tmp 6) = _ := h0
        go_simp
        try exact rfl
       apply rs_eq quietRS_ok quiet_any
       ·intro ρ w' ho hK
        have ho : Only _ W6 w' := ho
        obtain ⟨h0, -⟩ := hK
        have h0' : ρ (.tmp 101) = _ := h0
        have hXq := ((only_below ho).block gx hgx6).trans HX5.out
        have k0 := blk_cell hXq 0
        have k1 := blk_cell hXq 1
        have k2 := blk_cell hXq 2
        have k3 := blk_cell hXq 3
        simp at k0 k1 k2 k3
        go_simp
        try exact rfl
       apply rs_eq quietRS_ok quiet_any
       ·intro ρ w' ho hK
        have ho : Only _ W6 w' := ho
        obtain ⟨h0, -⟩ := hK
        have h0' : ρ (.tmp 102) = _ := h0
        go_simp
        try exact rfl
       apply rs_eq quietRS_ok quiet_any
       ·intro ρ w' ho hK
        have ho : Only _ W6 w' := ho
        obtain ⟨h0, h1, -⟩ := hK
        have h0' : ρ (.tmp 100) = _ := h0
        have h1' : ρ (.tmp 103) = _ := h1
        go_simp
        try exact rfl
       apply rs_eq quietRS_ok quiet_any
       ·intro ρ w' ho hK
        have ho : Only _ W6 w' := ho
        obtain ⟨h0, h1, -⟩ := hK
        have h0' : ρ (.tmp 104) = _ := h0
        have h1' : ρ (.const (Value.int IntKind.i64 1)) = (Value.int IntKind.i64 1) := h1
        go_simp
        try exact rfl
       apply rs_eq quietRS_ok quiet_any
       ·intro ρ w' ho hK
        have ho : Only _ W6 w' := ho
        obtain ⟨h0, h1, -⟩ := hK
        have h0' : ρ (.const (Value.int IntKind.i64 2)) = (Value.int IntKind.i64 2) := h0
        have h1' : ρ (.tmp 105) = _ := h1
        go_simp
        try exact rfl
       refine rs_same quietRS_ok quiet_any 106 7 (.inr rfl) rfl _ rfl ?_
       intro f w9 k9 hk9 hI9 ht9 hcp9
       have E0 : f 0 = _ := ht9 0 (nlb rfl)
       have E1 : f 1 = _ := ht9 1 (nlb rfl)
       have E2 : f 2 = _ := ht9 2 (nlb rfl)
       have E3 : f 3 = _ := ht9 3 (nlb rfl)
       have E4 : f 4 = _ := ht9 4 (nlb rfl)
       have E5 : f 5 = _ := ht9 5 (nlb rfl)
       have E6 : f 6 = _ := ht9 6 (nlb rfl)
       have E7 : f 7 = _ := ht9 7 (nlb rfl)
       have E8 : f 8 = _ := ht9 8 (nlb rfl)
       have Ho9 : Only _ W6 w9 := hI9.2.1
       simp only [putAll, E0, E1, E2, E3, E4, E5, E6, E7, E8, Nat.zero_add, Nat.reduceAdd, Act.put, List.setIfInBounds_toArray, List.set_cons_succ, List.set_cons_zero]
       clear E0 E1 E2 E3 E4 E5 E6 E7 E8
       clear hI9 ht9 hcp9 hk9
       have hb9 := only_below Ho9
       replace HM5 := Lib.hid (own_below HM5.out hb9)
       replace HN5 := Lib.hid (own_below HN5.out hb9)
       replace HU5 := Lib.hid (own_below HU5.out hb9)
       replace HG5 := Lib.hid (own_below HG5.out hb9)
       replace HX5 := Lib.hid ((hb9.block gx hgx6).trans HX5.out)
       replace HR5 := Lib.hid ((hb9.block gR (blk_ltB HR5.out)).trans HR5.out)
       replace PC5 := Lib.hid (PC5.out.below hb9)
       replace HB5 := Lib.hid (HB5.out.trans (hb9.mono HB5.out.size))
       have hz7 := hb9.size
       clear Ho9 hb9 HCx hgx6
       obtain ⟨l, hl⟩ : ∃ l, l = 2 * (F + G.length) := ⟨_, rfl⟩
       have hl' : 2 * ((F : Int) + (G.length : Int)) = (l : Int) := by omega
       rw [← hl] at HSt
       rw [hl']
       clear hl hl' hw1 hw2 hw3
       have hbl := bel_new w9 (.cells #[.int .i64 ((l : Nat) : Int)] 3)
       have hzl : (w9.alloc (.cells #[.int .i64 ((l : Nat) : Int)] 3)).heap.size = w9.heap.size + 1 := by simp
       have Hlit := Lib.hid (Row.of_own (World.ownsRow_lit (base := w9.heap.size) (e := 3) (size := 1) w9 #[.int .i64 ((l : Nat) : Int)] 1 (Nat.le_refl _) (by unfold maxLen; omega) rfl))
       have HMl := Lib.hid (own_below HM5.out hbl)
       have HNl := Lib.hid (own_below HN5.out hbl)
       have HUl := Lib.hid (own_below HU5.out hbl)
       have HGl := Lib.hid (own_below HG5.out hbl)
       have HXl := Lib.hid ((hbl.block gx (blk_ltB HX5.out)).trans HX5.out)
       have HRl := Lib.hid ((hbl.block gR (blk_ltB HR5.out)).trans HR5.out)
       have PCl := Lib.hid (PC5.out.below hbl)
       have HBl := Lib.hid (HB5.out.trans (hbl.mono HB5.out.size))
       have Hsn : Hid (ints (List.map Int.ofNat (m ++ [l])) = ints (m.map Int.ofNat) ++ [Value.int .i64 ((l : Nat) : Int)]) := Lib.hid (by unfold ints; rw [List.map_append, List.map_append]; rfl)
       generalize ints (m.map Int.ofNat) = cs9 at *
       clear hbl HM5 HN5 HU5 HG5 HX5 HR5 PC5 HB5
       go_wp2_with (at_builtin; refine append_ints rfl (.tmp 107) (.tmp 109) rfl w4.heap.size (.slice Am M cm) M cs9 rfl HMl.out _ 1 [.int .i64 ((l : Nat) : Int)] rfl Hlit.out (by simp [Value.oneCell']) (by omega) (by omega) ?_; intro v4 w5 hown4 hg4 hat4; have Hown4 := Lib.hid hown4; have Hg4 := Lib.hid hg4; clear hown4 hg4 hat4)
       have O9' : Only (fun q => (Value.slice Am M cm).ownBlock = some q) _ w5 := Only.grown Hg4.out (fun k hk => hk)
       have hO9 := Lib.hid O9'
       have hz5 := O9'.size
       clear O9'
       have ham : ∀ q, (Value.slice Am M cm).ownBlock = some q → w4.heap.size ≤ q := fun q hq => (HMl.out.lt q hq).1
       have Ham := Lib.hid ham
       clear ham
       go_roundw
       case rel => exact ⟨k + 1, M + 1, v4, .slice A9 (G.length + 1) c9, rfl, Hk1, by omega, by go_num, Lib.hid (by rw [HSt.out]; show w5.ownsRow w4.heap.size 3 1 v4 (M + 1) (ints ((m ++ [l]).map Int.ofNat)); rw [Hsn.out]; exact Hown4.out), Lib.hid (by rw [HSt.out]; exact own_only HGl.out hO9.out (fun q hq e => own_ne_own HGl.out HMl.out (by decide) hq e)), Lib.hid ((hO9.out.block gx (blk_ltB HXl.out) (fun e => by have := Ham.out gx e; omega)).trans HXl.out), Lib.hid ((hO9.out.block gR (blk_ltB HRl.out) (fun e => by have := Ham.out gR e; omega)).trans HRl.out), Lib.hid (own_only HNl.out hO9.out (fun q hq e => by have h1 := HlN.out q hq; have h2 := Ham.out q e; omega)), Lib.hid (own_only HUl.out hO9.out (fun q hq e => own_ne_own HUl.out HMl.out (by decide) hq e)), Lib.hid (PCl.out.only hO9.out (fun e => by have := Ham.out gC e; omega)), by omega, Lib.hid (Only.below HBl.out hO9.out HBl.out.size (fun q hq => by have := Ham.out q hq; omega))⟩
       case measure => simp [intOf]; omega
      ·rw [if_pos rfl] at HSt
       have HGt : Hid (wr.ownsRow 0 64 2 (.slice Ag2 G.length cg2) G.length (cubes (Cir.gatesOf G))) := HG'
       generalize Cir.andB F G y1 y2 = res at *
       obtain ⟨z, p0, p1, p2, p3⟩ := PC.out
       clear HG' hfl
       go_wp2_with fail
       refine wp_region_rsx (quietRS Try.prog _ wr _) quietRS_ok (by kernel_rfl) (by kernel_rfl) (by kernel_rfl) 22 20 _ _ _ rfl rfl rfl rfl (by decide) _ _ _ _ _ _ rfl rfl rfl rfl rfl rfl (by kernel_rfl) (by kernel_rfl) (show (0 : Nat) < 22 by decide) trivial trivial ?_
       apply rs_eq quietRS_ok quiet_any
       ·intro ρ w' ho hK
        have ho : Only _ wr w' := ho
        obtain ⟨h0, -⟩ := hK
        have h0' : ρ (.tmp 6) = _ := h0
        obtain ⟨-, q0, q1, q2, q3⟩ := PC.out.below (only_below ho)
        have c1 := ((only_below ho).cell (p := ⟨bq, o + k * 2, none⟩) (by have := hbl; have := HB.out.size; simp only; omega)).trans hs1
        have c2 := ((only_below ho).cell (p := ⟨bq, o + k * 2 + 1, none⟩) (by have := hbl; have := HB.out.size; simp only; omega)).trans hs2
        have hXq := ((only_below ho).block gx hgxz).trans HX.out
        have k0 := blk_cell hXq 0
        have k1 := blk_cell hXq 1
        have k2 := blk_cell hXq 2
        have k3 := blk_cell hXq 3
        simp at k0 k1 k2 k3
        go_simp
        try exact rfl
       refine rs_old quietRS_ok quiet_any _ (.inl rfl) _ rfl rfl ?_
       apply rs_eq quietRS_ok quiet_any
       ·intro ρ w' ho hK
        have ho : Only _ wr w' := ho
        obtain ⟨h0, -⟩ := hK
        have h0' : ρ (.tmp 2) = _ := h0
        go_simp
        try exact rfl
       apply rs_eq quietRS_ok quiet_any
       ·intro ρ w' ho hK
        have ho : Only _ wr w' := ho
        obtain ⟨h0, -⟩ := hK
        have h0' : ρ (.tmp 53) = _ := h0
        obtain ⟨-, q0, q1, q2, q3⟩ := PC.out.below (only_below ho)
        have c1 := ((only_below ho).cell (p := ⟨bq, o + k * 2, none⟩) (by have := hbl; have := HB.out.size; simp only; omega)).trans hs1
        have c2 := ((only_below ho).cell (p := ⟨bq, o + k * 2 + 1, none⟩) (by have := hbl; have := HB.out.size; simp only; omega)).trans hs2
        have hXq := ((only_below ho).block gx hgxz).trans HX.out
        have k0 := blk_cell hXq 0
        have k1 := blk_cell hXq 1
        have k2 := blk_cell hXq 2
        have k3 := blk_cell hXq 3
        simp at k0 k1 k2 k3
        go_simp
        try exact rfl
       refine rs_old quietRS_ok quiet_any _ (.inl rfl) _ rfl rfl ?_
       apply rs_eq quietRS_ok quiet_any
       ·intro ρ w' ho hK
        have ho : Only _ wr w' := ho
        obtain ⟨h0, h1, -⟩ := hK
        have h0' : ρ (.tmp 54) = _ := h0
        have h1' : ρ (.tmp 55) = _ := h1
        go_simp
        try exact rfl
       apply rs_eq quietRS_ok quiet_any
       ·intro ρ w' ho hK
        have ho : Only _ wr w' := ho
        obtain ⟨h0, -⟩ := hK
        have h0' : ρ (.tmp 56) = _ := h0
        go_simp
        try exact rfl
       apply rs_eq quietRS_ok quiet_any
       ·intro ρ w' ho hK
        have ho : Only _ wr w' := ho
        obtain ⟨h0, -⟩ := hK
        have h0' : ρ (.tmp 57) = _ := h0
        obtain ⟨-, q0, q1, q2, q3⟩ := PC.out.below (only_below ho)
        have c1 := ((only_below ho).cell (p := ⟨bq, o + k * 2, none⟩) (by have := hbl; have := HB.out.size; simp only; omega)).trans hs1
        have c2 := ((only_below ho).cell (p := ⟨bq, o + k * 2 + 1, none⟩) (by have := hbl; have := HB.out.size; simp only; omega)).trans hs2
        have hXq := ((only_below ho).block gx hgxz).trans HX.out
        have k0 := blk_cell hXq 0
        have k1 := blk_cell hXq 1
        have k2 := blk_cell hXq 2
        have k3 := blk_cell hXq 3
        simp at k0 k1 k2 k3
        go_simp
        try exact rfl
       refine rs_call quietRS_ok quiet_any (TEq (.int .i64 ((y1 : Nat) : Int))) (stb_eq _ _) 125 _ _ rfl (fun ρ w' ho hK => by
        have ho : Only _ wr w' := ho
        obtain ⟨h0, h1, h2, -⟩ := hK
        have h0' : ρ (.func 125) = .func (.func 125) #[] #[] := h0
        have h1' : ρ (.tmp 52) = _ := h1
        have h2' : ρ (.tmp 58) = _ := h2
        refine ⟨#[ρ (.tmp 52), ρ (.tmp 58)], ?_, ?_⟩
        ·go_simp
        ·rw [h1', h2']
         refine (HMap.out w' x1 (own_below HM'.out (only_below ho)) e1' hx1b).mono ?_
         rintro e w2 ⟨rfl, hb⟩
         exact ⟨_, rfl, by rw [Hy1.out]; rfl, hb⟩) ?_
       refine rs_old quietRS_ok quiet_any _ (.inl rfl) _ rfl rfl ?_
       apply rs_eq quietRS_ok quiet_any
       ·intro ρ w' ho hK
        have ho : Only _ wr w' := ho
        obtain ⟨h0, -⟩ := hK
        have h0' : ρ (.tmp 2) = _ := h0
        go_simp
        try exact rfl
       apply rs_eq quietRS_ok quiet_any
       ·intro ρ w' ho hK
        have ho : Only _ wr w' := ho
        obtain ⟨h0, -⟩ := hK
        have h0' : ρ (.tmp 61) = _ := h0
        obtain ⟨-, q0, q1, q2, q3⟩ := PC.out.below (only_below ho)
        have c1 := ((only_below ho).cell (p := ⟨bq, o + k * 2, none⟩) (by have := hbl; have := HB.out.size; simp only; omega)).trans hs1
        have c2 := ((only_below ho).cell (p := ⟨bq, o + k * 2 + 1, none⟩) (by have := hbl; have := HB.out.size; simp only; omega)).trans hs2
        have hXq := ((only_below ho).block gx hgxz).trans HX.out
        have k0 := blk_cell hXq 0
        have k1 := blk_cell hXq 1
        have k2 := blk_cell hXq 2
        have k3 := blk_cell hXq 3
        simp at k0 k1 k2 k3
        go_simp
        try exact rfl
       refine rs_old quietRS_ok quiet_any _ (.inl rfl) _ rfl rfl ?_
       apply rs_eq quietRS_ok quiet_any
       ·intro ρ w' ho hK
        have ho : Only _ wr w' := ho
        obtain ⟨h0, h1, -⟩ := hK
        have h0' : ρ (.tmp 62) = _ := h0
        have h1' : ρ (.tmp 63) = _ := h1
        go_simp
        try exact rfl
       apply rs_eq quietRS_ok quiet_any
       ·intro ρ w' ho hK
        have ho : Only _ wr w' := ho
        obtain ⟨h0, -⟩ := hK
        have h0' : ρ (.tmp 64) = _ := h0
        go_simp
        try exact rfl
       apply rs_eq quietRS_ok quiet_any
       ·intro ρ w' ho hK
        have ho : Only _ wr w' := ho
        obtain ⟨h0, -⟩ := hK
        have h0' : ρ (.tmp 65) = _ := h0
        obtain ⟨-, q0, q1, q2, q3⟩ := PC.out.below (only_below ho)
        have c1 := ((only_below ho).cell (p := ⟨bq, o + k * 2, none⟩) (by have := hbl; have := HB.out.size; simp only; omega)).trans hs1
        have c2 := ((only_below ho).cell (p := ⟨bq, o + k * 2 + 1, none⟩) (by have := hbl; have := HB.out.size; simp only; omega)).trans hs2
        have hXq := ((only_below ho).block gx hgxz).trans HX.out
        have k0 := blk_cell hXq 0
        have k1 := blk_cell hXq 1
        have k2 := blk_cell hXq 2
        have k3 := blk_cell hXq 3
        simp at k0 k1 k2 k3
        go_simp
        try exact rfl
       refine rs_call quietRS_ok quiet_any (TEq (.int .i64 ((y2 : Nat) : Int))) (stb_eq _ _) 125 _ _ rfl (fun ρ w' ho hK => by
        have ho : Only _ wr w' := ho
        obtain ⟨h0, h1, h2, -⟩ := hK
        have h0' : ρ (.func 125) = .func (.func 125) #[] #[] := h0
        have h1' : ρ (.tmp 60) = _ := h1
        have h2' : ρ (.tmp 66) = _ := h2
        refine ⟨#[ρ (.tmp 60), ρ (.tmp 66)], ?_, ?_⟩
        ·go_simp
        ·rw [h1', h2']
         refine (HMap.out w' x2 (own_below HM'.out (only_below ho)) e2' hx2b).mono ?_
         rintro e w2 ⟨rfl, hb⟩
         exact ⟨_, rfl, by rw [Hy2.out]; rfl, hb⟩) ?_
       refine rs_call quietRS_ok quiet_any (TAggO 0 64 2 res.2.length (cubes (Cir.gatesOf res.2)) (fun u => .tuple #[.agg #[.int .i64 (d.ins : Int), .slice AN d.next.length cN, u, .slice none 0 0], .int .i64 (res.1 : Int)])) (stb_aggq _ _ _ _ _ _) 130 _ _ rfl (fun ρ w' ho hK => by
        have ho : Only _ wr w' := ho
        obtain ⟨h0, h1, h2, h3, -⟩ := hK
        have h0' : ρ (.func 130) = .func (.func 130) #[] #[] := h0
        have h1' : ρ (.tmp 51) = _ := h1
        have h2' : ρ (.tmp 59) = _ := h2
        have h3' : ρ (.tmp 67) = _ := h3
        refine ⟨#[ρ (.tmp 51), ρ (.tmp 59), ρ (.tmp 67)], ?_, ?_⟩
        ·go_simp
        ·rw [h1', h2', h3']
         refine (HAnd.out w' Ag2 cg2 (own_below HGt.out (only_below ho)) (own_below HN.out (only_below ho))).mono ?_
         rintro e w2 ⟨vg', rfl, ho', hb⟩
         obtain ⟨A, c, e⟩ := slice_of_own ho'
         subst e
         exact ⟨_, rfl, ⟨A, c, rfl, ho'⟩, hb⟩) ?_
       refine rs_same quietRS_ok quiet_any 68 17 (.inl rfl) rfl _ rfl ?_
       refine rs_look quietRS_ok quiet_any (TAggO 0 64 2 res.2.length (cubes (Cir.gatesOf res.2)) (fun u => .agg #[.int .i64 (d.ins : Int), .slice AN d.next.length cN, u, .slice none 0 0])) (stb_aggq _ _ _ _ _ _) (fun ρ w' ho hK => by
        obtain ⟨⟨A, c, h0, h1⟩, -⟩ := hK
        have h0' : ρ (.tmp 50) = .tuple #[.agg #[.int .i64 (d.ins : Int), .slice AN d.next.length cN, .slice A res.2.length c, .slice none 0 0], .int .i64 (res.1 : Int)] := h0
        refine ⟨.agg #[.int .i64 (d.ins : Int), .slice AN d.next.length cN, .slice A res.2.length c, .slice none 0 0], ?_, A, c, rfl, h1⟩
        go_simp) ?_
       apply rs_eq quietRS_ok quiet_any
       ·intro ρ w' ho hK
        have ho : Only _ wr w' := ho
        obtain ⟨h0, -⟩ := hK
        have h0' : (TAggO 0 64 2 res.2.length (cubes (Cir.gatesOf res.2)) (fun u => .tuple #[.agg #[.int .i64 (d.ins : Int), .slice AN d.next.length cN, u, .slice none 0 0], .int .i64 (res.1 : Int)])) w' (ρ (.tmp 50)) := h0
        obtain ⟨A, c, h1, -⟩ := h0'
        have h1' : ρ (.tmp 50) = .tuple #[.agg #[.int .i64 (d.ins : Int), .slice AN d.next.length cN, .slice A res.2.length c, .slice none 0 0], .int .i64 (res.1 : Int)] := h1
        go_simp
        try exact rfl
       refine rs_alloc quietRS_ok quiet_any (TBoxZ wr.heap.size #[.int .i64 0, .slice none 0 0, .slice none 0 0, .slice none 0 0] 26) (stb_boxz _ _ _) (fun ρ w' ho hK => by
        refine ⟨.pointer (some ⟨w'.heap.size, 0, none⟩), .cells #[.int .i64 0, .slice none 0 0, .slice none 0 0, .slice none 0 0] 26, ?_, ⟨_, rfl, ho.size, heap_alloc_new _ _⟩⟩
        go_simp) ?_
       intro f w9 k9 hk9 hI9 ht9 hcp9
       have E0 : f 0 = _ := ht9 0 (nlb rfl)
       have E1 : f 1 = _ := ht9 1 (nlb rfl)
       conv at E1 => rhs; whnf
       have E2 : f 2 = _ := ht9 2 (nlb rfl)
       have E3 : f 3 = _ := ht9 3 (nlb rfl)
       have E4 : f 4 = _ := ht9 4 (nlb rfl)
       conv at E4 => rhs; whnf
       have E5 : f 5 = _ := ht9 5 (nlb rfl)
       have E6 : f 6 = _ := ht9 6 (nlb rfl)
       have E7 : f 7 = _ := ht9 7 (nlb rfl)
       have E8 : f 8 = _ := ht9 8 (nlb rfl)
       have E9 : f 9 = _ := ht9 9 (nlb rfl)
       conv at E9 => rhs; whnf
       have E10 : f 10 = _ := ht9 10 (nlb rfl)
       have E11 : f 11 = _ := ht9 11 (nlb rfl)
       have E12 : f 12 = _ := ht9 12 (nlb rfl)
       conv at E12 => rhs; whnf
       have E13 : f 13 = _ := ht9 13 (nlb rfl)
       have E14 : f 14 = _ := ht9 14 (nlb rfl)
       have E15 : f 15 = _ := ht9 15 (nlb rfl)
       have E16 : f 16 = _ := ht9 16 (nlb rfl)
       have E17 : (TAggO 0 64 2 res.2.length (cubes (Cir.gatesOf res.2)) (fun u => .tuple #[.agg #[.int .i64 (d.ins : Int), .slice AN d.next.length cN, u, .slice none 0 0], .int .i64 (res.1 : Int)])) w9 (f 17) := ht9 17 (nlb rfl)
       have E18 : (TAggO 0 64 2 res.2.length (cubes (Cir.gatesOf res.2)) (fun u => .tuple #[.agg #[.int .i64 (d.ins : Int), .slice AN d.next.length cN, u, .slice none 0 0], .int .i64 (res.1 : Int)])) w9 (f 18) := ht9 18 (nlb rfl)
       have E19 : (TAggO 0 64 2 res.2.length (cubes (Cir.gatesOf res.2)) (fun u => .agg #[.int .i64 (d.ins : Int), .slice AN d.next.length cN, u, .slice none 0 0])) w9 (f 19) := ht9 19 (nlb rfl)
       have E20 : f 20 = _ := ht9 20 (nlb rfl)
       have E21 : (TBoxZ wr.heap.size #[.int .i64 0, .slice none 0 0, .slice none 0 0, .slice none 0 0] 26) w9 (f 21) := ht9 21 (nlb rfl)
       have Ho9 : Only _ wr w9 := hI9.2.1
       simp only [putAll, E0, E1, E2, E3, E4, E5, E6, E7, E8, E9, E10, E11, E12, E13, E14, E15, E16, E20, Nat.zero_add, Nat.reduceAdd, Act.put, List.setIfInBounds_toArray, List.set_cons_succ, List.set_cons_zero, List.take, List.getElem_toArray, List.getElem_cons_succ, List.getElem_cons_zero]
       clear E0 E1 E2 E3 E4 E5 E6 E7 E8 E9 E10 E11 E12 E13 E14 E15 E16 E20
       clear hI9 ht9 hcp9 hk9
       generalize f 17 = r17 at *
       generalize f 18 = r18 at *
       generalize f 19 = r19 at *
       generalize f 21 = r21 at *
       have hb9 := only_below Ho9
       obtain ⟨gy, e21, hgy, hk7⟩ : ∃ g', r21 = .pointer (some ⟨g', 0, none⟩) ∧ wr.heap.size ≤ g' ∧ w9.heap[g']? = some (.cells #[.int .i64 0, .slice none 0 0, .slice none 0 0, .slice none 0 0] 26 (0, 0)) := E21
       obtain ⟨A3, c3, e19, hG3⟩ : ∃ A c, r19 = .agg #[.int .i64 (d.ins : Int), .slice AN d.next.length cN, .slice A res.2.length c, .slice none 0 0] ∧ w9.ownsRow 0 64 2 (.slice A res.2.length c) res.2.length (cubes (Cir.gatesOf res.2)) := E19
       subst e21 e19
       refine ⟨_, run_store_rowX 26 (.tmp 11) (.tmp 69) rfl gy #[.int .i64 (d.ins : Int), .slice AN d.next.length cN, .slice A3 res.2.length c3, .slice none 0 0] rfl rfl 26 _ hk7 (by kernel_rfl) rfl (by simp [Value.oneCell']), ?_⟩
       have hY := setRow_heap w9 gy _ #[.int .i64 (d.ins : Int), .slice AN d.next.length cN, .slice A3 res.2.length c3, .slice none 0 0] _ _ hk7
       have hOY : Only (fun g => g = gy) w9 (w9.setRow gy #[.int .i64 (d.ins : Int), .slice AN d.next.length cN, .slice A3 res.2.length c3, .slice none 0 0]) := ⟨rfl, rfl, rfl, by simp, fun k hk hn => setRow_other _ _ _ _ hn⟩
       generalize w9.setRow gy #[.int .i64 (d.ins : Int), .slice AN d.next.length cN, .slice A3 res.2.length c3, .slice none 0 0] = W at *
       have hz9 : wr.heap.size ≤ w9.heap.size := hb9.size
       have hbY : Below wr.heap.size wr W := Only.below hb9 hOY hz9 (fun k hk => by omega)
       have HGY := Lib.hid (own_only hG3 hOY (fun g hg e => own_ne_tag hG3 hk7 (by decide) (by rw [hg, e])))
       have HMY := Lib.hid (own_below HM'.out hbY)
       have HNY := Lib.hid (own_below HN.out hbY)
       have HUY := Lib.hid (own_below HU.out hbY)
       have HXY := Lib.hid ((hbY.block gx hgxz).trans HX.out)
       have HRY := Lib.hid ((hbY.block gR hgRz).trans HR.out)
       have PCY := Lib.hid (PC.out.below hbY)
       have HBY := Lib.hid (HB.out.trans (hbY.mono HB.out.size))
       have hzY : wr.heap.size ≤ W.heap.size := hbY.size
       have hgyx : gy ≠ gx := by omega
       have y0 := blk_cell hY 0
       have y1' := blk_cell hY 1
       have y2' := blk_cell hY 2
       have y3 := blk_cell hY 3
       have x0 := blk_cell HXY.out 0
       have x1' := blk_cell HXY.out 1
       have x2' := blk_cell HXY.out 2
       have x3 := blk_cell HXY.out 3
       have f0 := blk_free HXY.out 0
       have f1 := blk_free HXY.out 1
       have f2 := blk_free HXY.out 2
       have f3 := blk_free HXY.out 3
       simp at y0 y1' y2' y3 x0 x1' x2' x3
       clear Ho9 hb9 hk7 hG3 hY hOY hbY E17 E18 HMap HAnd PC HB HM' HN HU HX HR HGt hs1 hs2 hd1 hf1 p0 p1 p2 p3 z
       have hOA := set4_only W gx (.int .i64 (d.ins : Int)) (.slice AN d.next.length cN) (.slice A3 res.2.length c3) (.slice none 0 0)
       have hXA := set4_heap (a := .int .i64 (d.ins : Int)) (b := .slice AN d.next.length cN) (c := .slice A3 res.2.length c3) (d := .slice none 0 0) HXY.out
       obtain ⟨W6, hW6⟩ : ∃ W6, ((((W.setCell ⟨gx, 0, none⟩ (.int .i64 (d.ins : Int))).setCell ⟨gx, 1, none⟩ (.slice AN d.next.length cN)).setCell ⟨gx, 2, none⟩ (.slice A3 res.2.length c3)).setCell ⟨gx, 3, none⟩ (.slice none 0 0)) = W6 := ⟨_, rfl⟩
       rw [hW6] at hOA hXA
       have HM5 := Lib.hid (own_only HMY.out hOA (fun g hg e => own_ne_tag HMY.out HXY.out (by decide) (by rw [hg, e])))
       have HN5 := Lib.hid (own_only HNY.out hOA (fun g hg e => own_ne_tag HNY.out HXY.out (by decide) (by rw [hg, e])))
       have HU5 := Lib.hid (own_only HUY.out hOA (fun g hg e => own_ne_tag HUY.out HXY.out (by decide) (by rw [hg, e])))
       have HG5 := Lib.hid (own_only HGY.out hOA (fun g hg e => own_ne_tag HGY.out HXY.out (by decide) (by rw [hg, e])))
       have HX5 := Lib.hid hXA
       have HR5 := Lib.hid ((hOA.block gR (blk_ltB HRY.out) (by omega)).trans HRY.out)
       have PC5 := Lib.hid (PCY.out.only hOA (by omega))
       have HB5 := Lib.hid (Only.below HBY.out hOA HBY.out.size (fun k hk => by omega))
       have hz6 := hOA.size
       clear hOA hXA HMY HNY HUY HGY HXY HRY PCY HBY
       have hbl := bel_new W6 (.cells #[.int .i64 ((res.1 : Nat) : Int)] 3)
       have hzl : (W6.alloc (.cells #[.int .i64 ((res.1 : Nat) : Int)] 3)).heap.size = W6.heap.size + 1 := by simp
       have Hlit := Lib.hid (Row.of_own (World.ownsRow_lit (base := W6.heap.size) (e := 3) (size := 1) W6 #[.int .i64 ((res.1 : Nat) : Int)] 1 (Nat.le_refl _) (by unfold maxLen; omega) rfl))
       have HMl := Lib.hid (own_below HM5.out hbl)
       have HNl := Lib.hid (own_below HN5.out hbl)
       have HUl := Lib.hid (own_below HU5.out hbl)
       have HGl := Lib.hid (own_below HG5.out hbl)
       have HXl := Lib.hid ((hbl.block gx (blk_ltB HX5.out)).trans HX5.out)
       have HRl := Lib.hid ((hbl.block gR (blk_ltB HR5.out)).trans HR5.out)
       have PCl := Lib.hid (PC5.out.below hbl)
       have HBl := Lib.hid (HB5.out.trans (hbl.mono HB5.out.size))
       have Hsn : Hid (ints (List.map Int.ofNat (m ++ [res.1])) = ints (m.map Int.ofNat) ++ [Value.int .i64 ((res.1 : Nat) : Int)]) := Lib.hid (by unfold ints; rw [List.map_append, List.map_append]; rfl)
       generalize ints (m.map Int.ofNat) = cs9 at *
       clear hbl HM5 HN5 HU5 HG5 HX5 HR5 PC5 HB5
       go_wp2_with (at_builtin; refine append_ints rfl (.tmp 107) (.tmp 109) rfl w4.heap.size (.slice Am M cm) M cs9 rfl HMl.out _ 1 [.int .i64 ((res.1 : Nat) : Int)] rfl Hlit.out (by simp [Value.oneCell']) (by omega) (by omega) ?_; intro v4 w5 hown4 hg4 hat4; have Hown4 := Lib.hid hown4; have Hg4 := Lib.hid hg4; clear hown4 hg4 hat4)
       have O9' : Only (fun q => (Value.slice Am M cm).ownBlock = some q) _ w5 := Only.grown Hg4.out (fun k hk => hk)
       have hO9 := Lib.hid O9'
       have hz5 := O9'.size
       clear O9'
       have ham : ∀ q, (Value.slice Am M cm).ownBlock = some q → w4.heap.size ≤ q := fun q hq => (HMl.out.lt q hq).1
       have Ham := Lib.hid ham
       clear ham
       go_roundw
       case rel => exact ⟨k + 1, M + 1, v4, .slice A3 res.2.length c3, rfl, Hk1, by omega, by go_num, Lib.hid (by rw [HSt.out]; show w5.ownsRow w4.heap.size 3 1 v4 (M + 1) (ints ((m ++ [res.1]).map Int.ofNat)); rw [Hsn.out]; exact Hown4.out), Lib.hid (by rw [HSt.out]; exact own_only HGl.out hO9.out (fun q hq e => own_ne_own HGl.out HMl.out (by decide) hq e)), Lib.hid ((hO9.out.block gx (blk_ltB HXl.out) (fun e => by have := Ham.out gx e; omega)).trans HXl.out), Lib.hid ((hO9.out.block gR (blk_ltB HRl.out) (fun e => by have := Ham.out gR e; omega)).trans HRl.out), Lib.hid (own_only HNl.out hO9.out (fun q hq e => by have h1 := HlN.out q hq; have h2 := Ham.out q e; omega)), Lib.hid (own_only HUl.out hO9.out (fun q hq e => own_ne_own HUl.out HMl.out (by decide) hq e)), Lib.hid (PCl.out.only hO9.out (fun e => by have := Ham.out gC e; omega)), by omega, Lib.hid (Only.below HBl.out hO9.out HBl.out.size (fun q hq => by have := Ham.out q hq; omega))⟩
       case measure => simp [intOf]; omega
    ·obtain rfl : k = d.gates.length := by omega
     have hml := (HInv.out d.gates.length).len
     have hGl := (HInv.out d.gates.length).glen
     have hIl := (HInv.out d.gates.length).lt
     have HmF : Hid (Cir.bGo share F keep d.gates d.gates.length = ((Cir.bGo share F keep d.gates d.gates.length).1, (Cir.bGo share F keep d.gates d.gates.length).2)) := Lib.hid rfl
     generalize (Cir.bGo share F keep d.gates d.gates.length).1 = GF at *
     generalize (Cir.bGo share F keep d.gates d.gates.length).2 = mF at *
     have hmv : ∀ l ∈ mF, l ≤ 1000000 := fun l hl => by have : l < 2 * (F + GF.length) := hIl l hl; omega
     have hMF := HM0.out
     have HMap : Hid (∀ w' l, w'.ownsRow w4.heap.size 3 1 (.slice Am M cm) M (ints (mF.map Int.ofNat)) → l < 2 * (F + d.gates.length) → Calls Try.prog 125 #[.slice Am M cm, .int .i64 (l : Int)] w' fun e w'' => e = .returned (.int .i64 (Cir.useX mF l : Nat)) ∧ Below w'.heap.size w' w'') := Lib.hid fun w' l hr h1 => l3Map_any (.slice Am M cm) l mF w' (by
      have h := Row.of_own hr
      unfold IntsAt
      rw [List.length_map, hml, ← hMF]
      exact h) (by omega) (by omega) hmv
     have HNl : Hid (∀ l ∈ d.next, l < 2 * (F + d.gates.length)) := Lib.hid fun l hl => by have := HD.out.next l hl; unfold Cir.nvars at this; rw [← HF.out] at this; exact this
     have HOl : Hid (∀ l ∈ d.outs, l < 2 * (F + d.gates.length)) := Lib.hid fun l hl => by have := HD.out.out l hl; unfold Cir.nvars at this; rw [← HF.out] at this; exact this
     obtain ⟨u, hu⟩ : ∃ u, u = Cir.useX mF := ⟨_, rfl⟩
     have Hu := Lib.hid hu
     rw [← hu] at HMap
     have HN0 : Hid (wr.ownsRow w2.heap.size 3 1 (.slice AN d.next.length cN) d.next.length (nints' ((d.next.take 0).map u ++ d.next.drop 0))) := Lib.hid HN.out
     clear hIl hml hGl hmv hMF HM0 hlt hu HN HU hk HInv
     go_wp2_with fail
     obtain ⟨w6, hw6⟩ : ∃ W, W = wr := ⟨_, rfl⟩
     subst hw6
     clear z p0 p1 p2 p3
     go_loopw [13] (fun i wr => ∃ (k : Nat), k ≤ d.next.length ∧ i = .int .i64 k ∧ Hid (wr.ownsRow w2.heap.size 3 1 (.slice AN d.next.length cN) d.next.length (nints' ((d.next.take k).map u ++ d.next.drop k))) ∧ Hid (wr.ownsRow w4.heap.size 3 1 (.slice Am M cm) M (ints (mF.map Int.ofNat))) ∧ Hid (wr.ownsRow (cond share 0 w4.heap.size) 64 2 (.slice Ag2 GF.length cg2) GF.length (cubes (Cir.gatesOf GF))) ∧ Hid (wr.heap[gx]? = some (.cells #[.int .i64 (d.ins : Int), .slice AN d.next.length cN, .slice Ag2 GF.length cg2, .slice none 0 0] 26 (0, 0))) ∧ Hid (wr.heap[gR]? = some (.cells #[.int .i64 0, .slice none 0 0, .slice none 0 0, .slice none 0 0] 26 (0, 0))) ∧ Hid (PCells wr gC (d.ins : Int) (.slice An d.next.length cn) (.slice Ag d.gates.length cg) (.slice Ao d.outs.length co)) ∧ w4.heap.size ≤ wr.heap.size ∧ Hid (Below w.heap.size w wr)) (fun i _ => d.next.length - (intOf i).toNat)
     case atStart => exact ⟨0, Nat.zero_le _, rfl, HN0, HM, HG, HX, HR, PC, hzr, HB⟩
     case round =>
      clear HN0 HM HG HX HR PC hzr HB
      obtain ⟨k, hk, rfl, HN, HM, HG, HX, HR, PC, hzr, HB⟩ := hrel
      have hgxz := blk_ltB HX.out
      have hgRz := blk_ltB HR.out
      obtain ⟨z, p0, p1, p2, p3⟩ := PC.out
      by_cases hlt : k < d.next.length
      ·obtain ⟨l, hl⟩ := at_some hlt
       have hlN := HNl.out l (List.mem_of_getElem? hl)
       obtain ⟨b, o, x, rfl, hbl, hx, hs⟩ := ints_open RN.out HB.out (show d.next.length = (Cir.toCz d).next.length from (List.length_map _).symm) (i := k) (by rw [show (Cir.toCz d).next.length = d.next.length from List.length_map _]; exact hlt)
       have hxe : x = (l : Int) := by
        have h1 := hx.out
        unfold Cir.toCz at h1
        rw [List.getElem?_map, hl] at h1
        exact (Option.some.inj h1).symm
       subst hxe
       have HS := Lib.hid (Cir.map_set_next hl u)
       obtain ⟨gn, cn', hvn, hgn1, hgn2, -, -⟩ := own_open HN.out (by omega)
       injection hvn with hAN _ hcN
       subst hAN hcN
       have hbz : b < wr.heap.size := by omega
       have hgnC : gn ≠ gC := by omega
       have hgnR : gn ≠ gR := by omega
       have hgnx : ¬ ((Value.slice (some ⟨gn, 0, none⟩) d.next.length cN).ownBlock = some gx) := own_ne_tag HN.out HX.out (by decide)
       have hgnx' : gn ≠ gx := fun e => hgnx (by rw [e]; rfl)
       have hgn4 : gn < w4.heap.size := HlN.out gn rfl
       clear hx hl hgnx
       go_wp2_with fail
       refine wp_region_rsl (quietRS Try.prog _ wr _) quietRS_ok (by kernel_rfl) (by kernel_rfl) (by kernel_rfl) 11 _ rfl rfl (by kernel_rfl) (show (0 : Nat) < 11 by decide) trivial trivial ?_
       apply rs_eq quietRS_ok quiet_any
       ·intro ρ w' ho hK
        have ho : Only _ wr w' := ho
        obtain ⟨h0, -⟩ := hK
        have h0' : ρ (.tmp 6) = _ := h0
        go_simp
        try exact rfl
       apply rs_eq quietRS_ok quiet_any
       ·intro ρ w' ho hK
        have ho : Only _ wr w' := ho
        obtain ⟨h0, -⟩ := hK
        have h0' : ρ (.tmp 118) = _ := h0
        obtain ⟨-, q0, q1, q2, q3⟩ := PC.out.below (only_below ho)
        have c1 := ((only_below ho).cell (p := ⟨b, o + k, none⟩) hbz).trans hs
        have hXq := ((only_below ho).block gx hgxz).trans HX.out
        have k1 := blk_cell hXq 1
        simp at k1
        go_simp
        try exact rfl
       refine rs_old quietRS_ok quiet_any _ (.inl rfl) _ rfl rfl ?_
       refine rs_old quietRS_ok quiet_any _ (.inl rfl) _ rfl rfl ?_
       apply rs_eq quietRS_ok quiet_any
       ·intro ρ w' ho hK
        have ho : Only _ wr w' := ho
        obtain ⟨h0, -⟩ := hK
        have h0' : ρ (.tmp 2) = _ := h0
        go_simp
        try exact rfl
       apply rs_eq quietRS_ok quiet_any
       ·intro ρ w' ho hK
        have ho : Only _ wr w' := ho
        obtain ⟨h0, -⟩ := hK
        have h0' : ρ (.tmp 122) = _ := h0
        obtain ⟨-, q0, q1, q2, q3⟩ := PC.out.below (only_below ho)
        have c1 := ((only_below ho).cell (p := ⟨b, o + k, none⟩) hbz).trans hs
        have hXq := ((only_below ho).block gx hgxz).trans HX.out
        have k1 := blk_cell hXq 1
        simp at k1
        go_simp
        try exact rfl
       refine rs_old quietRS_ok quiet_any _ (.inl rfl) _ rfl rfl ?_
       apply rs_eq quietRS_ok quiet_any
       ·intro ρ w' ho hK
        have ho : Only _ wr w' := ho
        obtain ⟨h0, h1, -⟩ := hK
        have h0' : ρ (.tmp 123) = _ := h0
        have h1' : ρ (.tmp 124) = _ := h1
        go_simp
        try exact rfl
       apply rs_eq quietRS_ok quiet_any
       ·intro ρ w' ho hK
        have ho : Only _ wr w' := ho
        obtain ⟨h0, -⟩ := hK
        have h0' : ρ (.tmp 125) = _ := h0
        obtain ⟨-, q0, q1, q2, q3⟩ := PC.out.below (only_below ho)
        have c1 := ((only_below ho).cell (p := ⟨b, o + k, none⟩) hbz).trans hs
        have hXq := ((only_below ho).block gx hgxz).trans HX.out
        have k1 := blk_cell hXq 1
        simp at k1
        go_simp
        try exact rfl
       refine rs_call quietRS_ok quiet_any (TEq (.int .i64 ((u l : Nat) : Int))) (stb_eq _ _) 125 _ _ rfl (fun ρ w' ho hK => by
        have ho : Only _ wr w' := ho
        obtain ⟨h0, h1, h2, -⟩ := hK
        have h0' : ρ (.func 125) = .func (.func 125) #[] #[] := h0
        have h1' : ρ (.tmp 121) = _ := h1
        have h2' : ρ (.tmp 126) = _ := h2
        refine ⟨#[ρ (.tmp 121), ρ (.tmp 126)], ?_, ?_⟩
        ·go_simp
        ·rw [h1', h2']
         refine (HMap.out w' l (own_below HM.out (only_below ho)) hlN).mono ?_
         rintro e w2 ⟨rfl, hb⟩
         exact ⟨_, rfl, rfl, hb⟩) ?_
       apply rs_eq quietRS_ok quiet_any
       ·intro ρ w' ho hK
        have ho : Only _ wr w' := ho
        obtain ⟨h0, h1, -⟩ := hK
        have h0' : ρ (.tmp 119) = _ := h0
        have h1' : ρ (.tmp 120) = _ := h1
        go_simp
        try exact rfl
       intro f w9 k9 hk9 hI9 ht9 hcp9
       have E0 : f 0 = _ := ht9 0 (nlb rfl)
       have E1 : f 1 = _ := ht9 1 (nlb rfl)
       have E2 : f 2 = _ := ht9 2 (nlb rfl)
       conv at E2 => rhs; whnf
       have E3 : f 3 = _ := ht9 3 (nlb rfl)
       conv at E3 => rhs; whnf
       have E4 : f 4 = _ := ht9 4 (nlb rfl)
       have E5 : f 5 = _ := ht9 5 (nlb rfl)
       have E6 : f 6 = _ := ht9 6 (nlb rfl)
       conv at E6 => rhs; whnf
       have E7 : f 7 = _ := ht9 7 (nlb rfl)
       have E8 : f 8 = _ := ht9 8 (nlb rfl)
       have E9 : f 9 = _ := ht9 9 (nlb rfl)
       have E10 : f 10 = _ := ht9 10 (nlb rfl)
       have Ho9 : Only _ wr w9 := hI9.2.1
       simp only [putAll, E0, E1, E2, E3, E4, E5, E6, E7, E8, E9, E10, Nat.zero_add, Nat.reduceAdd, Act.put, List.setIfInBounds_toArray, List.set_cons_succ, List.set_cons_zero, List.take, List.getElem_toArray, List.getElem_cons_succ, List.getElem_cons_zero]
       clear E0 E1 E2 E3 E4 E5 E6 E7 E8 E9 E10
       clear hI9 ht9 hcp9 hk9
       have hb9 := only_below Ho9
       replace HM := Lib.hid (own_below HM.out hb9)
       replace HN := Lib.hid (own_below HN.out hb9)
       replace HG := Lib.hid (own_below HG.out hb9)
       replace HX := Lib.hid ((hb9.block gx hgxz).trans HX.out)
       replace HR := Lib.hid ((hb9.block gR hgRz).trans HR.out)
       replace PC := Lib.hid (PC.out.below hb9)
       replace HB := Lib.hid (HB.out.trans (hb9.mono HB.out.size))
       have hz9 := hb9.size
       obtain ⟨u0, -, hd0, hf0⟩ := own_slot HN.out (j := k) (by omega)
       have hst := HN.out.stored k (.int .i64 ((u l : Nat) : Int))
       have hse : (nints' ((d.next.take k).map u ++ d.next.drop k)).set k (.int .i64 ((u l : Nat) : Int)) = nints' ((d.next.take (k + 1)).map u ++ d.next.drop (k + 1)) := by
        rw [← HS.out]
        unfold nints' ints
        rw [List.map_set, List.map_set]
        rfl
       rw [hse] at hst
       have hO9 := set1_only w9 gn k (.int .i64 ((u l : Nat) : Int))
       have HN' := Lib.hid hst.1
       have HM' := Lib.hid (own_only HM.out hO9 (fun q hq e => by have := (HM.out.lt q hq).1; omega))
       have HG' := Lib.hid (own_only HG.out hO9 (fun q hq e => own_ne_own HG.out HN.out (by decide) hq (by rw [e]; rfl)))
       have HX' := Lib.hid ((hO9.block gx (blk_ltB HX.out) (fun e => hgnx' e.symm)).trans HX.out)
       have HR' := Lib.hid ((hO9.block gR (blk_ltB HR.out) (fun e => hgnR e.symm)).trans HR.out)
       have PC' := Lib.hid (PC.out.only hO9 (fun e => hgnC e.symm))
       have HB' := Lib.hid (Only.below HB.out hO9 HB.out.size (fun q hq => by omega))
       have hzs := hO9.size
       clear Ho9 hb9 hst hse hO9 HN HM HG HX HR PC HB hs p0 p1 p2 p3 z
       go_wp2_with fail
       go_roundw
       case rel => exact ⟨k + 1, by omega, by go_num, HN', HM', HG', HX', HR', PC', by omega, HB'⟩
       case measure => simp [intOf]; omega
      ·obtain rfl : k = d.next.length := by omega
       rw [List.take_length, List.drop_length, List.append_nil] at HN
       have HN1 : Hid (wr.ownsRow w2.heap.size 3 1 (.slice AN d.next.length cN) d.next.length (nints' (d.next.map u))) := HN
       clear HN hlt
       go_wp2_with fail
       obtain ⟨w6, hw6⟩ : ∃ W, W = wr := ⟨_, rfl⟩
       subst hw6
       obtain ⟨BO, hBO⟩ : ∃ B, B = w6.heap.size := ⟨_, rfl⟩
       have HlN2 : Hid (∀ g, (Value.slice AN d.next.length cN).ownBlock = some g → g < BO) := Lib.hid fun g hg => by rw [hBO]; exact (HN1.out.lt g hg).2
       have HlM2 : Hid (∀ g, (Value.slice Am M cm).ownBlock = some g → g < BO) := Lib.hid fun g hg => by rw [hBO]; exact (HM.out.lt g hg).2
       have hBO1 : BO ≤ w6.heap.size := by omega
       have hBOx : gx < BO := by omega
       have hBOC : gC < BO := by omega
       have hBOR : gR < BO := by omega
       clear hBO z p0 p1 p2 p3
       have HO0 : Hid (w6.ownsRow BO 3 1 (.slice none 0 0) 0 (nints' ((d.outs.take 0).map u))) := Lib.hid (World.ownsRow_nil _ _ _ _)
       go_loopw [14] (fun i wr => ∃ (k : Nat) (vo : Value), k ≤ d.outs.length ∧ i = .int .i64 k ∧ Hid (wr.ownsRow BO 3 1 vo k (nints' ((d.outs.take k).map u))) ∧ Hid (wr.ownsRow w2.heap.size 3 1 (.slice AN d.next.length cN) d.next.length (nints' (d.next.map u))) ∧ Hid (wr.ownsRow w4.heap.size 3 1 (.slice Am M cm) M (ints (mF.map Int.ofNat))) ∧ Hid (wr.ownsRow (cond share 0 w4.heap.size) 64 2 (.slice Ag2 GF.length cg2) GF.length (cubes (Cir.gatesOf GF))) ∧ Hid (wr.heap[gx]? = some (.cells #[.int .i64 (d.ins : Int), .slice AN d.next.length cN, .slice Ag2 GF.length cg2, vo] 26 (0, 0))) ∧ Hid (wr.heap[gR]? = some (.cells #[.int .i64 0, .slice none 0 0, .slice none 0 0, .slice none 0 0] 26 (0, 0))) ∧ Hid (PCells wr gC (d.ins : Int) (.slice An d.next.length cn) (.slice Ag d.gates.length cg) (.slice Ao d.outs.length co)) ∧ BO ≤ wr.heap.size ∧ Hid (Below w.heap.size w wr)) (fun i _ => d.outs.length - (intOf i).toNat)
       case atStart => exact ⟨0, .slice none 0 0, Nat.zero_le _, rfl, HO0, HN1, HM, HG, HX, HR, PC, hBO1, HB⟩
       case round =>
        clear HO0 HN1 HM HG HX HR PC hzr HB hBO1 hgxz hgRz
        obtain ⟨k, vo, hk, rfl, HO, HN, HM, HG, HX, HR, PC, hzr, HB⟩ := hrel
        have hgxz := blk_ltB HX.out
        have hgRz := blk_ltB HR.out
        obtain ⟨z, p0, p1, p2, p3⟩ := PC.out
        by_cases hlt : k < d.outs.length
        ·obtain ⟨l, hl⟩ := at_some hlt
         have hlN := HOl.out l (List.mem_of_getElem? hl)
         obtain ⟨b, o, x, rfl, hbl, hx, hs⟩ := ints_open RO.out HB.out (show d.outs.length = (Cir.toCz d).outs.length from (List.length_map _).symm) (i := k) (by rw [show (Cir.toCz d).outs.length = d.outs.length from List.length_map _]; exact hlt)
         have hxe : x = (l : Int) := by
          have h1 := hx.out
          unfold Cir.toCz at h1
          rw [List.getElem?_map, hl] at h1
          exact (Option.some.inj h1).symm
         subst hxe
         have HS := Lib.hid (nints'_snoc hl u)
         have hbz : b < wr.heap.size := by omega
         have hlo : ∀ q, vo.ownBlock = some q → BO ≤ q := fun q hq => (HO.out.lt q hq).1
         have Hlo := Lib.hid hlo
         have hnx : ¬ (vo.ownBlock = some gx) := fun e => by have := hlo gx e; omega
         have hnR : ¬ (vo.ownBlock = some gR) := fun e => by have := hlo gR e; omega
         have hnC : ¬ (vo.ownBlock = some gC) := fun e => by have := hlo gC e; omega
         have hwBO : w.heap.size ≤ BO := by omega
         have hnb : ¬ (vo.ownBlock = some b) := fun e => by have := hlo b e; omega
         generalize hcs : nints' ((d.outs.take k).map u) = cs at *
         clear hx hl hcs hlo
         go_wp2_with fail
         obtain ⟨i0, hi0, hz0, hz1, hz2⟩ := info_parts info_int
         have hO := fun ops a => appRS2_ok (Pg := Try.prog) (ops := ops) (a := a) (news := [.int .i64 (u l : Nat)]) (d := 10) (HO.out)
         refine wp_region_rsl (appRS2 Try.prog _ wr _ (BO) 3 1 (vo) (k) (cs) [.int .i64 (u l : Nat)] 10) (hO _ _) (by kernel_rfl) (by kernel_rfl) (by kernel_rfl) 12 _ rfl rfl (by kernel_rfl) (show (10 : Nat) < 12 by decide) trivial HO.out ?_
         apply rs_eq (hO _ _) (.inl (nnb rfl))
         ·intro ρ w' ho hK
          have ho : Only _ wr w' := ho
          obtain ⟨h0, -⟩ := hK
          have h0' : ρ (.tmp 6) = _ := h0
          go_simp
          try exact rfl
         apply rs_eq (hO _ _) (.inl (nnb rfl))
         ·intro ρ w' ho hK
          have ho : Only _ wr w' := ho
          obtain ⟨h0, -⟩ := hK
          have h0' : ρ (.tmp 136) = _ := h0
          have hP : PCells w' gC (d.ins : Int) (.slice An d.next.length cn) (.slice Ag d.gates.length cg) (.slice (some ⟨b, o, none⟩) d.outs.length co) := PC.out.only ho (fun e => hnC e)
          obtain ⟨-, q0, q1, q2, q3⟩ := hP
          have k3 := cell_on ho (fun e => hnx e) hgxz (blk_cell HX.out 3)
          simp at k3
          have c1 := (World.cell?_of_block (a := ⟨b, o + k, none⟩) (ho.block b hbz (fun e => hnb e))).trans hs
          go_simp
          try exact rfl
         refine rs_old (hO _ _) (.inl (nnb rfl)) _ (.inl rfl) _ rfl rfl ?_
         apply rs_eq (hO _ _) (.inl (nnb rfl))
         ·intro ρ w' ho hK
          have ho : Only _ wr w' := ho
          obtain ⟨h0, -⟩ := hK
          have h0' : ρ (.tmp 2) = _ := h0
          go_simp
          try exact rfl
         apply rs_eq (hO _ _) (.inl (nnb rfl))
         ·intro ρ w' ho hK
          have ho : Only _ wr w' := ho
          obtain ⟨h0, -⟩ := hK
          have h0' : ρ (.tmp 139) = _ := h0
          have hP : PCells w' gC (d.ins : Int) (.slice An d.next.length cn) (.slice Ag d.gates.length cg) (.slice (some ⟨b, o, none⟩) d.outs.length co) := PC.out.only ho (fun e => hnC e)
          obtain ⟨-, q0, q1, q2, q3⟩ := hP
          have k3 := cell_on ho (fun e => hnx e) hgxz (blk_cell HX.out 3)
          simp at k3
          have c1 := (World.cell?_of_block (a := ⟨b, o + k, none⟩) (ho.block b hbz (fun e => hnb e))).trans hs
          go_simp
          try exact rfl
         refine rs_old (hO _ _) (.inl (nnb rfl)) _ (.inl rfl) _ rfl rfl ?_
         apply rs_eq (hO _ _) (.inl (nnb rfl))
         ·intro ρ w' ho hK
          have ho : Only _ wr w' := ho
          obtain ⟨h0, h1, -⟩ := hK
          have h0' : ρ (.tmp 140) = _ := h0
          have h1' : ρ (.tmp 141) = _ := h1
          go_simp
          try exact rfl
         apply rs_eq (hO _ _) (.inl (nnb rfl))
         ·intro ρ w' ho hK
          have ho : Only _ wr w' := ho
          obtain ⟨h0, -⟩ := hK
          have h0' : ρ (.tmp 142) = _ := h0
          have hP : PCells w' gC (d.ins : Int) (.slice An d.next.length cn) (.slice Ag d.gates.length cg) (.slice (some ⟨b, o, none⟩) d.outs.length co) := PC.out.only ho (fun e => hnC e)
          obtain ⟨-, q0, q1, q2, q3⟩ := hP
          have k3 := cell_on ho (fun e => hnx e) hgxz (blk_cell HX.out 3)
          simp at k3
          have c1 := (World.cell?_of_block (a := ⟨b, o + k, none⟩) (ho.block b hbz (fun e => hnb e))).trans hs
          go_simp
          try exact rfl
         refine rs_call (hO _ _) (.inl (nnb rfl)) (TEq (.int .i64 ((u l : Nat) : Int))) (stb_eq _ _) 125 _ _ rfl (fun ρ w' ho hK => by
          have ho : Only _ wr w' := ho
          obtain ⟨h0, h1, h2, -⟩ := hK
          have h0' : ρ (.func 125) = .func (.func 125) #[] #[] := h0
          have h1' : ρ (.tmp 138) = _ := h1
          have h2' : ρ (.tmp 143) = _ := h2
          refine ⟨#[ρ (.tmp 138), ρ (.tmp 143)], ?_, ?_⟩
          ·go_simp
          ·rw [h1', h2']
           refine (HMap.out w' l (own_only HM.out ho (fun q hq e => by have h1 := HlM2.out q hq; have h2 := Hlo.out q e; omega)) hlN).mono ?_
           rintro e w2 ⟨rfl, hb⟩
           exact ⟨_, rfl, rfl, hb⟩) ?_
         refine rs_build1 (hO _ _) (.inl (nnb rfl)) 1 [.int .i64 (u l : Nat)] 3 rfl (fun ρ w' ho hK => by
          have ho : Only _ wr w' := ho
          obtain ⟨h0, -⟩ := hK
          have h0' : ρ (.tmp 144) = _ := h0
          go_simp) ?_
         refine rs_append2 rfl (BO) 3 23 1 (vo) (k) (cs) _ rfl rfl (fun g hg => hg) (show BO ≤ wr.heap.size by omega) _ _ rfl _ _ rfl rfl rfl rfl i0 _ 8 Try.underlying23 hi0 hz0 hz1 hz2 rfl (by decide) (by omega) (by decide) (by simp [Value.oneCell']) ?_
         apply rs_eq (hO _ _) (.inl (nnb rfl))
         ·intro ρ w' ho hK
          have ho : Only _ wr w' := ho
          obtain ⟨h0, -⟩ := hK
          have h0' : ρ (.tmp 6) = _ := h0
          go_simp
          try exact rfl
         intro f w9 k9 hk9 hI9 ht9 hcp9
         have E0 : f 0 = _ := ht9 0 (nlb rfl)
         have E1 : f 1 = _ := ht9 1 (nlb rfl)
         have E2 : f 2 = _ := ht9 2 (nlb rfl)
         conv at E2 => rhs; whnf
         have E3 : f 3 = _ := ht9 3 (nlb rfl)
         have E4 : f 4 = _ := ht9 4 (nlb rfl)
         have E5 : f 5 = _ := ht9 5 (nlb rfl)
         conv at E5 => rhs; whnf
         have E6 : f 6 = _ := ht9 6 (nlb rfl)
         have E7 : f 7 = _ := ht9 7 (nlb rfl)
         have E8 : f 8 = _ := ht9 8 (nlb rfl)
         have E9 : (TNew _ 1 1 [.int .i64 (u l : Nat)]) w9 (f 9) := ht9 9 (nlb rfl)
         have E10 : (TAny) w9 (f 10) := ht9 10 (nlb rfl)
         have E11 : f 11 = _ := ht9 11 (nlb rfl)
         have Ho9 : Only _ wr w9 := hI9.2.1
         have hown9 : w9.ownsRow (BO) 3 1 (f 10) (k + 1) (cs ++ [.int .i64 (u l : Nat)]) := hI9.2.2.1
         have hat9 : ∀ g, (f 10).ownBlock = some g → (vo).ownBlock = some g ∨ wr.heap.size ≤ g := hI9.2.2.2
         simp only [putAll, E0, E1, E2, E3, E4, E5, E6, E7, E8, E11, Nat.zero_add, Nat.reduceAdd, Act.put, List.setIfInBounds_toArray, List.set_cons_succ, List.set_cons_zero, List.take, List.getElem_toArray, List.getElem_cons_succ, List.getElem_cons_zero]
         clear E0 E1 E2 E3 E4 E5 E6 E7 E8 E11
         clear hI9 ht9 hcp9 hk9
         generalize f 9 = r9 at *
         generalize f 10 = r10 at *
         have O9 : Only (fun g => vo.ownBlock = some g) wr w9 := Ho9
         have hX9 := (O9.block gx hgxz hnx).trans HX.out
         have HR9 := Lib.hid ((O9.block gR hgRz hnR).trans HR.out)
         have HN9 := Lib.hid (own_only HN.out O9 (fun q hq e => by have h1 := HlN2.out q hq; have h2 := Hlo.out q e; omega))
         have HM9 := Lib.hid (own_only HM.out O9 (fun q hq e => by have h1 := HlM2.out q hq; have h2 := Hlo.out q e; omega))
         have HG9 := Lib.hid (own_only HG.out O9 (fun q hq e => own_ne_own HG.out HO.out (by decide) hq e))
         have PC9 := Lib.hid (PC.out.only O9 hnC)
         have HB9 := Lib.hid (Only.below HB.out O9 HB.out.size (fun q hq => by have := Hlo.out q hq; omega))
         obtain ⟨A9, c9, hv9⟩ := slice_of_own hown9
         subst hv9
         have q1 := blk_cell hX9 3
         have f1 := blk_free hX9 3
         simp at q1
         have hz9 := O9.size
         have hx10 := heap_setCell_same w9 gx 3 _ _ (.slice A9 (k + 1) c9) hX9
         simp at hx10
         have hOs := set1_only w9 gx 3 (.slice A9 (k + 1) c9)
         have HX5 := Lib.hid hx10
         have HO5 : Hid ((w9.setCell ⟨gx, 3, none⟩ (.slice A9 (k + 1) c9)).ownsRow BO 3 1 (.slice A9 (k + 1) c9) (k + 1) (nints' ((d.outs.take (k + 1)).map u))) := Lib.hid (by
          rw [HS.out]
          exact own_only hown9 hOs (fun g hg e => own_ne_tag hown9 hX9 (by decide) (by rw [hg, e])))
         have HR5 := Lib.hid ((hOs.block gR (blk_ltB HR9.out) (by omega)).trans HR9.out)
         have HN5 := Lib.hid (own_only HN9.out hOs (fun g hg e => own_ne_tag HN9.out hX9 (by decide) (by rw [hg, e])))
         have HM5 := Lib.hid (own_only HM9.out hOs (fun g hg e => own_ne_tag HM9.out hX9 (by decide) (by rw [hg, e])))
         have HG5 := Lib.hid (own_only HG9.out hOs (fun g hg e => own_ne_tag HG9.out hX9 (by decide) (by rw [hg, e])))
         have PC5 := Lib.hid (PC9.out.only hOs (by omega))
         have HB5 := Lib.hid (Only.below HB9.out hOs HB9.out.size (fun k hk => by omega))
         have hz6 := hOs.size
         clear Ho9 O9 hX9 HR9 HN9 HM9 HG9 PC9 HB9 hown9 hat9 hO hx10 hOs HM HN HG HX HR PC HB HO hnx hnR hnC hnb hs p0 p1 p2 p3 z
         go_wp2_with fail
         go_roundw
         case rel => exact ⟨k + 1, .slice A9 (k + 1) c9, by omega, by go_num, HO5, HN5, HM5, HG5, HX5, HR5, PC5, by omega, HB5⟩
         case measure => simp [intOf]; omega
        ·obtain rfl : k = d.outs.length := by omega
         rw [List.take_length] at HO
         have HO1 : Hid (wr.ownsRow BO 3 1 vo d.outs.length (nints' (d.outs.map u))) := HO
         obtain ⟨A3, c3', hv3⟩ := slice_of_own HO1.out
         subst hv3
         have q0 := blk_cell HX.out 0
         have q1 := blk_cell HX.out 1
         have q2 := blk_cell HX.out 2
         have q3 := blk_cell HX.out 3
         have r0 := blk_cell HR.out 0
         have r1 := blk_cell HR.out 1
         have r2 := blk_cell HR.out 2
         have r3 := blk_cell HR.out 3
         have f0 := blk_free HR.out 0
         have f1 := blk_free HR.out 1
         have f2 := blk_free HR.out 2
         have f3 := blk_free HR.out 3
         simp at q0 q1 q2 q3 r0 r1 r2 r3
         have hOA := set4_only wr gR (.int .i64 (d.ins : Int)) (.slice AN d.next.length cN) (.slice Ag2 GF.length cg2) (.slice A3 d.outs.length c3')
         have HO5 := Lib.hid (own_only HO1.out hOA (fun g hg e => own_ne_tag HO1.out HR.out (by decide) (by rw [hg, e])))
         have HN5 := Lib.hid (own_only HN.out hOA (fun g hg e => own_ne_tag HN.out HR.out (by decide) (by rw [hg, e])))
         have HG5 := Lib.hid (own_only HG.out hOA (fun g hg e => own_ne_tag HG.out HR.out (by decide) (by rw [hg, e])))
         have HB5 := Lib.hid (Only.below HB.out hOA HB.out.size (fun k hk => by omega))
         have HRes : Hid (Cir.bRes share d (List.replicate (Cir.nfirst d) true ++ U) = { ins := d.ins, next := d.next.map u, gates := GF.reverse, outs := d.outs.map u }) := Lib.hid (by
          unfold Cir.bRes
          rw [← HF.out, ← Hkeep.out, HmF.out, Hu.out])
         clear hOA HO HO1 HX hlt
         go_wp2_with fail
         refine bodyPost_ret (v := .agg #[.int .i64 (d.ins : Int), .slice AN d.next.length cN, .slice Ag2 GF.length cg2, .slice A3 d.outs.length c3']) (by simp [results, Try.results123, go_sem, r0, r1, r2, r3]) rfl ⟨⟨U, _, HUs.out, rfl, .slice AN d.next.length cN, .slice Ag2 GF.length cg2, .slice A3 d.outs.length c3', ?_, ?_, ?_, ?_⟩, HB5.out⟩
         ·rw [HRes.out]; rfl
         ·rw [HRes.out]
          have e1 : (Cir.toCz ⟨d.ins, d.next.map u, GF.reverse, d.outs.map u⟩).next.length = d.next.length := by simp [Cir.toCz]
          rw [e1]
          exact own_mono HN5.out (Nat.zero_le _)
         ·rw [HRes.out]
          have e1 : (Cir.toCz ⟨d.ins, d.next.map u, GF.reverse, d.outs.map u⟩).gates.length = GF.length := by simp [Cir.toCz]
          rw [e1]
          exact own_mono HG5.out (Nat.zero_le _)
         ·rw [HRes.out]
          have e1 : (Cir.toCz ⟨d.ins, d.next.map u, GF.reverse, d.outs.map u⟩).outs.length = d.outs.length := by simp [Cir.toCz]
          rw [e1]
          exact own_mono HO5.out (Nat.zero_le _)
end Go.Proofs.Ytkkkjbinfdohpaa
namespace Go.Proofs.Ytkkkjbinfdohpaa
open Go.RowKit Go.Maps
def OptOf (c d : Cz) : Prop := (Cir.valid c = false → d = ⟨0, [], [], []⟩) ∧ (Cir.valid c = true → ∃ d', Cir.Ok d' ∧ Cir.SameStep (Cir.nat c) d' ∧ d = Cir.toCz d')
theorem specOpt_any (v : Value) (c : Cz) (w : World) (h : CircAt w v c) :
  Calls Try.prog 99 #[v] w fun e w' => (∃ v' d, e = .returned v' ∧ CircOwn 0 w' v' d ∧ OptOf c d) ∧ Below w.heap.size w w' := by
 have HC := Lib.hid h
 obtain ⟨An, cn, Ag, cg, Ao, co, rfl⟩ := h.shape
 have hb0 := bel_new w (.cells #[.int .i64 c.ins, .slice An c.next.length cn, .slice Ag c.gates.length cg, .slice Ao c.outs.length co] 26)
 have hsz : (w.alloc (.cells #[.int .i64 c.ins, .slice An c.next.length cn, .slice Ag c.gates.length cg, .slice Ao c.outs.length co] 26)).heap.size = w.heap.size + 1 := by simp
 have hp0 : PCirc (w.alloc (.cells #[.int .i64 c.ins, .slice An c.next.length cn, .slice Ag c.gates.length cg, .slice Ao c.outs.length co] 26)) w.heap.size c := by
  obtain ⟨vn, vg, vo, e, i1, i2, i3⟩ := h
  injection e with e
  simp only [Array.mk.injEq, List.cons.injEq, and_true] at e
  obtain ⟨-, e1, e2, e3⟩ := e
  subst e1 e2 e3
  exact PCirc.boxed _ i1 i2 i3
 have PC := PCells.boxed w c.ins (.slice An c.next.length cn) (.slice Ag c.gates.length cg) (.slice Ao c.outs.length co) 26
 obtain ⟨W1, hW1⟩ : ∃ W1, w.alloc (.cells #[.int .i64 c.ins, .slice An c.next.length cn, .slice Ag c.gates.length cg, .slice Ao c.outs.length co] 26) = W1 := ⟨_, rfl⟩
 rw [hW1] at hb0 hsz hp0 PC
 have hb1 := bel_new W1 (.cells #[.int .i64 0, .slice none 0 0, .slice none 0 0, .slice none 0 0] 26)
 have hR1 := heap_alloc_new W1 (.cells #[.int .i64 0, .slice none 0 0, .slice none 0 0, .slice none 0 0] 26)
 have hp1 := hp0.below hb1
 have hB1 := hb0.trans (hb1.mono hb0.size)
 have hz1 : (W1.alloc (.cells #[.int .i64 0, .slice none 0 0, .slice none 0 0, .slice none 0 0] 26)).heap.size = W1.heap.size + 1 := by simp
 obtain ⟨zz, p0, p1, p2, p3⟩ := PC.below hb1
 have HC1 := Lib.hid (HC.out.below hB1)
 have Hp1 := Lib.hid hp1
 have HB1 := Lib.hid hB1
 have HR1 := Lib.hid hR1
 have hgw : W1.heap.size = w.heap.size + 1 := hsz
 clear hp0 hb0 hb1 hp1 hB1 hR1 HC h PC
 go_enter Try.func99, Try.ntmps99
 go_wp2_with fail
 generalize W1.alloc (.cells #[.int .i64 0, .slice none 0 0, .slice none 0 0, .slice none 0 0] 26) = W2 at *
 have HV := Lib.hid (specValid_any _ _ _ HC1.out)
 obtain ⟨gc, hgc⟩ : ∃ gc, gc = w.heap.size := ⟨_, rfl⟩
 obtain ⟨gR, hgR⟩ : ∃ gR, gR = w.heap.size + 1 := ⟨_, rfl⟩
 have PC1 : Hid (PCells W2 gc c.ins (.slice An c.next.length cn) (.slice Ag c.gates.length cg) (.slice Ao c.outs.length co)) := Lib.hid (by rw [hgc]; exact ⟨zz, p0, p1, p2, p3⟩)
 rw [← hgc] at p0 p1 p2 p3 zz Hp1
 rw [hgw, ← hgR] at HR1
 rw [← hgR, ← hgc]
 have hwR : w.heap.size ≤ gR := by omega
 have hgRz := blk_ltB HR1.out
 clear hW1 hsz hgw hgc hgR hz1
 refine HV.out.mono ?_
 rintro e w3 ⟨rfl, hb3⟩
 have HC3 := Lib.hid (HC1.out.below hb3)
 have PC3 := Lib.hid (PC1.out.below hb3)
 have HR3 := Lib.hid ((hb3.block gR hgRz).trans HR1.out)
 have HB3 := Lib.hid (HB1.out.trans (hb3.mono HB1.out.size))
 clear p0 p1 p2 p3 zz hb3 HB1 HR1 Hp1 HC1 HV PC1
 obtain ⟨zz, p0, p1, p2, p3⟩ := PC3.out
 cases hv : Cir.valid c
 ·have r0 := blk_cell HR3.out 0
  have r1 := blk_cell HR3.out 1
  have r2 := blk_cell HR3.out 2
  have r3 := blk_cell HR3.out 3
  have f0 := blk_free HR3.out 0
  have f1 := blk_free HR3.out 1
  have f2 := blk_free HR3.out 2
  have f3 := blk_free HR3.out 3
  have Hv := Lib.hid hv
  clear hv
  go_wp2_with fail
  refine bodyPost_ret (v := .agg #[.int .i64 0, .slice none 0 0, .slice none 0 0, .slice none 0 0]) (by simp [results, Try.results99, go_sem, r0, r1, r2, r3]) rfl ⟨⟨_, ⟨0, [], [], []⟩, rfl, ?_, ?_⟩, ?_⟩
  ·exact ⟨_, _, _, rfl, World.ownsRow_nil _ _ _ _, World.ownsRow_nil _ _ _ _, World.ownsRow_nil _ _ _ _⟩
  ·exact ⟨fun _ => rfl, fun h => by rw [Hv.out] at h; cases h⟩
  ·exact (((HB3.out.setCell hwR _).setCell hwR _).setCell hwR _).setCell hwR _
 ·obtain ⟨hd1, hd2⟩ := Cir.nat_ok hv
  have Hd2 := Lib.hid hd2
  have Hv := Lib.hid hv
  have HC3' : Hid (CircAt w3 (.agg #[.int .i64 c.ins, .slice An c.next.length cn, .slice Ag c.gates.length cg, .slice Ao c.outs.length co]) (Cir.toCz (Cir.nat c))) := Lib.hid (by rw [← hd1]; exact HC3.out)
  have hgR3 := blk_ltB HR3.out
  have HO := Lib.hid (l3Build_any true _ (Cir.nat c) w3 HC3'.out hd2)
  clear hd1 hd2 hv
  go_wp2_with fail
  refine HO.out.mono ?_
  rintro e w4 ⟨⟨U, v4, hU, rfl, hC4⟩, hb4⟩
  have Hok1 := Lib.hid (Cir.bRes_ok true Hd2.out hU)
  have Hsm1 := Lib.hid (Cir.bRes_same true Hd2.out hU)
  generalize Cir.bRes true (Cir.nat c) (List.replicate (Cir.nfirst (Cir.nat c)) true ++ U) = d1 at *
  have HR4 := Lib.hid ((hb4.block gR hgR3).trans HR3.out)
  have HB4 := Lib.hid (HB3.out.trans (hb4.mono HB3.out.size))
  have hgR4 := blk_ltB HR4.out
  have HO2 := Lib.hid (l3Build_any false v4 d1 w4 hC4.at Hok1.out)
  obtain ⟨A1, c1, A2, c2, A4, c4, e6⟩ := hC4.at.shape
  subst e6
  clear hC4 hb4 HB3 HR3 HO HC3 HC3' PC3 p0 p1 p2 p3 zz hU
  generalize hL1 : (Cir.toCz d1).next.length = L1 at *
  generalize hL2 : (Cir.toCz d1).gates.length = L2 at *
  generalize hL3 : (Cir.toCz d1).outs.length = L3 at *
  generalize hL4 : (Cir.toCz d1).ins = L4 at *
  clear hL1 hL2 hL3 hL4
  go_wp2_with fail
  refine HO2.out.mono ?_
  rintro e w5 ⟨⟨U2, v5, hU2, rfl, hC5⟩, hb5⟩
  have Hok2 := Lib.hid (Cir.bRes_ok false Hok1.out hU2)
  have Hsm2 := Lib.hid (Hsm1.out.trans (Cir.bRes_same false Hok1.out hU2))
  generalize Cir.bRes false d1 (List.replicate (Cir.nfirst d1) true ++ U2) = d2 at *
  have HR5 := Lib.hid ((hb5.block gR hgR4).trans HR4.out)
  have HB5 := Lib.hid (HB4.out.trans (hb5.mono HB4.out.size))
  obtain ⟨B1, b1, B2, b2, B4, b4, e7⟩ := hC5.at.shape
  subst e7
  have HC5 := Lib.hid hC5
  have HE := Lib.hid (show OptOf c (Cir.toCz d2) from ⟨fun h => (by rw [Hv.out] at h; cases h), fun _ => ⟨d2, Hok2.out, Hsm2.out, rfl⟩⟩)
  have r0 := blk_cell HR5.out 0
  have r1 := blk_cell HR5.out 1
  have r2 := blk_cell HR5.out 2
  have r3 := blk_cell HR5.out 3
  have f0 := blk_free HR5.out 0
  have f1 := blk_free HR5.out 1
  have f2 := blk_free HR5.out 2
  have f3 := blk_free HR5.out 3
  clear hC5 hb5 HB4 HR4 HO2 hU2
  generalize hL1 : (Cir.toCz d2).next.length = M1 at *
  generalize hL2 : (Cir.toCz d2).gates.length = M2 at *
  generalize hL3 : (Cir.toCz d2).outs.length = M3 at *
  generalize hL4 : (Cir.toCz d2).ins = M4 at *
  clear hL1 hL2 hL3 hL4
  go_wp2_with fail
  refine bodyPost_ret (v := .agg #[.int .i64 M4, .slice B1 M1 b1, .slice B2 M2 b2, .slice B4 M3 b4]) (by simp [results, Try.results99, go_sem, r0, r1, r2, r3]) rfl ⟨⟨_, _, rfl, circOwn_four HC5.out HR5.out, HE.out⟩, ?_⟩
  exact (((HB5.out.setCell hwR _).setCell hwR _).setCell hwR _).setCell hwR _
end Go.Proofs.Ytkkkjbinfdohpaa
namespace Go.Proofs.Ytkkkjbinfdohpaa
open Go.RowKit
def JV (T B : Nat) (e : TypeId) (v : Value) (n : Nat) (cs : List Value) (G : Value → Prop) : Option Value → World → Prop
  | none, w => w.ownsRow B e 1 v n cs
  | some v', w => (∃ u, G u ∧ w.ownsRow B e 1 v' (n + 1) (cs ++ [u])) ∧ ∀ g, v'.ownBlock = some g → v.ownBlock = some g ∨ T ≤ g
@[reducible] def rdRS (Pg : Program) (ops : Array Oper) (R P : Nat) (w : World) (a : Act) (B : Nat) (e : TypeId) (v : Value) (n : Nat) (cs : List Value) (G : Value → Prop) (d : Nat) : RS :=
  { P := Pg, ops := ops, E := fun g => g = R ∨ v.ownBlock = some g, F := (· = R), rd := some (R, P), w0 := w, J := JV w.heap.size B e v n cs G, d := d, a0 := a }
theorem rdRS_ok {Pg : Program} {ops : Array Oper} {R P : Nat} {w : World} {a : Act} {B : Nat} {e : TypeId} {v : Value} {n : Nat} {cs : List Value} {G : Value → Prop} {d : Nat} (h : R < w.heap.size) (hB : R < B) (hown : w.ownsRow B e 1 v n cs) : (rdRS Pg ops R P w a B e v n cs G d).Ok :=
 ⟨fun _ h => .inl h, fun ov w1 w2 hj ho => by
  have hg : w1.grownBy w2 (some R) := ho.grownBy
  cases ov with
  | none =>
   have hj' : w1.ownsRow B e 1 v n cs := hj
   exact own_kept hj' hg fun g hv e => by have h1 := (hj'.lt g hv).1; have h2 := Option.some.inj e; omega
  | some v' =>
   obtain ⟨⟨x, hx, hj'⟩, hp⟩ := hj
   exact ⟨⟨x, hx, own_kept hj' hg fun g hv e => by have h1 := (hj'.lt g hv).1; have h2 := Option.some.inj e; omega⟩, hp⟩,
  fun _ _ e => by cases e; exact ⟨rfl, h⟩, fun g hg => by
   rcases hg with rfl | hg
   ·exact h
   ·exact (hown.lt g hg).2⟩
section
variable {S : RS} {Fin : List Ty → Prop} {o : Oper} {l : List Oper} {i : Nat} {τs : List Ty}
theorem rs_appendV (hd : i = S.d) (B : Nat) (e t : TypeId) (v : Value) (n : Nat) (cs : List Value) (G : Value → Prop) (hJ : S.J = JV S.w0.heap.size B e v n cs G) (R P : Nat) (hrd : S.rd = some (R, P)) (hE : ∀ g, v.ownBlock = some g → S.E g) (hRB : R < B) (hB : B ≤ S.w0.heap.size)
  (x y : Nat) (ho : o.op = .call { callee := .builtin .append, args := #[.tmp x, .tmp y], argTypes := #[t, t] }) (jx jy : Nat) (hx : writer S.ops i x = some jx) (hy : writer S.ops i y = some jy) (hTx : tys τs jx = TEq v) (hTy : tys τs jy = TLit S.E 1 G)
  (inf : TypeInfo) (z : Value) (bytes : Nat) (ht : S.P.underlying t = some (.slice e)) (hi : S.P.info? e = some inf) (hz : inf.zero = some z) (hsize : inf.size = 1) (hby : inf.bytes = bytes) (hzs : z.cells.size = 1) (h63 : n ≤ 1000000) (hbb : bytes ≤ 1000) (hone : ∀ u, G u → u.oneCell' = true)
  (rest : RSeq S Fin l (i + 1) (TAny :: τs)) : RSeq S Fin (o :: l) i τs := by
 intro _
 refine ⟨TAny, stb_any _, fun k ov ρ w hk hI hov hK => ?_, rest⟩
 obtain rfl := hov (by rw [hd]; exact ancB_self _ _ _)
 rw [ho] at hK
 have h1 := hK.1
 have h2 := hK.2.1
 rw [hx] at h1
 rw [hy] at h2
 simp only [hTx] at h1
 simp only [hTy] at h2
 have h1' : ρ (.tmp x) = v := h1
 obtain ⟨g, hv, hg, hl, hc⟩ := h2
 obtain ⟨q, hq0, hG⟩ := hc 0 (by omega)
 have hown : w.ownsRow B e 1 v n cs := by have := hI.2.2; rw [hJ] at this; exact this
 have hr : Row w 1 (.slice (some ⟨g, 0, none⟩) 1 1) 1 [q] := ⟨rfl, _, 1, rfl, Nat.le_refl _, by unfold maxLen; omega, fun _ => ⟨g, 0, rfl, hl, fun j u hu => by
  match j, hu with
  | 0, hu => have := Option.some.inj hu; subst this; exact hq0
  | j + 1, hu => simp at hu⟩⟩
 obtain ⟨v', w', hrun, hown', hgr, hat⟩ := run_append_row_at (P := S.P) w B t o.type e inf z 1 bytes ht hi hz hsize hby hzs (by decide) v n cs hown _ 1 [q] hr (by intro u hu; rw [List.mem_singleton.1 hu]; exact hone q hG) (by unfold maxLen; omega) (Nat.le_trans (Nat.mul_le_mul (show n + 1 ≤ 1000001 by omega) hbb) (by decide)) (Nat.le_trans hB hI.2.1.size)
 have hre : (execOp ρ o).run S.P w = .ok (.value v') w' := by
  unfold execOp
  simp only [ho, resolve, invoke, builtin, Sem.run_bind, Sem.run_pure, Result.andThen_ok, List.map_toArray, List.map_cons, List.map_nil, h1', hv, hrun]
 unfold Good
 rw [hre]
 have hon : Only S.E w w' := Only.grown hgr hE
 refine ⟨trivial, ⟨?_, hI.2.1.trans hon, ?_⟩, hon⟩
 ·have hr' := hI.1
  rw [hrd] at hr' ⊢
  have hr'' : Rd w R (P + 40 * k) := hr'
  exact (hr''.grown hgr fun q hq => by have := (hown.lt q hq).1; omega).more (by omega)
 ·rw [if_pos hd, hJ]
  refine ⟨⟨q, hG, hown'⟩, fun g hg => ?_⟩
  rcases hat with h | h
  ·exact .inl (h.symm.trans hg)
  ·have := Option.some.inj (h.symm.trans hg)
   have h5 := hI.2.1.size
   exact .inr (by omega)
end
end Go.Proofs.Ytkkkjbinfdohpaa
namespace Go.Proofs.Ytkkkjbinfdohpaa
open Go.RowKit
namespace Cir
def litAt (d : Ci) (l x : Nat) : Bool := lit (vals d (bits (x / 2 ^ d.ins) d.next.length) (bits x d.ins)) l
def litTab (d : Ci) (l n : Nat) : List Bool := (List.range n).map (litAt d l)
def tabI (c : Cz) (l : Int) : Int := if valid c = true ∧ c.next = [] ∧ isLit l (vars c) = true then (tab (nat c) l.toNat (2 ^ (nat c).ins) : Nat) else -1
end Cir
theorem valid_sizes {c : Cz} (h : Cir.valid c = true) : 0 ≤ c.ins ∧ c.ins ≤ 4 ∧ c.next.length ≤ 3 ∧ c.gates.length ≤ 14 ∧ c.outs.length ≤ 3 := by
 unfold Cir.valid at h
 rw [Bool.and_eq_true, Bool.and_eq_true] at h
 have := h.1.1
 unfold Cir.sizes at this
 simpa using this
end Go.Proofs.Ytkkkjbinfdohpaa
namespace Go.Proofs.Ytkkkjbinfdohpaa
open Go.RowKit
def Cir.tern (x : Int) : Bool := decide (0 ≤ x ∧ x ≤ 2)
end Go.Proofs.Ytkkkjbinfdohpaa
namespace Go.Proofs.Ytkkkjbinfdohpaa
open Go.RowKit
end Go.Proofs.Ytkkkjbinfdohpaa
namespace Go.Proofs.Ytkkkjbinfdohpaa
open Go.RowKit
theorem lits_snoc {v : List Bool} {ls : List Nat} {k l : Nat} (h : ls[k]? = some l) : Cir.lits v (ls.take (k + 1)) = Cir.lits v (ls.take k) ++ [Cir.lit v l] := by
 unfold Cir.lits
 rw [take_snoc h, List.map_append]
 rfl
theorem lits_length (v : List Bool) (ls : List Nat) : (Cir.lits v ls).length = ls.length := List.length_map _
theorem litValues_any (v vl : Value) (xs : List Bool) (ls : List Nat) (w : World) (h : BoolsAt w v xs) (hl : NatsAt w vl ls) (hlt : ∀ l ∈ ls, l < 2 * xs.length) (hn : ls.length ≤ 1000) (hx : xs.length ≤ 1000) :
  Calls Try.prog 114 #[v, vl] w (OwnBools (Cir.lits xs ls) w) := by
 obtain ⟨A, c, rfl, hc, hcm⟩ := hl.shape
 have hmk := run_make_cap (P := Try.prog) 69 4 (.bool false) 1 1 Try.underlying69 info_bool .i64 .i64 ls.length (by omega) (by omega)
 simp only [Value.cells, Nat.mul_one] at hmk
 have Hl := Lib.hid hl
 have H := Lib.hid h
 have HLt := Lib.hid hlt
 clear hl h hlt
 go_enter Try.func114, Try.ntmps114
 go_wp2_with fail
 have hown0 := World.ownsRow_made (base := w.heap.size) (e := 4) (size := 1) w (madeCells #[Value.bool false] ls.length) ls.length (Nat.le_refl _) (by unfold maxLen; omega) (by simp [madeCells])
 have hb0 : Below w.heap.size w (w.alloc (.cells (madeCells #[Value.bool false] ls.length) 4)) := (Below.refl _ _).alloc (Nat.le_refl _) _
 clear hmk
 go_loopw [5, 13] (fun v i wr => ∃ (vv : Value) (k : Nat), vv = v ∧ k ≤ ls.length ∧ i = .int .i64 k ∧ Hid (wr.ownsRow w.heap.size 4 1 v k (bools (Cir.lits xs (ls.take k)))) ∧ Below w.heap.size w wr) (fun _ i _ => ls.length - (intOf i).toNat)
 case atStart => exact ⟨_, 0, rfl, Nat.zero_le _, rfl, Lib.hid hown0, hb0⟩
 case round =>
  obtain ⟨vv, k, hvv, hk, rfl, Ho, hb⟩ := hrel
  subst hvv
  clear hown0 hb0
  by_cases hlt : k < ls.length
  ·have hz := hb.size
   have Hb := Lib.hid hb
   obtain ⟨b, o, l, rfl, hbl, hx0, hs0⟩ := nats_cell (nats_row (Hl.out.below hb)) rfl hlt
   have hl2 := HLt.out l (List.mem_of_getElem? hx0.out)
   have HS : Hid (bools (Cir.lits xs (ls.take (k + 1))) = bools (Cir.lits xs (ls.take k)) ++ [.bool (Cir.lit xs l)]) := Lib.hid (by rw [lits_snoc hx0.out, bools_append]; rfl)
   have Hx := Lib.hid (Row.below H.out hb)
   clear hb
   go_wp2_with fail
   refine (litValue_any _ xs l _ Hx.out hl2 (by omega)).mono ?_
   rintro e w' ⟨rfl, rfl⟩
   generalize Cir.lit xs l = u at *
   have Hlit := Lib.hid (Row.of_own (World.ownsRow_lit (base := wr.heap.size) (e := 4) (size := 1) wr #[.bool u] 1 (Nat.le_refl _) (by unfold maxLen; omega) rfl))
   go_wp2_with (at_builtin; refine append_bools rfl (.tmp 17) (.tmp 21) rfl w.heap.size _ k _ rfl (Ho.out.alloc _) _ 1 [.bool u] rfl Hlit.out (by simp [Value.oneCell']) (by omega) (by simp; omega) ?_; intro v7 w7 hown7 hg7 hat7; have Ho7 := Lib.hid hown7; have Hg7 := Lib.hid hg7; clear hown7 hg7 hat7)
   go_roundw
   case rel => exact ⟨_, k + 1, rfl, by omega, by go_num, Lib.hid (by rw [HS.out]; exact Ho7.out), (Hb.out.alloc hz _).grown Hg7.out (Hb.out.alloc hz _).size (own_ge0 Ho.out)⟩
   case measure => simp [intOf] <;> omega
  ·obtain rfl : k = ls.length := by omega
   go_wp2_with fail
   go_ret
   exact ⟨_, rfl, by rw [lits_length]; have := Ho.out; rwa [List.take_length] at this, hb⟩
theorem l2Lits_any (v vl : Value) (xs : List Bool) (ls : List Nat) (w : World) (h : BoolsAt w v xs) (hl : NatsAt w vl ls) (hlt : ∀ l ∈ ls, l < 2 * xs.length) (hn : ls.length ≤ 1000) (hx : xs.length ≤ 1000) :
  Calls Try.prog 127 #[v, vl] w (OwnBools (Cir.lits xs ls) w) := by
 obtain ⟨A, c, rfl, hc, hcm⟩ := hl.shape
 have Hl := Lib.hid hl
 have H := Lib.hid h
 have HLt := Lib.hid hlt
 clear hl h hlt
 go_enter Try.func127, Try.ntmps127
 go_wp2_with fail
 go_loopw [5, 6] (fun v i wr => ∃ (vv : Value) (k : Nat), vv = v ∧ k ≤ ls.length ∧ i = .int .i64 k ∧ Hid (wr.ownsRow w.heap.size 4 1 v k (bools (Cir.lits xs (ls.take k)))) ∧ Below w.heap.size w wr) (fun _ i _ => ls.length - (intOf i).toNat)
 case atStart => exact ⟨_, 0, rfl, Nat.zero_le _, rfl, Lib.hid (World.ownsRow_lit (base := w.heap.size) (e := 4) (size := 1) w #[] 0 (Nat.le_refl _) (by unfold maxLen; omega) rfl), (Below.refl _ _).alloc (Nat.le_refl _) _⟩
 case round =>
  obtain ⟨vv, k, hvv, hk, rfl, Ho, hb⟩ := hrel
  subst hvv
  by_cases hlt : k < ls.length
  ·have hz := hb.size
   have Hb := Lib.hid hb
   obtain ⟨b, o, l, rfl, hbl, hx0, hs0⟩ := nats_cell (nats_row (Hl.out.below hb)) rfl hlt
   have hl2 := HLt.out l (List.mem_of_getElem? hx0.out)
   have HS : Hid (bools (Cir.lits xs (ls.take (k + 1))) = bools (Cir.lits xs (ls.take k)) ++ [.bool (Cir.lit xs l)]) := Lib.hid (by rw [lits_snoc hx0.out, bools_append]; rfl)
   have Hx := Lib.hid (Row.below H.out hb)
   clear hb
   go_wp2_with fail
   refine (l2Lit_any _ xs l _ Hx.out hl2 (by omega)).mono ?_
   rintro e w' ⟨rfl, rfl⟩
   generalize Cir.lit xs l = u at *
   have Hlit := Lib.hid (Row.of_own (World.ownsRow_lit (base := wr.heap.size) (e := 4) (size := 1) wr #[.bool u] 1 (Nat.le_refl _) (by unfold maxLen; omega) rfl))
   go_wp2_with (at_builtin; refine append_bools rfl (.tmp 14) (.tmp 21) rfl w.heap.size _ k _ rfl (Ho.out.alloc _) _ 1 [.bool u] rfl Hlit.out (by simp [Value.oneCell']) (by omega) (by simp; omega) ?_; intro v7 w7 hown7 hg7 hat7; have Ho7 := Lib.hid hown7; have Hg7 := Lib.hid hg7; clear hown7 hg7 hat7)
   go_roundw
   case rel => exact ⟨_, k + 1, rfl, by omega, by go_num, Lib.hid (by rw [HS.out]; exact Ho7.out), (Hb.out.alloc hz _).grown Hg7.out (Hb.out.alloc hz _).size (own_ge0 Ho.out)⟩
   case measure => simp [intOf] <;> omega
  ·obtain rfl : k = ls.length := by omega
   go_wp2_with fail
   go_ret
   exact ⟨_, rfl, by rw [lits_length]; have := Ho.out; rwa [List.take_length] at this, hb⟩
theorem num_append : ∀ (a b : List Bool), Cir.num (a ++ b) = Cir.num a + 2 ^ a.length * Cir.num b
 | [], b => by simp [Cir.num]
 | x :: a, b => by
  rw [List.cons_append, Cir.num, Cir.num, num_append a b, List.length_cons, Nat.pow_succ]
  rw [Nat.mul_add, ← Nat.mul_assoc, Nat.mul_comm 2 (2 ^ a.length)]
  omega
theorem num_snoc (a : List Bool) (b : Bool) : Cir.num (a ++ [b]) = Cir.num a + (if b then 2 ^ a.length else 0) := by
 rw [num_append]
 cases b <;> simp [Cir.num]
theorem num_drop {l : List Bool} {k : Nat} {b : Bool} (h : l[k]? = some b) : Cir.num (l.drop k) = (if b then 1 else 0) + 2 * Cir.num (l.drop (k + 1)) := by
 obtain ⟨hk, rfl⟩ := List.getElem?_eq_some_iff.1 h
 rw [List.drop_eq_getElem_cons hk, Cir.num]
theorem num_or {a : List Bool} : Cir.num a ||| 2 ^ a.length = Cir.num a + 2 ^ a.length := by
 have h := Cir.num_lt a
 rw [Nat.or_comm]
 have := Nat.two_pow_add_eq_or_of_lt h 1
 rw [Nat.mul_one] at this
 omega
theorem number_any (v : Value) (xs : List Bool) (w : World) (h : BoolsAt w v xs) (hx : xs.length ≤ 16) :
  Calls Try.prog 113 #[v] w fun e w' => e = .returned (.int .i64 (Cir.num xs : Nat)) ∧ w = w' := by
 obtain ⟨A, c, hv, hc, hcm⟩ := Row.shape h
 subst hv
 have H := Lib.hid h
 clear h
 go_enter Try.func113, Try.ntmps113
 go_wp2_with fail
 go_loop [3, 8] (fun x i => ∃ (k : Nat), k ≤ xs.length ∧ i = .int .i64 k ∧ x = .int .i64 (Cir.num (xs.take k) : Nat)) (fun _ i => xs.length - (intOf i).toNat)
 case atStart => exact ⟨0, Nat.zero_le _, rfl, rfl⟩
 case round =>
  obtain ⟨k, hk, rfl, rfl⟩ := hrel
  by_cases hlt : k < xs.length
  ·obtain ⟨b, o, u, rfl, hbl, hx0, hs0⟩ := bools_open H.out (Below.refl _ _) rfl hlt
   have htl : (xs.take k).length = k := by rw [List.length_take]; omega
   have HS : Hid (Cir.num (xs.take (k + 1)) = Cir.num (xs.take k) + (if u then 2 ^ k else 0)) := Lib.hid (by rw [take_snoc hx0.out, num_snoc, htl])
   have hlt2 : Cir.num (xs.take k) < 65536 := by
    have h1 := Cir.num_lt (xs.take k)
    rw [htl] at h1
    have h2 : 2 ^ k ≤ 2 ^ 16 := Nat.pow_le_pow_right (show 0 < 2 by decide) (by omega)
    omega
   have hor : Cir.num (xs.take k) ||| 2 ^ k = Cir.num (xs.take k) + 2 ^ k := by have := num_or (a := xs.take k); rwa [htl] at this
   have h2 : 2 ^ k ≤ 65536 := by
    have h2 : 2 ^ k ≤ 2 ^ 16 := Nat.pow_le_pow_right (show 0 < 2 by decide) (by omega)
    omega
   have hbor := i64_or_nat (Cir.num (xs.take k)) (2 ^ k) (by omega) (by omega)
   rw [hor] at hbor
   clear hor htl
   obtain ⟨N2, hN2⟩ : ∃ N2, Cir.num (xs.take (k + 1)) = N2 := ⟨_, rfl⟩
   rw [hN2] at HS
   have HN2 := Lib.hid hN2
   clear hN2
   generalize Cir.num (xs.take k) = N at *
   have e2 : (2 : Int) ^ k = ((2 ^ k : Nat) : Int) := two_pow k
   generalize 2 ^ k = M at *
   have hwM := IntWalk.i64_in (M : Int) (by omega)
   cases u
   ·go_wp2_with fail
    go_round
    case rel => exact ⟨k + 1, by omega, by go_num, by rw [HN2.out, HS.out]; rfl⟩
    case measure => simp [intOf] <;> omega
   ·go_wp2_with fail
    go_round
    case rel => exact ⟨k + 1, by omega, by go_num, by rw [HN2.out, HS.out]; rfl⟩
    case measure => simp [intOf] <;> omega
  ·obtain rfl : k = xs.length := by omega
   go_wp2_with fail
   go_ret
   exact ⟨rfl, rfl⟩
theorem l16Number_any (v : Value) (xs : List Bool) (w : World) (h : BoolsAt w v xs) (hx : xs.length ≤ 16) :
  Calls Try.prog 76 #[v] w fun e w' => e = .returned (.int .i64 (Cir.num xs : Nat)) ∧ w = w' := by
 obtain ⟨A, c, hv, hc, hcm⟩ := Row.shape h
 subst hv
 have H := Lib.hid h
 have H0 : Hid (xs.drop xs.length = []) := Lib.hid (List.drop_eq_nil_of_le (Nat.le_refl _))
 have HD : Hid (xs.drop 0 = xs) := Lib.hid rfl
 clear h
 go_enter Try.func76, Try.ntmps76
 go_wp2_with fail
 go_loop [3, 4] (fun x i => ∃ (k : Nat), k ≤ xs.length ∧ i = .int .i64 ((k : Int) - 1) ∧ x = .int .i64 (Cir.num (xs.drop k) : Nat)) (fun _ i => (intOf i + 1).toNat)
 case atStart => exact ⟨xs.length, Nat.le_refl _, rfl, by rw [H0.out]; rfl⟩
 case round =>
  obtain ⟨k, hk, rfl, rfl⟩ := hrel
  by_cases hlt : 0 < k
  ·obtain ⟨j, rfl⟩ : ∃ j, k = j + 1 := ⟨k - 1, by omega⟩
   have ej : ((j + 1 : Nat) : Int) - 1 = (j : Int) := by omega
   rw [ej]
   obtain ⟨b, o, u, rfl, hbl, hx0, hs0⟩ := bools_open H.out (Below.refl _ _) rfl (show j < xs.length by omega)
   have HS : Hid (Cir.num (xs.drop j) = (if u then 1 else 0) + 2 * Cir.num (xs.drop (j + 1))) := Lib.hid (num_drop hx0.out)
   have hlt2 : Cir.num (xs.drop (j + 1)) < 65536 := by
    have h1 := Cir.num_lt (xs.drop (j + 1))
    have h2 : 2 ^ (xs.drop (j + 1)).length ≤ 2 ^ 16 := Nat.pow_le_pow_right (show 0 < 2 by decide) (by rw [List.length_drop]; omega)
    omega
   generalize Cir.num (xs.drop (j + 1)) = N at *
   clear ej
   cases u
   ·go_wp2_with fail
    go_round
    case rel => exact ⟨j, by omega, by go_num, by rw [HS.out]; simp only [Bool.false_eq_true, if_false, Nat.zero_add]; rfl⟩
    case measure => simp [intOf] <;> omega
   ·go_wp2_with fail
    go_round
    case rel => exact ⟨j, by omega, by go_num, by first | (rw [HS.out]; done) | (rw [HS.out]; go_num)⟩
    case measure => simp [intOf] <;> omega
  ·obtain rfl : k = 0 := by omega
   go_wp2_with fail
   go_ret
   exact ⟨rfl, rfl⟩
end Go.Proofs.Ytkkkjbinfdohpaa