import Derived.Test.YtdgminjbgjbamaaS03
import Derived.Test.YtdgminjbgjbamaaS01
import Derived.Tactics
import Derived.Test.YtdgminjbgjbamaaS02
import Derived.Test.YtdgminjbgjbamaaProg
import Derived.Lib.SmallJoins
import Derived.ProofKit
import Derived.Deep.Slices
import Derived.Deep.Fields
import Derived.ChangeSame
set_option linter.unusedVariables false
set_option linter.unusedSimpArgs false
set_option maxRecDepth 100000
set_option maxHeartbeats 16000000
namespace Go.Proofs.Ytdgminjbgjbamaa
open Go.RowKit
section
variable {S : RS} {Fin : List Ty → Prop} {o : Oper} {l : List Oper} {i : Nat} {τs : List Ty}
theorem rs_eq (hO : S.Ok) (hid : i ≠ S.d ∨ ∀ ov w, S.J ov w) {c : Value}
    (h : ∀ ρ w, Only S.E S.w0 w → Known S.ops (tys τs) S.a0 ρ w i o.op.operands.toList → (execOp ρ o).run S.P w = .ok (.value c) w)
    (rest : RSeq S Fin l (i + 1) (TEq c :: τs)) : RSeq S Fin (o :: l) i τs :=
  rs_look hO hid (TEq c) (stb_eq _ _) (fun ρ w ho hK => ⟨c, h ρ w ho hK, rfl⟩) rest
end
end Go.Proofs.Ytdgminjbgjbamaa
namespace Go.Proofs.Ytdgminjbgjbamaa
open Go.RowKit
def JStep (R0 R1 : World → Prop) : Option Value → World → Prop
  | none, w => R0 w
  | some _, w => R1 w
@[reducible] def stepRS (Pg : Program) (ops : Array Oper) (w : World) (a : Act) (E : Nat → Prop) (R0 R1 : World → Prop) (d : Nat) : RS :=
  { P := Pg, ops := ops, E := E, F := fun _ => False, rd := none, w0 := w, J := JStep R0 R1, d := d, a0 := a }
theorem stepRS_ok {Pg : Program} {ops : Array Oper} {w : World} {a : Act} {E : Nat → Prop} {R0 R1 : World → Prop} {d : Nat} (hE : ∀ g, E g → g < w.heap.size) (h0 : ∀ w1 w2, R0 w1 → Below w1.heap.size w1 w2 → R0 w2) (h1 : ∀ w1 w2, R1 w1 → Below w1.heap.size w1 w2 → R1 w2) : (stepRS Pg ops w a E R0 R1 d).Ok :=
  ⟨fun _ h => h.elim, fun ov w1 w2 hj ho => by
    cases ov with
    | none => exact h0 _ _ hj (only_below ho)
    | some v => exact h1 _ _ hj (only_below ho),
    fun _ _ e => (by cases e), hE⟩
def TOwn (B : Nat) (e : TypeId) (size n : Nat) (cs : List Value) : Ty := fun w v => w.ownsRow B e size v n cs
def TOwn2 (B : Nat) (e : TypeId) (n : Nat) (cs : List Value) (e' : TypeId) (n' : Nat) (cs' : List Value) : Ty := fun w v => ∃ a b, v = .agg #[a, b] ∧ w.ownsRow B e 1 a n cs ∧ w.ownsRow B e' 1 b n' cs'
section
variable {S : RS} {Fin : List Ty → Prop} {o : Oper} {l : List Oper} {i : Nat} {τs : List Ty}
end
end Go.Proofs.Ytdgminjbgjbamaa
namespace Go.Proofs.Ytdgminjbgjbamaa
open Go.RowKit
def JApp2 (T B : Nat) (e : TypeId) (size : Nat) (v : Value) (n : Nat) (cs news : List Value) : Option Value → World → Prop
  | none, w => w.ownsRow B e size v n cs
  | some v', w => w.ownsRow B e size v' (n + 1) (cs ++ news) ∧ ∀ g, v'.ownBlock = some g → v.ownBlock = some g ∨ T ≤ g
@[reducible] def appRS2 (Pg : Program) (ops : Array Oper) (w : World) (a : Act) (B : Nat) (e : TypeId) (size : Nat) (v : Value) (n : Nat) (cs news : List Value) (d : Nat) : RS :=
  { P := Pg, ops := ops, E := fun g => v.ownBlock = some g, F := fun _ => False, rd := none, w0 := w, J := JApp2 w.heap.size B e size v n cs news, d := d, a0 := a }
theorem appRS2_ok {Pg : Program} {ops : Array Oper} {w : World} {a : Act} {B : Nat} {e : TypeId} {size : Nat} {v : Value} {n : Nat} {cs news : List Value} {d : Nat} (hown : w.ownsRow B e size v n cs) : (appRS2 Pg ops w a B e size v n cs news d).Ok :=
  ⟨fun _ h => h.elim, fun ov w1 w2 hj ho => by
    cases ov with
    | none => exact own_below hj (only_below ho)
    | some v' => exact ⟨own_below hj.1 (only_below ho), hj.2⟩,
    fun _ _ e => (by cases e), fun g hg => (hown.lt g hg).2⟩
section
variable {S : RS} {Fin : List Ty → Prop} {o : Oper} {l : List Oper} {i : Nat} {τs : List Ty}
theorem rs_append2 (hd : i = S.d) (B : Nat) (e t : TypeId) (size : Nat) (v : Value) (n : Nat) (cs news : List Value) (hJ : S.J = JApp2 S.w0.heap.size B e size v n cs news) (hrd : S.rd = none) (hE : ∀ g, v.ownBlock = some g → S.E g) (hB : B ≤ S.w0.heap.size)
    (x y : Nat) (ho : o.op = .call { callee := .builtin .append, args := #[.tmp x, .tmp y], argTypes := #[t, t] }) (jx jy : Nat) (hx : writer S.ops i x = some jx) (hy : writer S.ops i y = some jy) (hTx : tys τs jx = TEq v) (hTy : tys τs jy = TNew S.E size 1 news)
    (inf : TypeInfo) (z : Value) (bytes : Nat) (ht : S.P.underlying t = some (.slice e)) (hi : S.P.info? e = some inf) (hz : inf.zero = some z) (hsize : inf.size = size) (hby : inf.bytes = bytes) (hzs : z.cells.size = size) (hsz : 0 < size) (h63 : n ≤ 1000000) (hbb : bytes ≤ 1000) (hone : ∀ u ∈ news, u.oneCell' = true)
    (rest : RSeq S Fin l (i + 1) (TAny :: τs)) : RSeq S Fin (o :: l) i τs := by
  intro _
  refine ⟨TAny, stb_any _, fun k ov ρ w hk hI hov hK => ?_, rest⟩
  obtain rfl := hov (by rw [hd]; exact ancB_self _ _ _)
  rw [ho] at hK
  have h1 := hK.1
  have h2 := hK.2.1
  rw [hx] at h1
  rw [hy] at h2
  simp only [hTx] at h1
  simp only [hTy] at h2
  have h1' : ρ (.tmp x) = v := h1
  have h2' : Row w size (ρ (.tmp y)) 1 news := h2.1
  have hown : w.ownsRow B e size v n cs := by have := hI.2.2; rw [hJ] at this; exact this
  obtain ⟨v', w', hrun, hown', hgr, hat⟩ := run_append_row_at (P := S.P) w B t o.type e inf z size bytes ht hi hz hsize hby hzs hsz v n cs hown _ 1 news h2' hone (by unfold maxLen; omega) (Nat.le_trans (Nat.mul_le_mul (show n + 1 ≤ 1000001 by omega) hbb) (by decide)) (Nat.le_trans hB hI.2.1.size)
  have hre : (execOp ρ o).run S.P w = .ok (.value v') w' := by
    unfold execOp
    simp only [ho, resolve, invoke, builtin, Sem.run_bind, Sem.run_pure, Result.andThen_ok, List.map_toArray, List.map_cons, List.map_nil, h1', hrun]
  unfold Good
  rw [hre]
  have hon : Only S.E w w' := Only.grown hgr hE
  refine ⟨trivial, ⟨?_, hI.2.1.trans hon, ?_⟩, hon⟩
  · rw [hrd]; trivial
  · rw [if_pos hd, hJ]
    refine ⟨hown', fun g hg => ?_⟩
    rcases hat with h | h
    · exact .inl (h.symm.trans hg)
    · have := Option.some.inj (h.symm.trans hg)
      have h5 := hI.2.1.size
      exact .inr (by omega)
end
end Go.Proofs.Ytdgminjbgjbamaa
namespace Go.Proofs.Ytdgminjbgjbamaa
open Go.RowKit
section
variable {P : Program} {ops : Array Oper}
theorem putSome_is (hB : rgB ops = true) {a0 : Act} {f : Nat → Value} : ∀ (l : List Oper) (k : Nat) (a : Act), (ops.toList.drop k).take l.length = l → Is ops a0 (fun j => decide (j < k)) f a → Is ops a0 (fun j => decide (j < k + l.length)) f (putAll l f k a)
  | [], k, a, _, h => h
  | o :: l, k, a, hl, h => by
    have hk : k < ops.toList.length := by
      rcases Nat.lt_or_ge k ops.toList.length with h' | h'
      · exact h'
      · rw [List.drop_eq_nil_of_le h'] at hl; simp at hl
    rw [List.drop_eq_getElem_cons hk, List.length_cons, List.take_succ_cons] at hl
    injection hl with h1 h2
    have ho : ops[k]? = some o := by
      rw [← h1, ← Array.getElem?_toList, List.getElem?_eq_getElem hk]
    have hs := h.step hB ho (by simp) (f k)
    have e1 : (fun j => if j = k then true else decide (j < k)) = fun j => decide (j < k + 1) := by
      funext j
      by_cases e : j = k
      · subst e; simp
      · simp [e]; omega
    have e2 : (fun j => if j = k then f k else f j) = f := by
      funext j
      by_cases e : j = k <;> simp [e]
    rw [e1, e2] at hs
    have := putSome_is hB l (k + 1) _ h2 hs
    rw [List.length_cons, show k + (l.length + 1) = k + 1 + l.length from by omega]
    exact this
theorem ready_nil {listed : Array Bool} (hsz : listed.size = ops.size) (hall : ∀ i, i < ops.size → listed.getD i false = true) : Region.ready .any ops listed = [] := by
  refine List.eq_nil_iff_forall_not_mem.2 fun i hi => ?_
  obtain ⟨h1, o, ho, _⟩ := mem_ready.1 hi
  have hlt := (Array.getElem?_eq_some_iff.1 ho).1
  have h2 := hall i hlt
  have hil : i < listed.size := by omega
  have h3 : listed.getD i false = false := by simpa [Array.getD, hil] using h1
  rw [h2] at h3
  cases h3
theorem wpAny_done {Q : Exit → Act → World → Prop} {listed : Array Bool} {a : Act} {w : World} (h : Region.ready .any ops listed = []) (hq : Q .normal a w) : ∀ fuel, wpAny P .any ops Q fuel listed a w
  | 0 => ⟨h, hq⟩
  | fuel + 1 => ⟨fun _ => hq, fun i hi => by rw [h] at hi; cases hi⟩
theorem rg_last {Q : Exit → Act → World → Prop} {τ : Nat → World → Value → Prop} {d m : Nat} {I : Nat → Option Value → World → Prop} {G : World → World → Prop} {a0 : Act} {om : Oper} (hB : rgB ops = true) (hS : (ops.all fun o => match o.dst with | some t => decide (t < a0.tmps.size) | none => true) = true)
    (hm : ops.size = m + 1) (hom : ops[m]? = some om) (hlast : ∀ j, j < m → ancB ops 16 j m = true)
    (hG : ∀ i v w w', τ i w v → G w w' → τ i w' v)
    (hstep : ∀ i o, i < m → ops[i]? = some o → ∀ k ov ρ w, k < ops.size → I k ov w → (ancB ops 8 i d = true → ov = none) → Known ops τ a0 ρ w i o.op.operands.toList → Good P o ρ w fun v w' => τ i w' v ∧ I (k + 1) (if i = d then some v else ov) w' ∧ G w w')
    (hd : d < m) (hend : ∀ f w' k, k ≤ ops.size → I k (some (f d)) w' → (∀ i, i < m → τ i w' (f i)) → Copies ops (fun j => decide (j < m)) f → om.wp P (putAll (ops.toList.take m) f 0 a0) w' (fun a w => Q .normal a w) Q ∨ (om.asks P (putAll (ops.toList.take m) f 0 a0) w' ∧ LetsOut Q)) :
    ∀ (fuel : Nat) (listed : Array Bool) (a : Act) (w : World) (k : Nat), k + fuel = ops.size → listed.size = ops.size → open_ ops listed ≤ fuel → listed.getD m false = false → Inv ops τ d (I k) a0 (fun i => listed.getD i false) a w → wpAny P .any ops Q fuel listed a w := by
  have ready_m : ∀ (listed : Array Bool) (L : Shut ops (fun i => listed.getD i false)), listed.size = ops.size → (∀ i, i < m → listed.getD i false = true) → listed.getD m false = false → m ∈ Region.ready .any ops listed := by
    intro listed L hsz hall hmf
    have hil : m < listed.size := by omega
    refine mem_ready.2 ⟨by simpa [Array.getD, hil] using hmf, om, hom, fun e he hbn => hall e.on ((rgB_ok hB hom).back e he hbn)⟩
  intro fuel
  induction fuel with
  | zero =>
    intro listed a w k hk hsz hc hmf h
    exfalso
    have hpos : 0 < open_ ops listed := List.countP_pos_iff.2 ⟨m, List.mem_range.2 (by omega), by simp [hmf]⟩
    omega
  | succ fuel ih =>
    intro listed a w k hk0 hsz hc hmf h
    have hnil : Region.ready .any ops listed = [] → False := by
      intro hr
      have hall : ∀ i, i < m → listed.getD i false = true := by
        intro i
        induction i using Nat.strongRecOn with
        | _ i ihi =>
          intro hi
          rcases hb : listed.getD i false with _ | _
          · exfalso
            have hi' : i < ops.size := by omega
            have hmm : i ∈ Region.ready .any ops listed := mem_ready.2 ⟨by
              have : i < listed.size := by omega
              simpa [Array.getD, this] using hb, ops[i], Array.getElem?_eq_getElem hi', fun e he hbn => ihi e.on ((rgB_ok hB (Array.getElem?_eq_getElem hi')).back e he hbn) (by
                have := (rgB_ok hB (Array.getElem?_eq_getElem hi')).back e he hbn
                omega)⟩
            rw [hr] at hmm
            cases hmm
          · rfl
      have := ready_m listed h.shut hsz hall hmf
      rw [hr] at this
      cases this
    refine ⟨fun hr => (hnil hr).elim, fun i hi => ?_⟩
    obtain ⟨h1, o, ho, hr⟩ := mem_ready.1 hi
    have hlt := (Array.getElem?_eq_some_iff.1 ho).1
    have hil : i < listed.size := by omega
    have h1' : listed.getD i false = false := by simpa [Array.getD, hil] using h1
    have eL : (fun j => (listed.setIfInBounds i true).getD j false) = fun j => if j = i then true else listed.getD j false := by
      funext j
      by_cases e : j = i
      · subst e; simp [hil]
      · simp only [e, if_false]
        exact getD_set_ne false (fun h => e h.symm)
    unfold wpOp
    simp only [ho]
    rw [if_pos (by simp [Region.wanted, (rgB_ok hB ho).guard])]
    by_cases him : i = m
    · subst him
      obtain rfl := Option.some.inj (ho.symm.trans hom)
      obtain ⟨hC, f, hf, hI, hτ, hcp⟩ := h
      have hall : ∀ j, j < i → listed.getD j false = true := by
        intro j hj
        have hj2 := hlast j hj
        rw [show (16 : Nat) = 15 + 1 from rfl, ancB, Bool.or_eq_true] at hj2
        rcases hj2 with hj2 | hj2
        · exact absurd (by simpa using hj2) (Nat.ne_of_lt hj)
        · simp only [ho, Option.map_some, Option.getD_some, Array.any_eq_true] at hj2
          obtain ⟨q, hq, hj2⟩ := hj2
          rw [Bool.and_eq_true] at hj2
          exact ancB_shut hC 15 j _ hj2.2 (hr _ (Array.getElem_mem hq) hj2.1)
      have hI : I k (some (f d)) w := by simpa [hall d hd] using hI
      have eLt : ∀ j, j < ops.size → (listed.getD j false = true ↔ j < i) := by
        intro j hj
        constructor
        · intro hl
          rcases Nat.lt_or_ge j i with h5 | h5
          · exact h5
          · have : j = i := by omega
            subst this
            rw [h1'] at hl; cases hl
        · exact hall j
      have e1 : Is ops a0 (fun j => decide (j < i)) f a := ⟨hf.defers, hf.size, fun j p t hj hp hd2 hl => hf.mine j p t (hall j (by simpa using hj)) hp hd2 hl,
        fun t ht => hf.old t fun j p hj hp => ht j p (by
          have hjs := (Array.getElem?_eq_some_iff.1 hp).1
          simpa using (eLt j hjs).1 hj) hp⟩
      have e0 : Is ops a0 (fun j => decide (j < 0)) f a0 := ⟨rfl, rfl, fun _ _ _ h => by simp at h, fun _ _ => rfl⟩
      have hlen : (ops.toList.take i).length = i := by simp; omega
      have e2 := putSome_is hB (ops.toList.take i) 0 a0 (by rw [hlen]; rfl) e0
      rw [hlen, Nat.zero_add] at e2
      rw [e1.same e2]
      refine (hend f w k (by omega) hI (fun j hj => (hτ j (hall j hj)).2) fun j p t q hj hp ha hw => ?_).imp (Oper.wp_mono fun a' w' hq => ?_) id
      rotate_left
      · refine wpAny_done (ready_nil (by simpa using hsz) fun j hj => ?_) hq fuel
        have : (listed.setIfInBounds i true).getD j false = if j = i then true else listed.getD j false := congrFun eL j
        rw [this]
        by_cases e : j = i
        · simp [e]
        · simp only [e, if_false]
          exact hall j (by omega)
      · have hj' : j < i := by simpa using hj
        obtain ⟨h5, h6⟩ := hcp j p t q (hall j hj') hp ha hw
        exact ⟨by simpa using (eLt q (hτ q h5).1).1 h5, h6⟩
    have hltm : i < m := by omega
    have hk := h.known hB hS ho h1' hr
    have hcopy : ∀ (f : Nat → Value), Is ops a0 (fun i => listed.getD i false) f a → ∀ t j, o.op = .assign (.tmp t) → writer ops i t = some j → listed.getD j false = true ∧ a.eval (.tmp t) = f j := fun f hf t j ha hw => h.copy hB hS ho h1' hr hf ha hw
    obtain ⟨hC, f, hf, hI, hτ, hcp⟩ := h
    have hg := hstep i o hltm ho k _ a.eval w (by omega) hI (fun e => if_neg (fun hdl => by have := ancB_shut hC 8 i d e hdl; rw [h1'] at this; cases this)) hk
    refine .inl (Good.wp hg.assign fun v w' ⟨⟨hv, hI', hgw⟩, hva⟩ => ?_)
    refine ih _ _ _ (k + 1) (by omega) (by simpa using hsz) ?_ ?_ ?_
    · have : open_ ops (listed.setIfInBounds i true) < open_ ops listed := by
        refine countP_lt (fun x _ hx => ?_) ⟨i, List.mem_range.2 hlt, by simpa using h1', ?_⟩
        · have : (listed.setIfInBounds i true).getD x false = if x = i then true else listed.getD x false := congrFun eL x
          rw [this] at hx
          by_cases e : x = i
          · simp [e] at hx
          · simpa [e] using hx
        · have : (listed.setIfInBounds i true).getD i false = if i = i then true else listed.getD i false := congrFun eL i
          rw [this]
          simp
      omega
    · have : (listed.setIfInBounds i true).getD m false = if m = i then true else listed.getD m false := congrFun eL m
      rw [this, if_neg (fun e => him e.symm)]
      exact hmf
    · rw [eL]
      refine ⟨fun j p hj hp e he hb => ?_, _, hf.step hB ho h1' v, ?_, fun j hj => ?_, fun j p t q hj hp ha hw => ?_⟩
      · by_cases ej : j = i
        · subst ej
          obtain rfl := Option.some.inj (ho.symm.trans hp)
          have := hr e he hb
          by_cases ee : e.on = j <;> simp [ee, this]
        · simp only [ej, if_false] at hj
          have := hC j p hj hp e he hb
          by_cases ee : e.on = i <;> simp [ee, this]
      · by_cases ed : i = d
        · subst ed
          simpa using hI'
        · simpa [ed, show ¬ d = i from fun h => ed h.symm] using hI'
      · by_cases ej : j = i
        · subst ej
          exact ⟨hlt, by simpa using hv⟩
        · simp only [ej, if_false] at hj ⊢
          exact ⟨(hτ j hj).1, hG j _ _ _ (hτ j hj).2 hgw⟩
      · have hqj : q < j := List.mem_range.1 (List.mem_of_find?_eq_some hw)
        by_cases ej : j = i
        · subst ej
          obtain rfl := Option.some.inj (ho.symm.trans hp)
          obtain ⟨h5, h6⟩ := hcopy f hf t q ha hw
          have hne : q ≠ j := by omega
          exact ⟨by simp only [hne, if_false]; exact h5, by simp only [hne, if_false, if_true]; rw [hva _ ha, h6]⟩
        · simp only [ej, if_false] at hj ⊢
          obtain ⟨h5, h6⟩ := hcp j p t q hj hp ha hw
          have h5' : listed.getD q false = true := h5
          have hne : q ≠ i := fun e => by rw [e, h1'] at h5'; cases h5'
          simp only [hne, if_false]
          exact ⟨h5, h6⟩
end
theorem rseq_types_l {S : RS} {Fin : List Ty → Prop} : ∀ (l : List Oper) (τs : List Ty), (S.ops.toList.drop τs.length).take l.length = l → (∀ T ∈ τs, Stb S.E T) → RSeq S Fin l τs.length τs →
    ∃ τ : List Ty, (∀ j, j < τs.length → tys τ j = tys τs j) ∧ (∀ T ∈ τ, Stb S.E T) ∧ Fin τ ∧ ∀ i o, τs.length ≤ i → i < τs.length + l.length → S.ops[i]? = some o → ∀ k ov ρ w, k < S.ops.size → S.I k ov w → (ancB S.ops 8 i S.d = true → ov = none) → Known S.ops (tys τ) S.a0 ρ w i o.op.operands.toList → Good S.P o ρ w fun v w' => tys τ i w' v ∧ S.I (k + 1) (if i = S.d then some v else ov) w' ∧ Only S.E w w'
  | [], τs, _, hst, h => ⟨τs, fun _ _ => rfl, hst, h, fun i o hi hi2 ho => by simp at hi2; omega⟩
  | o :: l, τs, hl, hst, h => by
    obtain ⟨T, hT, hg, hr⟩ := h hst
    have hst' : ∀ T' ∈ T :: τs, Stb S.E T' := by
      intro T' hT'
      rcases List.mem_cons.1 hT' with h1 | h1
      · rw [h1]; exact hT
      · exact hst T' h1
    have hk : τs.length < S.ops.toList.length := by
      rcases Nat.lt_or_ge τs.length S.ops.toList.length with h' | h'
      · exact h'
      · rw [List.drop_eq_nil_of_le h'] at hl; simp at hl
    rw [List.drop_eq_getElem_cons hk, List.length_cons, List.take_succ_cons] at hl
    injection hl with hl1 hl2
    obtain ⟨τ, h2, h3, h4, h5⟩ := rseq_types_l l (T :: τs) (by rw [List.length_cons]; exact hl2) hst' (by rw [List.length_cons]; exact hr)
    rw [List.length_cons] at h2 h5
    have hget : ∀ j, j < τs.length → tys τ j = tys τs j := fun j hj => (h2 j (by omega)).trans (tys_old T τs hj)
    have hgetT : tys τ τs.length = T := (h2 _ (by omega)).trans (tys_new T τs)
    refine ⟨τ, hget, h3, h4, fun i o' hi hi2 ho => ?_⟩
    rw [List.length_cons] at hi2
    rcases Nat.lt_or_ge τs.length i with hlt | hge
    · exact h5 i o' hlt (by omega) ho
    · obtain rfl : i = τs.length := by omega
      have : o' = o := by
        have e : S.ops[τs.length]? = some o := by
          rw [← hl1, ← Array.getElem?_toList, List.getElem?_eq_getElem hk]
        exact Option.some.inj (ho.symm.trans e)
      subst this
      intro k ov ρ w hk hI hd hK
      rw [hgetT]
      exact hg k ov ρ w hk hI hd (known_mono (fun j w v hj h => by rw [← hget j hj]; exact h) _ hK)
theorem wp_region_rsl {id : Nat} {Q : Exit → Act → World → Prop} (S : RS) (hO : S.Ok) (hm : S.P.follows .mixedOrders = true) (hB : rgB S.ops = true) (hS : (S.ops.all fun o => match o.dst with | some t => decide (t < S.a0.tmps.size) | none => true) = true)
    (m : Nat) (om : Oper) (hsz : S.ops.size = m + 1) (hom : S.ops[m]? = some om) (hlast : (List.range m).all (fun j => ancB S.ops 16 j m) = true) (hd : S.d < m)
    (hr : RdO S.rd 0 S.w0) (hJ : S.J none S.w0)
    (h : RSeq S (fun τ => ∀ f w' k, k ≤ S.ops.size → S.I k (some (f S.d)) w' → (∀ i, i < m → tys τ i w' (f i)) → Copies S.ops (fun j => decide (j < m)) f → wpList S.P S.ops Q [om] (putAll (S.ops.toList.take m) f 0 S.a0) w') (S.ops.toList.take m) 0 []) : (Code.region id S.ops true).wp S.P Q S.a0 S.w0 := by
  have hlen : (S.ops.toList.take m).length = m := by simp; omega
  obtain ⟨τ, _, h3, h4, h5⟩ := rseq_types_l (S.ops.toList.take m) [] (by rw [hlen]; rfl) (by simp) h
  have hg : om.guard = none := (rgB_ok hB hom).guard
  refine wp_region_any hm (rg_last (τ := tys τ) (d := S.d) (m := m) (I := S.I) (G := Only S.E) (a0 := S.a0) (om := om) hB hS hsz hom (fun j hj => List.all_eq_true.1 hlast j (List.mem_range.2 hj)) (fun i v w w' ht hg => tys_stb h3 i v w w' ht hg) (fun i o hi ho => h5 i o (Nat.zero_le _) (by rw [hlen]; simpa using hi) ho) hd (fun f w' k hk hI ht hc => ?_) S.ops.size (Array.replicate S.ops.size false) S.a0 _ 0 (by omega) (by simp) ?_ ?_ ?_)
  · have := h4 f w' k hk hI ht hc
    unfold wpList at this
    rw [if_pos (by simp [Region.wanted, hg])] at this
    exact this
  · unfold open_
    exact Nat.le_trans List.countP_le_length (by simp)
  · by_cases h : m < S.ops.size <;> simp [Array.getD, h]
  · have e : (fun i => (Array.replicate S.ops.size false).getD i false) = fun _ => false := by
      funext i
      by_cases h : i < S.ops.size <;> simp [Array.getD, h]
    rw [e]
    refine ⟨(fun j o hj => (by cases hj)), ⟨fun _ => undef, Is.start S.a0 _, ⟨?_, Only.drew _ _, hO.keep _ _ _ hJ (Only.drew _ _)⟩, (fun i hi => (by cases hi)), (fun i o t j hi => (by cases hi))⟩⟩
    cases hrd : S.rd with
    | none => trivial
    | some x =>
      rw [hrd] at hr
      exact Rd.drew1 hr
end Go.Proofs.Ytdgminjbgjbamaa
namespace Go.Proofs.Ytdgminjbgjbamaa
open Go.RowKit
section
variable {S : RS} {Fin : List Ty → Prop} {o : Oper} {l : List Oper} {i : Nat} {τs : List Ty}
theorem rs_callV (hO : S.Ok) (hid : i ≠ S.d ∨ ∀ ov w, S.J ov w) (T : Ty) (hT : Stb S.E T) (x : Operand) (args : Array Operand) (at_ : Array TypeId) (ho : o.op = .call { callee := .value x, args := args, argTypes := at_ })
    (h : ∀ ρ w, Only S.E S.w0 w → Known S.ops (tys τs) S.a0 ρ w i (x :: args.toList) → ∃ f vs, (execOp ρ o).run S.P w = .ok (.enter f vs) w ∧ Calls S.P f vs w fun e w' => ∃ v, e = .returned v ∧ T w' v ∧ Below w.heap.size w w')
    (rest : RSeq S Fin l (i + 1) (T :: τs)) : RSeq S Fin (o :: l) i τs := by
  refine rs_plain hO hid T hT (fun k ρ w hk hr hon hK => ?_) rest
  have he : o.op.operands.toList = x :: args.toList := by rw [ho]; simp [Op.operands, Call.operands]
  rw [he] at hK
  obtain ⟨f, vs, h1, h2⟩ := h ρ w hon hK
  unfold Good
  rw [h1]
  refine h2.mono ?_
  rintro e w' ⟨v, rfl, h3, h4⟩
  refine ⟨h3, ?_, Only.of_below _ h4⟩
  have hr' := rdO_more hr
  cases hrd : S.rd with
  | none => trivial
  | some x =>
    rw [hrd] at hr'
    exact Rd.below hr' h4 (Rd.lt hr')
end
end Go.Proofs.Ytdgminjbgjbamaa
namespace Go.Proofs.Ytdgminjbgjbamaa
open Go.RowKit Go.Maps
theorem newBld_any (i n : Nat) (w : World) (hi : i ≤ 100) (hn : n ≤ 100) :
    Calls Try.prog 71 #[.int .i64 (i : Int), .int .i64 (n : Int)] w
      fun e w' => ∃ b E, e = .returned (.pointer (some ⟨b, 0, none⟩)) ∧ BldAt w.heap.size b (1 + i + n) [] E w' ∧ Below w.heap.size w w' := by
  have hmk := run_make_any (P := Try.prog) 23 3 _ 1 8 Try.underlying23 info_int .i64 .i64 (1 + i + n) (by omega) (by omega)
  have hmm := @run_makeMap Try.prog
  have h1 := IntWalk.i64_in (1 + (i : Int)) (by omega)
  have h2 := IntWalk.i64_in (1 + (i : Int) + (n : Int)) (by omega)
  have e1 : (1 + (i : Int) + (n : Int)) = ((1 + i + n : Nat) : Int) := by omega
  generalize 1 + i + n = F at *
  go_enter Try.func71, Try.ntmps71
  go_wp2
  go_ret
  have b1 := bel_new w (.cells (madeCells #[Value.int .i64 0] F) 3)
  generalize hW1 : w.alloc (.cells (madeCells #[Value.int .i64 0] F) 3) = w1 at *
  have z1 : w1.heap.size = w.heap.size + 1 := by rw [← hW1]; simp
  have b2 := bel_new w1 (.map #[] 0)
  have hM := gAt_made w1
  generalize hW2 : w1.alloc (.map #[] 0) = w2 at *
  have z2 : w2.heap.size = w1.heap.size + 1 := by rw [← hW2]; simp
  have b3 := bel_new w2 (.cells #[.int .i64 (F : Int), .slice none 0 0, .slice (some ⟨w.heap.size, 0, none⟩) F F, .map (some (w.heap.size + 1))] 95)
  have hB := heap_alloc_new w2 (.cells #[.int .i64 (F : Int), .slice none 0 0, .slice (some ⟨w.heap.size, 0, none⟩) F F, .map (some (w.heap.size + 1))] 95)
  have hO : w1.ownsRow w.heap.size 3 1 (.slice (some ⟨w.heap.size, 0, none⟩) F F) F (ints (List.replicate F 0)) := by
    have h := World.ownsRow_lit (base := w.heap.size) (e := 3) (size := 1) w (madeCells #[Value.int .i64 0] F) F (Nat.le_refl _) (by unfold maxLen; omega) (by simp [madeCells])
    rw [hW1] at h
    have e : (madeCells #[Value.int .i64 0] F).toList = ints (List.replicate F 0) := by simp [madeCells, ints, Nat.mod_one, List.map_const']
    rwa [e] at h
  generalize hW3 : w2.alloc (.cells #[.int .i64 (F : Int), .slice none 0 0, .slice (some ⟨w.heap.size, 0, none⟩) F F, .map (some (w.heap.size + 1))] 95) = w3 at *
  have z3 : w3.heap.size = w2.heap.size + 1 := by rw [← hW3]; simp
  have z0 : w2.heap.size = w.heap.size + 1 + 1 := by omega
  rw [z0] at hB
  refine ⟨_, fun g => w.heap.size ≤ g ∧ g < w.heap.size + 3, rfl, ⟨w.heap.size + 1, .slice none 0 0, .slice (some ⟨w.heap.size, 0, none⟩) F F, List.replicate F 0, ?_⟩, b1.trans ((b2.trans (b3.mono (by omega))).mono (by omega))⟩
  exact {
    box := hB
    gs := World.ownsRow_nil _ _ _ _
    ll := by simp
    lb := fun x hx => by have := List.eq_of_mem_replicate hx; simp [this]
    ls := own_below (own_below hO (b2.mono (by omega))) (b3.mono (by omega))
    map := by rw [← z1]; exact hM.below b3
    eb := by omega
    em := by omega
    eg := fun g hg => by cases hg
    el := fun g hg => by have := Option.some.inj hg; simp only at this; omega
    lo := fun g hg => by omega
    bm := by omega
    gb := by simp [Value.ownBlock]
    gm := by simp [Value.ownBlock]
    lb' := by simp [Value.ownBlock]; omega
    lm := by simp [Value.ownBlock]
    ap := fun g hg => by cases hg }
end Go.Proofs.Ytdgminjbgjbamaa
namespace Go.Proofs.Ytdgminjbgjbamaa
open Go.RowKit Go.Maps
theorem beq_ff {a b : Nat} (h : a ≠ b) : ((a : Int) == (b : Int)) = false := by rw [beq_eq_false_iff_ne]; omega
theorem beq_tt {a b : Nat} (h : a = b) : ((a : Int) == (b : Int)) = true := by rw [beq_iff_eq]; omega
theorem and_zero_st (b x y : Nat) (w : World) (hx : x < 1000000) (hy : y < 1000000) (hs : ¬ y < x) (hz : x = 0) :
    Calls Try.prog 72 #[.pointer (some ⟨b, 0, none⟩), .int .i64 (x : Int), .int .i64 (y : Int)] w
      fun e w' => e = .returned (.int .i64 (0 : Int)) ∧ w' = w := by
  have hxor : bits .xor .i64 (y : Int) 1 = ((y ^^^ 1 : Nat) : Int) := i64_xor_nat y 1 (by omega) (by omega)
  have d1 : decide (y < x) = false := decide_eq_false hs
  generalize hY : y ^^^ 1 = Y at *
  clear hs
  have e1 : ((x : Int) == 0) = true := beq_tt (b := 0) hz
  go_enter Try.func72, Try.ntmps72
  go_wp2_with fail
  go_ret
  exact ⟨rfl, rfl⟩
theorem and_neg_st (b x y : Nat) (w : World) (hx : x < 1000000) (hy : y < 1000000) (hs : ¬ y < x) (hz : x ≠ 0 ∧ x = y ^^^ 1) :
    Calls Try.prog 72 #[.pointer (some ⟨b, 0, none⟩), .int .i64 (x : Int), .int .i64 (y : Int)] w
      fun e w' => e = .returned (.int .i64 (0 : Int)) ∧ w' = w := by
  have hxor : bits .xor .i64 (y : Int) 1 = ((y ^^^ 1 : Nat) : Int) := i64_xor_nat y 1 (by omega) (by omega)
  have d1 : decide (y < x) = false := decide_eq_false hs
  generalize hY : y ^^^ 1 = Y at *
  clear hs
  have e1 : ((x : Int) == 0) = false := beq_ff (b := 0) hz.1
  have e2 : ((x : Int) == (Y : Int)) = true := beq_tt hz.2
  clear hz
  go_enter Try.func72, Try.ntmps72
  go_wp2_with fail
  go_ret
  exact ⟨rfl, rfl⟩
theorem and_one_st (b x y : Nat) (w : World) (hx : x < 1000000) (hy : y < 1000000) (hs : ¬ y < x) (hz : x ≠ 0 ∧ x ≠ y ^^^ 1 ∧ x = 1) :
    Calls Try.prog 72 #[.pointer (some ⟨b, 0, none⟩), .int .i64 (x : Int), .int .i64 (y : Int)] w
      fun e w' => e = .returned (.int .i64 (y : Int)) ∧ w' = w := by
  have hxor : bits .xor .i64 (y : Int) 1 = ((y ^^^ 1 : Nat) : Int) := i64_xor_nat y 1 (by omega) (by omega)
  have d1 : decide (y < x) = false := decide_eq_false hs
  generalize hY : y ^^^ 1 = Y at *
  clear hs
  have e1 : ((x : Int) == 0) = false := beq_ff (b := 0) hz.1
  have e2 : ((x : Int) == (Y : Int)) = false := beq_ff hz.2.1
  have e3 : ((x : Int) == 1) = true := beq_tt (b := 1) hz.2.2
  clear hz
  go_enter Try.func72, Try.ntmps72
  go_wp2_with fail
  go_ret
  exact ⟨rfl, rfl⟩
theorem and_same_st (b x y : Nat) (w : World) (hx : x < 1000000) (hy : y < 1000000) (hs : ¬ y < x) (hz : x ≠ 0 ∧ x ≠ y ^^^ 1 ∧ x ≠ 1 ∧ x = y) :
    Calls Try.prog 72 #[.pointer (some ⟨b, 0, none⟩), .int .i64 (x : Int), .int .i64 (y : Int)] w
      fun e w' => e = .returned (.int .i64 (y : Int)) ∧ w' = w := by
  have hxor : bits .xor .i64 (y : Int) 1 = ((y ^^^ 1 : Nat) : Int) := i64_xor_nat y 1 (by omega) (by omega)
  have d1 : decide (y < x) = false := decide_eq_false hs
  generalize hY : y ^^^ 1 = Y at *
  clear hs
  have e1 : ((x : Int) == 0) = false := beq_ff (b := 0) hz.1
  have e2 : ((x : Int) == (Y : Int)) = false := beq_ff hz.2.1
  have e3 : ((x : Int) == 1) = false := beq_ff (b := 1) hz.2.2.1
  have e4 : ((x : Int) == (y : Int)) = true := beq_tt hz.2.2.2
  clear hz
  go_enter Try.func72, Try.ntmps72
  go_wp2_with fail
  go_ret
  exact ⟨rfl, rfl⟩
theorem and_zero_sw (b x y : Nat) (w : World) (hx : x < 1000000) (hy : y < 1000000) (hs : x < y) (hz : x = 0) :
    Calls Try.prog 72 #[.pointer (some ⟨b, 0, none⟩), .int .i64 (y : Int), .int .i64 (x : Int)] w
      fun e w' => e = .returned (.int .i64 (0 : Int)) ∧ w' = w := by
  have hxor : bits .xor .i64 (y : Int) 1 = ((y ^^^ 1 : Nat) : Int) := i64_xor_nat y 1 (by omega) (by omega)
  have d1 : decide (x < y) = true := decide_eq_true hs
  generalize hY : y ^^^ 1 = Y at *
  have d1b : decide (0 < y) = true := decide_eq_true (by omega)
  have d1c : ¬ (y = 0) := by omega
  have e1 : ((x : Int) == 0) = true := beq_tt (b := 0) hz
  go_enter Try.func72, Try.ntmps72
  go_wp2_with fail
  go_ret
  exact ⟨rfl, rfl⟩
theorem and_neg_sw (b x y : Nat) (w : World) (hx : x < 1000000) (hy : y < 1000000) (hs : x < y) (hz : x ≠ 0 ∧ x = y ^^^ 1) :
    Calls Try.prog 72 #[.pointer (some ⟨b, 0, none⟩), .int .i64 (y : Int), .int .i64 (x : Int)] w
      fun e w' => e = .returned (.int .i64 (0 : Int)) ∧ w' = w := by
  have hxor : bits .xor .i64 (y : Int) 1 = ((y ^^^ 1 : Nat) : Int) := i64_xor_nat y 1 (by omega) (by omega)
  have d1 : decide (x < y) = true := decide_eq_true hs
  generalize hY : y ^^^ 1 = Y at *
  clear hs
  have e1 : ((x : Int) == 0) = false := beq_ff (b := 0) hz.1
  have e2 : ((x : Int) == (Y : Int)) = true := beq_tt hz.2
  clear hz
  go_enter Try.func72, Try.ntmps72
  go_wp2_with fail
  go_ret
  exact ⟨rfl, rfl⟩
theorem and_one_sw (b x y : Nat) (w : World) (hx : x < 1000000) (hy : y < 1000000) (hs : x < y) (hz : x ≠ 0 ∧ x ≠ y ^^^ 1 ∧ x = 1) :
    Calls Try.prog 72 #[.pointer (some ⟨b, 0, none⟩), .int .i64 (y : Int), .int .i64 (x : Int)] w
      fun e w' => e = .returned (.int .i64 (y : Int)) ∧ w' = w := by
  have hxor : bits .xor .i64 (y : Int) 1 = ((y ^^^ 1 : Nat) : Int) := i64_xor_nat y 1 (by omega) (by omega)
  have d1 : decide (x < y) = true := decide_eq_true hs
  generalize hY : y ^^^ 1 = Y at *
  clear hs
  have e1 : ((x : Int) == 0) = false := beq_ff (b := 0) hz.1
  have e2 : ((x : Int) == (Y : Int)) = false := beq_ff hz.2.1
  have e3 : ((x : Int) == 1) = true := beq_tt (b := 1) hz.2.2
  clear hz
  go_enter Try.func72, Try.ntmps72
  go_wp2_with fail
  go_ret
  exact ⟨rfl, rfl⟩
end Go.Proofs.Ytdgminjbgjbamaa
namespace Go.Proofs.Ytdgminjbgjbamaa
open Go.RowKit Go.Maps
theorem wpList_add_gate (w : World) {ops : Array Oper} {rest : List Oper} {o : Oper} {a : Act} {Q : Exit → Act → World → Prop} (hg : o.guard = none) (m x v : Operand) (hop : o.op = Op.mapUpdate 93 m x v) (b n : Nat) (f : Nat → Nat → Option Nat) (hm : a.eval m = .map (some b)) (h : GAt w b n f) (hn : n ≤ 1000000) (X Y V : Nat) (hX : X ≤ 10000000) (hY : Y ≤ 10000000) (hV : V ≤ 10000000) (hx : a.eval x = .agg #[.int .i64 (X : Int), .int .i64 (Y : Int)]) (hv : a.eval v = .int .i64 (V : Int))
    (hK : ∀ w', GAt w' b (n + 1) (fun x' y' => if x' = X ∧ y' = Y then some V else f x' y') → w.grownBy w' (some b) → wpList Try.prog ops Q rest (a.put o.dst undef) w') : wpList Try.prog ops Q (o :: rest) a w := by
  refine wpList_plain hg fun K' hK' => ?_
  obtain ⟨w', hrun, r1, r2⟩ := h.add hn (x := X) (y := Y) (v := V) (by omega) (by omega) (by omega)
  unfold gkey at hrun
  unfold Oper.wp
  simp [execOp, hop, hm, hx, hv, hrun, Result.andThen]
  exact hK' _ _ (hK w' r1 r2)
theorem rs_eq_before {S : RS} {Fin : List Ty → Prop} {o : Oper} {l : List Oper} {i : Nat} {τs : List Ty} (hO : S.Ok) (hid : i ≠ S.d) (hanc : ancB S.ops 8 i S.d = true) {c : Value}
    (h : ∀ ρ w, Only S.E S.w0 w → S.J none w → Known S.ops (tys τs) S.a0 ρ w i o.op.operands.toList → (execOp ρ o).run S.P w = .ok (.value c) w)
    (rest : RSeq S Fin l (i + 1) (TEq c :: τs)) : RSeq S Fin (o :: l) i τs :=
  rs_before hO hid hanc (TEq c) (stb_eq _ _) (fun k ρ w hr ho hJ hK => by
    unfold Good
    rw [h ρ w ho hJ hK]
    exact ⟨rfl, rdO_more hr, Only.refl _ _⟩) rest
theorem cubes_snoc2 (ks : List (Int × Int)) (x y : Int) : cubes (ks ++ [(x, y)]) = cubes ks ++ [.int .i64 x, .int .i64 y] := by
  unfold cubes
  rw [List.flatMap_append]
  rfl
theorem knownG_cons {F : Nat} {G : List (Nat × Nat)} {x y V : Nat} (hk : Cir.knownG F G x y = none) (hV : V = 2 * (F + G.length)) : (fun x' y' => if x' = x ∧ y' = y then some V else Cir.knownG F G x' y') = Cir.knownG F ((x, y) :: G) := by
  funext x' y'
  show _ = (match Cir.knownG F G x' y' with
    | some l => some l
    | none => if x' = x ∧ y' = y then some (2 * (F + G.length)) else none)
  by_cases e : x' = x ∧ y' = y
  · obtain ⟨rfl, rfl⟩ := e
    rw [hk]
    simp [hV]
  · rw [if_neg e]
    cases Cir.knownG F G x' y' with
    | some l => rfl
    | none => simp [e]
theorem bld_close {B b F N : Nat} {G : List (Nat × Nat)} {E : Nat → Prop} {m : Nat} {vg v7 v8 : Value} {L : List Int} {x y V n gl cl : Nat} {U : Int} {cs cs2 : List Value} {W3 w4 W4 W5 W6 : World} {cells : Array Value}
    (HN : ∀ g, E g → g < N) (H : Bld B b F G E m vg (.slice (some ⟨gl, 0, none⟩) (F + G.length) cl) L W3) (hN : N ≤ W3.heap.size) (O4 : Only (fun g => g = m) W3 w4) (HM : GAt W4 m (G.length + 1) (fun x' y' => if x' = x ∧ y' = y then some V else Cir.knownG F G x' y'))
    (O9 : Only (fun g => vg.ownBlock = some g) w4 W4) (h7 : W4.ownsRow B 72 2 v7 (G.length + 1) (cs ++ [.int .i64 (x : Int), .int .i64 (y : Int)])) (at7 : ∀ g, v7.ownBlock = some g → vg.ownBlock = some g ∨ w4.heap.size ≤ g) (hW5 : W5 = W4.setCell ⟨b, 1, none⟩ v7)
    (O10 : Only (fun g => (Value.slice (some ⟨gl, 0, none⟩) n cl).ownBlock = some g) W5 W6) (h8 : W6.ownsRow B 3 1 v8 (n + 1) (cs2 ++ [.int .i64 (1 + U)])) (at8 : ∀ g, v8.ownBlock = some g → (Value.slice (some ⟨gl, 0, none⟩) n cl).ownBlock = some g ∨ W5.heap.size ≤ g)
    (hx : W6.heap[b]? = some (.cells cells 95 (0, 0))) (hk : Cir.knownG F G x y = none) (hV : V = 2 * (F + G.length)) (hn : F + G.length = n) (hL : L.length = n) (hU : 0 ≤ U ∧ U ≤ G.length) (hcs : cubes (Cir.gatesOf G) = cs) (hcs2 : ints L = cs2) (hcl : cells.setIfInBounds 2 v8 = #[.int .i64 (F : Int), v7, v8, .map (some m)]) :
    Bld B b F ((x, y) :: G) (fun g => E g ∨ v7.ownBlock = some g ∨ v8.ownBlock = some g) m v7 v8 (L ++ [1 + U]) (W6.setCell ⟨b, 2, none⟩ v8) := by
  subst hn
  have z4 := O4.size
  have z9 := O9.size
  have z5 : W5.heap.size = W4.heap.size := by rw [hW5]; simp
  have z6 := O10.size
  have hEb := HN b H.eb
  have hEm := HN m H.em
  have hgl : E gl := H.el gl rfl
  have hgl2 := HN gl hgl
  have o5 : Only (fun g => g = b) W4 W5 := hW5 ▸ Only.grown (set_grown W4 b 1 _) (fun k hk => (Option.some.inj hk).symm)
  have o7 : Only (fun g => g = b) W6 (W6.setCell ⟨b, 2, none⟩ v8) := Only.grown (set_grown W6 b 2 _) (fun k hk => (Option.some.inj hk).symm)
  have z7 : (W6.setCell ⟨b, 2, none⟩ v8).heap.size = W6.heap.size := by simp
  have b7 : v7.ownBlock ≠ some b := fun e => by
    rcases at7 b e with h | h
    · exact H.gb h
    · omega
  have m7 : v7.ownBlock ≠ some m := fun e => by
    rcases at7 m e with h | h
    · exact H.gm h
    · omega
  have l7 : v7.ownBlock ≠ some gl := fun e => by
    rcases at7 gl e with h | h
    · exact H.ap gl h rfl
    · omega
  have b8 : v8.ownBlock ≠ some b := fun e => by
    rcases at8 b e with h | h
    · exact H.lb' h
    · omega
  have m8 : v8.ownBlock ≠ some m := fun e => by
    rcases at8 m e with h | h
    · exact H.lm h
    · omega
  have a78 : Apart v7 v8 := fun g h h' => by
    rcases at8 g h' with e | e
    · have e2 : gl = g := by simpa [Value.ownBlock] using e
      exact l7 (e2 ▸ h)
    · have := (h7.lt g h).2
      omega
  have eg7 : cubes (Cir.gatesOf ((x, y) :: G)) = cs ++ [.int .i64 (x : Int), .int .i64 (y : Int)] := by rw [Cir.gatesOf_cons, cubes_snoc2, hcs]
  have e8 : ints (L ++ [1 + U]) = cs2 ++ [.int .i64 (1 + U)] := by rw [ints_snoc, hcs2]
  have nv : ∀ g, v7.ownBlock = some g → ¬ (Value.slice (some ⟨gl, 0, none⟩) (F + G.length) cl).ownBlock = some g := fun g h e => by
    have e2 : gl = g := by simpa [Value.ownBlock] using e
    exact l7 (e2 ▸ h)
  exact {
    box := by rw [← hcl]; exact heap_setCell_same W6 b 2 _ _ v8 hx
    gs := by
      rw [eg7]
      exact own_only (own_only (own_only h7 o5 (fun g h e => b7 (e ▸ h))) O10 nv) o7 (fun g h e => b7 (e ▸ h))
    ll := by rw [List.length_append, hL]; simp; omega
    lb := fun u hu => by
      rcases List.mem_append.1 hu with h | h
      · have := H.lb u h
        simp only [List.length_cons]
        omega
      · have := List.mem_singleton.1 h
        simp only [List.length_cons]
        omega
    ls := by
      rw [e8]
      exact own_only h8 o7 (fun g h e => b8 (e ▸ h))
    map := by
      rw [← knownG_cons hk hV]
      exact ((HM.only o5 (fun e => H.bm e.symm)).only O10 H.lm).only o7 (fun e => H.bm e.symm)
    eb := .inl H.eb
    em := .inl H.em
    eg := fun g h => .inr (.inl h)
    el := fun g h => .inr (.inr h)
    lo := fun g h => by
      rcases h with h | h | h
      · have h1 := H.lo g h; have h2 := HN g h; omega
      · have h1 := h7.lt g h; omega
      · have h1 := h8.lt g h; omega
    bm := H.bm
    gb := b7
    gm := m7
    lb' := b8
    lm := m8
    ap := a78 }
theorem and_new_st {B b F : Nat} {G : List (Nat × Nat)} {E : Nat → Prop} {m : Nat} {vg vl : Value} {L : List Int} (x y : Nat) (w : World) (h : Bld B b F G E m vg vl L w) (hF : F ≤ 300) (hG : G.length ≤ 10000) (hx : x < 2 * (F + G.length)) (hy : y < 2 * (F + G.length)) (hs : ¬ y < x) (h1 : x ≠ 0) (h2 : x ≠ y ^^^ 1) (h3 : x ≠ 1) (h4 : x ≠ y) (hk : Cir.knownG F G x y = none) :
    Calls Try.prog 72 #[.pointer (some ⟨b, 0, none⟩), .int .i64 (x : Int), .int .i64 (y : Int)] w
      fun e w' => e = .returned (.int .i64 ((2 * (F + G.length) : Nat) : Int)) ∧ BldNext B b F ((x, y) :: G) E w w' := by
  have hxor : bits .xor .i64 (y : Int) 1 = ((y ^^^ 1 : Nat) : Int) := i64_xor_nat y 1 (by omega) (by omega)
  have d1 : decide (y < x) = false := decide_eq_false hs
  have e1 : ((x : Int) == 0) = false := beq_ff (b := 0) h1
  have e2 : ((x : Int) == ((y ^^^ 1 : Nat) : Int)) = false := beq_ff h2
  have e3 : ((x : Int) == 1) = false := beq_ff (b := 1) h3
  have e4 : ((x : Int) == (y : Int)) = false := beq_ff h4
  generalize y ^^^ 1 = Y at *
  clear h1 h2 h3 h4 hs
  have hbn := bel_new w (.cells #[.int .i64 (x : Int), .int .i64 (y : Int)] 72)
  have hg := heap_alloc_new w (.cells #[.int .i64 (x : Int), .int .i64 (y : Int)] 72)
  have hzW : (w.alloc (.cells #[.int .i64 (x : Int), .int .i64 (y : Int)] 72)).heap.size = w.heap.size + 1 := by simp
  have H := Lib.hid (h.below hbn)
  have HB := Lib.hid hbn
  have Hk := Lib.hid hk
  have hbW : b < w.heap.size := (h.lo b h.eb).2
  obtain ⟨Ag, cg, hvg⟩ := slice_of_own h.gs
  have hw1 := IntWalk.i64_in ((F : Int) + (G.length : Int)) (by omega)
  have hw2 := IntWalk.i64_in (2 * ((F : Int) + (G.length : Int))) (by omega)
  have HN : Hid (∀ g, E g → g < w.heap.size) := Lib.hid fun g hg => (h.lo g hg).2
  clear h hbn hk
  go_enter Try.func72, Try.ntmps72
  go_wp2_with fail
  generalize w.alloc (.cells #[.int .i64 (x : Int), .int .i64 (y : Int)] 72) = W at *
  generalize hN : w.heap.size = N at *
  have c0 := gw_cell (blk_cell H.out.box 0) (by show b < W.heap.size; omega)
  have c1 := gw_cell (blk_cell H.out.box 1) (by show b < W.heap.size; omega)
  have c3 := gw_cell (blk_cell H.out.box 3) (by show b < W.heap.size; omega)
  have k0 := gw_cell (blk_cell hg 0) (by show N < W.heap.size; omega)
  have k1 := gw_cell (blk_cell hg 1) (by show N < W.heap.size; omega)
  have hlk : ∀ n : GW W, (Instr.lookup 93 (.map (some m)) (.agg #[.int .i64 (x : Int), .int .i64 (y : Int)]) true).run Try.prog (gw n) = .ok (.tuple #[.int .i64 0, .bool false]) (gw n) := fun n => by
    have := (H.out.map.below (gw_below n)).look (x := x) (y := y) (by omega) (by omega)
    rw [Hk.out] at this
    exact this
  refine wp_region_grow (by kernel_rfl) (by kernel_rfl) ?_
  repeat (go_big_quiet_step ((fail)))
  refine wpQuiet_nil ?_
  intro _ hw'
  obtain ⟨nq, hw''⟩ := hw'
  subst hw''
  have hgq := gw_below nq
  generalize gw nq = wq at *
  clear nq
  have B1 := Lib.hid hgq
  have H1 := Lib.hid (H.out.below hgq)
  have hg1 := (hgq.block N (by omega)).trans hg
  have z1 := hgq.size
  clear H hlk c0 c1 c3 k0 k1 hgq hg
  subst hvg
  obtain ⟨W1, hW1⟩ : ∃ W1, W1 = wq := ⟨_, rfl⟩
  subst hW1
  go_wp2_with fail
  have c0 := gw_cell (blk_cell H1.out.box 0) (by show b < W1.heap.size; omega)
  have c1 := gw_cell (blk_cell H1.out.box 1) (by show b < W1.heap.size; omega)
  refine wp_region_grow (by kernel_rfl) (by kernel_rfl) ?_
  repeat (go_big_quiet_step ((fail)))
  refine wpQuiet_nil ?_
  intro _ hw'
  obtain ⟨nq, hw''⟩ := hw'
  subst hw''
  have hgq := gw_below nq
  generalize gw nq = wq at *
  clear nq
  have B2 := Lib.hid (B1.out.trans (hgq.mono B1.out.size))
  have H2 := Lib.hid (H1.out.below hgq)
  have hg2 := (hgq.block N (by omega)).trans hg1
  have z2 := hgq.size
  clear H1 c0 c1 hgq hg1 B1
  obtain ⟨W2, hW2⟩ : ∃ W2, W2 = wq := ⟨_, rfl⟩
  subst hW2
  obtain ⟨V, hV⟩ : ∃ V : Nat, 2 * ((F : Int) + (G.length : Int)) = (V : Int) := ⟨2 * (F + G.length), by omega⟩
  have hV2 : V = 2 * (F + G.length) := by omega
  rw [hV]
  clear hw1 hw2 hV
  have hz2 : b < W2.heap.size := by omega
  have hz3 : N < W2.heap.size := by omega
  go_wp2_with fail
  refine wp_region_rsl (quietRS Try.prog _ W2 _) quietRS_ok (by kernel_rfl) (by kernel_rfl) (by kernel_rfl) 6 _ rfl rfl (by kernel_rfl) (show (0 : Nat) < 6 by decide) trivial trivial ?_
  refine rs_old quietRS_ok quiet_any _ (.inl rfl) _ rfl rfl ?_
  apply rs_eq quietRS_ok quiet_any
  · intro ρ w' ho hK
    have ho : Only _ W2 w' := ho
    obtain ⟨h0, -⟩ := hK
    have h0' : ρ (.tmp 58) = _ := h0
    go_simp
    try exact rfl
  apply rs_eq quietRS_ok quiet_any
  · intro ρ w' ho hK
    have ho : Only _ W2 w' := ho
    obtain ⟨h0, -⟩ := hK
    have h0' : ρ (.tmp 59) = _ := h0
    go_simp
    try exact rfl
  apply rs_eq quietRS_ok quiet_any
  · intro ρ w' ho hK
    have ho : Only _ W2 w' := ho
    obtain ⟨h0, -⟩ := hK
    have h0' : ρ (.tmp 60) = _ := h0
    have hb := only_below ho
    have q3 := (hb.cell (p := ⟨b, 3, none⟩) hz2).trans (blk_cell H2.out.box 3)
    have k0 := (hb.cell (p := ⟨N, 0, none⟩) hz3).trans (blk_cell hg2 0)
    have k1 := (hb.cell (p := ⟨N, 1, none⟩) hz3).trans (blk_cell hg2 1)
    go_simp
    try exact rfl
  apply rs_eq quietRS_ok quiet_any
  · intro ρ w' ho hK
    have ho : Only _ W2 w' := ho
    obtain ⟨h0, -⟩ := hK
    have h0' : ρ (.tmp 7) = _ := h0
    have hb := only_below ho
    have q3 := (hb.cell (p := ⟨b, 3, none⟩) hz2).trans (blk_cell H2.out.box 3)
    have k0 := (hb.cell (p := ⟨N, 0, none⟩) hz3).trans (blk_cell hg2 0)
    have k1 := (hb.cell (p := ⟨N, 1, none⟩) hz3).trans (blk_cell hg2 1)
    go_simp
    try exact rfl
  refine rs_old quietRS_ok quiet_any _ (.inl rfl) _ rfl rfl ?_
  intro f w9 k9 hk9 hI9 ht9 hcp9
  have E0 : f 0 = _ := ht9 0 (Nat.le_of_ble_eq_true rfl)
  conv at E0 => rhs; whnf
  have E1 : f 1 = _ := ht9 1 (Nat.le_of_ble_eq_true rfl)
  have E2 : f 2 = _ := ht9 2 (Nat.le_of_ble_eq_true rfl)
  have E3 : f 3 = _ := ht9 3 (Nat.le_of_ble_eq_true rfl)
  have E4 : f 4 = _ := ht9 4 (Nat.le_of_ble_eq_true rfl)
  have E5 : f 5 = _ := ht9 5 (Nat.le_of_ble_eq_true rfl)
  conv at E5 => rhs; whnf
  have Ho9 : Only _ W2 w9 := hI9.2.1
  simp only [putAll, E0, E1, E2, E3, E4, E5, Nat.zero_add, Nat.reduceAdd, Act.put, List.setIfInBounds_toArray, List.set_cons_succ, List.set_cons_zero, List.take, List.getElem_toArray, List.getElem_cons_succ, List.getElem_cons_zero]
  clear E0 E1 E2 E3 E4 E5
  clear hI9 ht9 hcp9 hk9
  obtain ⟨W3, hW3⟩ : ∃ W, W = w9 := ⟨_, rfl⟩
  subst hW3
  have hb9 := only_below Ho9
  have B3 := Lib.hid (B2.out.trans (hb9.mono B2.out.size))
  have H3 := Lib.hid (H2.out.below hb9)
  have hg3 := (hb9.block N hz3).trans hg2
  have z3 := hb9.size
  clear Ho9 hb9 hg2 H2 B2
  refine wpList_add_gate W3 rfl (.tmp 61) (.tmp 62) (.tmp 63) rfl m G.length _ rfl H3.out.map (by omega) x y V (by omega) (by omega) (by omega) rfl rfl ?_
  intro w4 hm4 hg4
  have HM4 := Lib.hid hm4
  have z4 := hg4.size
  have O4 := Lib.hid (Only.grown (E := fun g => g = m) hg4 (fun k hk => (Option.some.inj hk).symm))
  have hx4 := (O4.out.block b (by omega) H3.out.bm).trans H3.out.box
  have hgn : N ≠ m := fun e => by have := H3.out.lo m H3.out.em; have := HN.out m H3.out.em; omega
  have hg5 := (O4.out.block N (by omega) hgn).trans hg3
  have hgs4 := Lib.hid (own_only H3.out.gs O4.out (fun g hg e => H3.out.gm (by rw [hg, e])))
  have hls4 := Lib.hid (own_only H3.out.ls O4.out (fun g hg e => H3.out.lm (by rw [hg, e])))
  have hz5 : b < w4.heap.size := by omega
  have hz6 : N < w4.heap.size := by omega
  have hgb := H3.out.gb
  have hgN : ∀ g, (Value.slice Ag G.length cg).ownBlock = some g → g < N := fun g hg => HN.out g (H3.out.eg g hg)
  have hBW : B ≤ w4.heap.size := by have := (H3.out.lo b H3.out.eb).1; omega
  clear hm4 hg4 hg3
  go_wp2_with fail
  obtain ⟨cs, hcs⟩ : ∃ cs, cubes (Cir.gatesOf G) = cs := ⟨_, rfl⟩
  rw [hcs] at hgs4
  obtain ⟨i0, hi0, hz0, hz1, hz2⟩ := info_parts info_gate
  have hO := fun ops a => appRS2_ok (Pg := Try.prog) (ops := ops) (a := a) (news := [.int .i64 (x : Int), .int .i64 (y : Int)]) (d := 7) (hgs4.out)
  refine wp_region_rsl (appRS2 Try.prog _ w4 _ (B) 72 2 (Value.slice Ag G.length cg) (G.length) (cs) [.int .i64 (x : Int), .int .i64 (y : Int)] 7) (hO _ _) (by kernel_rfl) (by kernel_rfl) (by kernel_rfl) 10 _ rfl rfl (by kernel_rfl) (show (7 : Nat) < 10 by decide) trivial hgs4.out ?_
  refine rs_old (hO _ _) (.inl (Nat.ne_of_beq_eq_false rfl)) _ (.inl rfl) _ rfl rfl ?_
  refine rs_old (hO _ _) (.inl (Nat.ne_of_beq_eq_false rfl)) _ (.inl rfl) _ rfl rfl ?_
  apply rs_eq (hO _ _) (.inl (Nat.ne_of_beq_eq_false rfl))
  · intro ρ w' ho hK
    have ho : Only _ w4 w' := ho
    obtain ⟨h0, -⟩ := hK
    have h0' : ρ (.tmp 65) = _ := h0
    go_simp
    try exact rfl
  apply rs_eq (hO _ _) (.inl (Nat.ne_of_beq_eq_false rfl))
  · intro ρ w' ho hK
    have ho : Only _ w4 w' := ho
    obtain ⟨h0, -⟩ := hK
    have h0' : ρ (.tmp 66) = _ := h0
    go_simp
    try exact rfl
  apply rs_eq (hO _ _) (.inl (Nat.ne_of_beq_eq_false rfl))
  · intro ρ w' ho hK
    have ho : Only _ w4 w' := ho
    obtain ⟨h0, -⟩ := hK
    have h0' : ρ (.tmp 67) = _ := h0
    have q1 := cell_on ho (fun e => hgb e) hz5 (blk_cell hx4 1)
    have k0 := cell_on ho (fun e => absurd (hgN N e) (Nat.lt_irrefl _)) hz6 (blk_cell hg5 0)
    have k1 := cell_on ho (fun e => absurd (hgN N e) (Nat.lt_irrefl _)) hz6 (blk_cell hg5 1)
    go_simp
    try exact rfl
  apply rs_eq (hO _ _) (.inl (Nat.ne_of_beq_eq_false rfl))
  · intro ρ w' ho hK
    have ho : Only _ w4 w' := ho
    obtain ⟨h0, -⟩ := hK
    have h0' : ρ (.tmp 7) = _ := h0
    have q1 := cell_on ho (fun e => hgb e) hz5 (blk_cell hx4 1)
    have k0 := cell_on ho (fun e => absurd (hgN N e) (Nat.lt_irrefl _)) hz6 (blk_cell hg5 0)
    have k1 := cell_on ho (fun e => absurd (hgN N e) (Nat.lt_irrefl _)) hz6 (blk_cell hg5 1)
    go_simp
    try exact rfl
  refine rs_build1 (hO _ _) (.inl (Nat.ne_of_beq_eq_false rfl)) 2 [.int .i64 (x : Int), .int .i64 (y : Int)] 72 rfl (fun ρ w' ho hK => by
    have ho : Only _ w4 w' := ho
    obtain ⟨h0, -⟩ := hK
    have h0' : ρ (.tmp 69) = _ := h0
    go_simp) ?_
  refine rs_append2 rfl (B) 72 24 2 (Value.slice Ag G.length cg) (G.length) (cs) _ rfl rfl (fun g hg => hg) (show B ≤ w4.heap.size by omega) _ _ rfl _ _ rfl rfl rfl rfl i0 _ 16 Try.underlying24 hi0 hz0 hz1 hz2 rfl (by decide) (by omega) (by decide) (by simp [Value.oneCell']) ?_
  apply rs_eq (hO _ _) (.inl (Nat.ne_of_beq_eq_false rfl))
  · intro ρ w' ho hK
    have ho : Only _ w4 w' := ho
    obtain ⟨h0, -⟩ := hK
    have h0' : ρ (.tmp 64) = _ := h0
    go_simp
    try exact rfl
  apply rs_eq (hO _ _) (.inl (Nat.ne_of_beq_eq_false rfl))
  · intro ρ w' ho hK
    have ho : Only _ w4 w' := ho
    obtain ⟨h0, -⟩ := hK
    have h0' : ρ (.tmp 72) = _ := h0
    go_simp
    try exact rfl
  intro f w9 k9 hk9 hI9 ht9 hcp9
  have E0 : f 0 = _ := ht9 0 (Nat.le_of_ble_eq_true rfl)
  conv at E0 => rhs; whnf
  have E1 : f 1 = _ := ht9 1 (Nat.le_of_ble_eq_true rfl)
  conv at E1 => rhs; whnf
  have E2 : f 2 = _ := ht9 2 (Nat.le_of_ble_eq_true rfl)
  have E3 : f 3 = _ := ht9 3 (Nat.le_of_ble_eq_true rfl)
  have E4 : f 4 = _ := ht9 4 (Nat.le_of_ble_eq_true rfl)
  have E5 : f 5 = _ := ht9 5 (Nat.le_of_ble_eq_true rfl)
  have E6 : (TNew _ 2 1 [.int .i64 (x : Int), .int .i64 (y : Int)]) w9 (f 6) := ht9 6 (Nat.le_of_ble_eq_true rfl)
  have E7 : (TAny) w9 (f 7) := ht9 7 (Nat.le_of_ble_eq_true rfl)
  have E8 : f 8 = _ := ht9 8 (Nat.le_of_ble_eq_true rfl)
  have E9 : f 9 = _ := ht9 9 (Nat.le_of_ble_eq_true rfl)
  have Ho9 : Only _ w4 w9 := hI9.2.1
  have hown9 : w9.ownsRow (B) 72 2 (f 7) (G.length + 1) (cs ++ [.int .i64 (x : Int), .int .i64 (y : Int)]) := hI9.2.2.1
  have hat9 : ∀ g, (f 7).ownBlock = some g → (Value.slice Ag G.length cg).ownBlock = some g ∨ w4.heap.size ≤ g := hI9.2.2.2
  simp only [putAll, E0, E1, E2, E3, E4, E5, E8, E9, Nat.zero_add, Nat.reduceAdd, Act.put, List.setIfInBounds_toArray, List.set_cons_succ, List.set_cons_zero, List.take, List.getElem_toArray, List.getElem_cons_succ, List.getElem_cons_zero]
  clear E0 E1 E2 E3 E4 E5 E8 E9
  clear hI9 ht9 hcp9 hk9
  generalize f 6 = r6 at *
  generalize f 7 = r7 at *
  obtain ⟨W4, hW4⟩ : ∃ W, W = w9 := ⟨_, rfl⟩
  subst hW4
  have O9 : Only (fun g => (Value.slice Ag G.length cg).ownBlock = some g) w4 W4 := Ho9
  obtain ⟨A7, c7, hv7⟩ := slice_of_own hown9
  subst hv7
  have hx9 := (O9.block b hz5 hgb).trans hx4
  have hgm := H3.out.gm
  have HM9 := Lib.hid (HM4.out.only O9 hgm)
  have hls9 := Lib.hid (own_only hls4.out O9 (fun g hg e => H3.out.ap g e hg))
  have z9 := O9.size
  have q1 := blk_cell hx9 1
  have f1 := blk_free hx9 1
  have Hat9 := Lib.hid hat9
  have Hown9 := Lib.hid hown9
  have HO9 := Lib.hid O9
  obtain ⟨gl, cl, hvl, hgl, hgl2, hcl, hclm⟩ := own_open hls9.out (by omega)
  unfold maxLen at hclm
  subst hvl
  have hx10 := heap_setCell_same W4 b 1 _ _ (.slice A7 (G.length + 1) c7) hx9
  have hbl := H3.out.lb'
  have hls10 := Lib.hid (own_only hls9.out (Only.grown (E := fun g => g = b) (set_grown W4 b 1 (.slice A7 (G.length + 1) c7)) (fun k hk => (Option.some.inj hk).symm)) (fun g hg e => hbl (by rw [hg, e])))
  have z10 : (W4.setCell ⟨b, 1, none⟩ (.slice A7 (G.length + 1) c7)).heap.size = W4.heap.size := by simp
  clear Ho9 hown9 hat9 O9 hx4 hg5 E6 E7 hO hls4 hgs4 HM4
  go_wp2_with fail
  obtain ⟨W5, hW5⟩ : ∃ W5, W5 = W4.setCell ⟨b, 1, none⟩ (.slice A7 (G.length + 1) c7) := ⟨_, rfl⟩
  rw [← hW5] at hx10 hls10 z10 ⊢
  clear q1 f1
  obtain ⟨n, hn⟩ : ∃ n, n = F + G.length := ⟨_, rfl⟩
  rw [← hn] at hls10 hbl hx10 hcl
  have hqx : (x : Int).tdiv 2 = ((x / 2 : Nat) : Int) := by rw [Int.tdiv_eq_ediv_of_nonneg (by omega)]; omega
  have hqy : (y : Int).tdiv 2 = ((y / 2 : Nat) : Int) := by rw [Int.tdiv_eq_ediv_of_nonneg (by omega)]; omega
  have hix : x / 2 < n := by omega
  have hiy : y / 2 < n := by omega
  have hwx := IntWalk.i64_in ((x / 2 : Nat) : Int) (by omega)
  have hwy := IntWalk.i64_in ((y / 2 : Nat) : Int) (by omega)
  generalize x / 2 = X at *
  generalize y / 2 = Z at *
  have hLl := H3.out.ll
  rw [← hn] at hLl
  obtain ⟨u1, hu1⟩ : ∃ u1, L[X]? = some u1 := ⟨_, List.getElem?_eq_getElem (by omega)⟩
  obtain ⟨u2, hu2⟩ : ∃ u2, L[Z]? = some u2 := ⟨_, List.getElem?_eq_getElem (by omega)⟩
  have hb1 := H3.out.lb u1 (List.mem_of_getElem? hu1)
  have hb2 := H3.out.lb u2 (List.mem_of_getElem? hu2)
  have hcu1 : (ints L)[X]? = some (.int .i64 u1) := by unfold ints; rw [List.getElem?_map, hu1]; rfl
  have hcu2 : (ints L)[Z]? = some (.int .i64 u2) := by unfold ints; rw [List.getElem?_map, hu2]; rfl
  obtain ⟨U, hU⟩ : ∃ U, (if u1 < u2 then u2 else u1) = U := ⟨_, rfl⟩
  have hUb : 0 ≤ U ∧ U ≤ G.length := by rw [← hU]; split <;> omega
  have hw3 := IntWalk.i64_in (1 + U) (by omega)
  obtain ⟨cs2, hcs2⟩ : ∃ cs2, ints L = cs2 := ⟨_, rfl⟩
  rw [hcs2] at hls10 hcu1 hcu2
  have hz7 : b < W5.heap.size := by omega
  have hBW5 : B ≤ W5.heap.size := by omega
  have hn1 : n ≤ 20000 := by omega
  have Hn := Lib.hid hn
  have HLl := Lib.hid hLl
  have Hcs2 := Lib.hid hcs2
  clear hLl hu1 hu2 hn hcs2
  obtain ⟨i0, hi0, hz0, hz1, hz2⟩ := info_parts info_int
  have hO := fun ops a => appRS2_ok (Pg := Try.prog) (ops := ops) (a := a) (news := [.int .i64 (1 + U)]) (d := 24) (hls10.out)
  refine wp_region_rsl (appRS2 Try.prog _ W5 _ (B) 3 1 (Value.slice (some ⟨gl, 0, none⟩) n cl) (n) (cs2) [.int .i64 (1 + U)] 24) (hO _ _) (by kernel_rfl) (by kernel_rfl) (by kernel_rfl) 27 _ rfl rfl (by kernel_rfl) (show (24 : Nat) < 27 by decide) trivial hls10.out ?_
  refine rs_old (hO _ _) (.inl (Nat.ne_of_beq_eq_false rfl)) _ (.inl rfl) _ rfl rfl ?_
  refine rs_old (hO _ _) (.inl (Nat.ne_of_beq_eq_false rfl)) _ (.inl rfl) _ rfl rfl ?_
  apply rs_eq (hO _ _) (.inl (Nat.ne_of_beq_eq_false rfl))
  · intro ρ w' ho hK
    have ho : Only _ W5 w' := ho
    obtain ⟨h0, -⟩ := hK
    have h0' : ρ (.tmp 75) = _ := h0
    go_simp
    try exact rfl
  apply rs_eq (hO _ _) (.inl (Nat.ne_of_beq_eq_false rfl))
  · intro ρ w' ho hK
    have ho : Only _ W5 w' := ho
    obtain ⟨h0, -⟩ := hK
    have h0' : ρ (.tmp 76) = _ := h0
    go_simp
    try exact rfl
  apply rs_eq (hO _ _) (.inl (Nat.ne_of_beq_eq_false rfl))
  · intro ρ w' ho hK
    have ho : Only _ W5 w' := ho
    obtain ⟨h0, -⟩ := hK
    have h0' : ρ (.tmp 77) = _ := h0
    have q1 := cell_on ho (fun e => hbl e) hz7 (blk_cell hx10 2)
    go_simp
    try exact rfl
  refine rs_old (hO _ _) (.inl (Nat.ne_of_beq_eq_false rfl)) _ (.inl rfl) _ rfl rfl ?_
  apply rs_eq (hO _ _) (.inl (Nat.ne_of_beq_eq_false rfl))
  · intro ρ w' ho hK
    have ho : Only _ W5 w' := ho
    obtain ⟨h0, -⟩ := hK
    have h0' : ρ (.tmp 79) = _ := h0
    go_simp
    try exact rfl
  apply rs_eq (hO _ _) (.inl (Nat.ne_of_beq_eq_false rfl))
  · intro ρ w' ho hK
    have ho : Only _ W5 w' := ho
    obtain ⟨h0, -⟩ := hK
    have h0' : ρ (.tmp 80) = _ := h0
    go_simp
    try exact rfl
  apply rs_eq (hO _ _) (.inl (Nat.ne_of_beq_eq_false rfl))
  · intro ρ w' ho hK
    have ho : Only _ W5 w' := ho
    obtain ⟨h0, -⟩ := hK
    have h0' : ρ (.tmp 81) = _ := h0
    have q1 := cell_on ho (fun e => hbl e) hz7 (blk_cell hx10 2)
    go_simp
    try exact rfl
  refine rs_old (hO _ _) (.inl (Nat.ne_of_beq_eq_false rfl)) _ (.inl rfl) _ rfl rfl ?_
  apply rs_eq (hO _ _) (.inl (Nat.ne_of_beq_eq_false rfl))
  · intro ρ w' ho hK
    have ho : Only _ W5 w' := ho
    obtain ⟨h0, h1, -⟩ := hK
    have h0' : ρ (.tmp 83) = _ := h0
    have h1' : ρ (.const (Value.int IntKind.i64 2)) = (Value.int IntKind.i64 2) := h1
    go_simp
    try exact rfl
  apply rs_eq (hO _ _) (.inl (Nat.ne_of_beq_eq_false rfl))
  · intro ρ w' ho hK
    have ho : Only _ W5 w' := ho
    obtain ⟨h0, h1, -⟩ := hK
    have h0' : ρ (.tmp 82) = _ := h0
    have h1' : ρ (.tmp 84) = _ := h1
    go_simp
    try exact rfl
  refine rs_eq_before (hO _ _) (Nat.ne_of_beq_eq_false rfl) (by kernel_rfl) (c := .int .i64 u1) (fun ρ w' ho hJ hK => by
    obtain ⟨h0, -⟩ := hK
    have h0' : ρ (.tmp 85) = _ := h0
    have hJ' : w'.ownsRow B 3 1 (Value.slice (some ⟨gl, 0, none⟩) n cl) n cs2 := hJ
    obtain ⟨u, e1, e2, e3⟩ := own_slot hJ' (j := X) (by omega)
    rw [hcu1] at e1
    cases e1
    go_simp) ?_
  refine rs_old (hO _ _) (.inl (Nat.ne_of_beq_eq_false rfl)) _ (.inl rfl) _ rfl rfl ?_
  apply rs_eq (hO _ _) (.inl (Nat.ne_of_beq_eq_false rfl))
  · intro ρ w' ho hK
    have ho : Only _ W5 w' := ho
    obtain ⟨h0, -⟩ := hK
    have h0' : ρ (.tmp 87) = _ := h0
    go_simp
    try exact rfl
  apply rs_eq (hO _ _) (.inl (Nat.ne_of_beq_eq_false rfl))
  · intro ρ w' ho hK
    have ho : Only _ W5 w' := ho
    obtain ⟨h0, -⟩ := hK
    have h0' : ρ (.tmp 88) = _ := h0
    go_simp
    try exact rfl
  apply rs_eq (hO _ _) (.inl (Nat.ne_of_beq_eq_false rfl))
  · intro ρ w' ho hK
    have ho : Only _ W5 w' := ho
    obtain ⟨h0, -⟩ := hK
    have h0' : ρ (.tmp 89) = _ := h0
    have q1 := cell_on ho (fun e => hbl e) hz7 (blk_cell hx10 2)
    go_simp
    try exact rfl
  refine rs_old (hO _ _) (.inl (Nat.ne_of_beq_eq_false rfl)) _ (.inl rfl) _ rfl rfl ?_
  apply rs_eq (hO _ _) (.inl (Nat.ne_of_beq_eq_false rfl))
  · intro ρ w' ho hK
    have ho : Only _ W5 w' := ho
    obtain ⟨h0, h1, -⟩ := hK
    have h0' : ρ (.tmp 91) = _ := h0
    have h1' : ρ (.const (Value.int IntKind.i64 2)) = (Value.int IntKind.i64 2) := h1
    go_simp
    try exact rfl
  apply rs_eq (hO _ _) (.inl (Nat.ne_of_beq_eq_false rfl))
  · intro ρ w' ho hK
    have ho : Only _ W5 w' := ho
    obtain ⟨h0, h1, -⟩ := hK
    have h0' : ρ (.tmp 90) = _ := h0
    have h1' : ρ (.tmp 92) = _ := h1
    go_simp
    try exact rfl
  refine rs_eq_before (hO _ _) (Nat.ne_of_beq_eq_false rfl) (by kernel_rfl) (c := .int .i64 u2) (fun ρ w' ho hJ hK => by
    obtain ⟨h0, -⟩ := hK
    have h0' : ρ (.tmp 93) = _ := h0
    have hJ' : w'.ownsRow B 3 1 (Value.slice (some ⟨gl, 0, none⟩) n cl) n cs2 := hJ
    obtain ⟨u, e1, e2, e3⟩ := own_slot hJ' (j := Z) (by omega)
    rw [hcu2] at e1
    cases e1
    go_simp) ?_
  apply rs_eq (hO _ _) (.inl (Nat.ne_of_beq_eq_false rfl))
  · intro ρ w' ho hK
    have ho : Only _ W5 w' := ho
    obtain ⟨h0, h1, -⟩ := hK
    have h0' : ρ (.tmp 86) = _ := h0
    have h1' : ρ (.tmp 94) = _ := h1
    go_simp
    try exact rfl
  apply rs_eq (hO _ _) (.inl (Nat.ne_of_beq_eq_false rfl))
  · intro ρ w' ho hK
    have ho : Only _ W5 w' := ho
    obtain ⟨h0, h1, -⟩ := hK
    have h0' : ρ (.const (Value.int IntKind.i64 1)) = (Value.int IntKind.i64 1) := h0
    have h1' : ρ (.tmp 95) = _ := h1
    go_simp
    try exact rfl
  refine rs_build1 (hO _ _) (.inl (Nat.ne_of_beq_eq_false rfl)) 1 [.int .i64 (1 + U)] 3 rfl (fun ρ w' ho hK => by
    have ho : Only _ W5 w' := ho
    obtain ⟨h0, -⟩ := hK
    have h0' : ρ (.tmp 96) = _ := h0
    go_simp) ?_
  refine rs_append2 rfl (B) 3 23 1 (Value.slice (some ⟨gl, 0, none⟩) n cl) (n) (cs2) _ rfl rfl (fun g hg => hg) (show B ≤ W5.heap.size by omega) _ _ rfl _ _ rfl rfl rfl rfl i0 _ 8 Try.underlying23 hi0 hz0 hz1 hz2 rfl (by decide) (by omega) (by decide) (by simp [Value.oneCell']) ?_
  apply rs_eq (hO _ _) (.inl (Nat.ne_of_beq_eq_false rfl))
  · intro ρ w' ho hK
    have ho : Only _ W5 w' := ho
    obtain ⟨h0, -⟩ := hK
    have h0' : ρ (.tmp 74) = _ := h0
    go_simp
    try exact rfl
  apply rs_eq (hO _ _) (.inl (Nat.ne_of_beq_eq_false rfl))
  · intro ρ w' ho hK
    have ho : Only _ W5 w' := ho
    obtain ⟨h0, -⟩ := hK
    have h0' : ρ (.tmp 99) = _ := h0
    go_simp
    try exact rfl
  intro f w9 k9 hk9 hI9 ht9 hcp9
  have E0 : f 0 = _ := ht9 0 (Nat.le_of_ble_eq_true rfl)
  conv at E0 => rhs; whnf
  have E1 : f 1 = _ := ht9 1 (Nat.le_of_ble_eq_true rfl)
  conv at E1 => rhs; whnf
  have E2 : f 2 = _ := ht9 2 (Nat.le_of_ble_eq_true rfl)
  have E3 : f 3 = _ := ht9 3 (Nat.le_of_ble_eq_true rfl)
  have E4 : f 4 = _ := ht9 4 (Nat.le_of_ble_eq_true rfl)
  have E5 : f 5 = _ := ht9 5 (Nat.le_of_ble_eq_true rfl)
  conv at E5 => rhs; whnf
  have E6 : f 6 = _ := ht9 6 (Nat.le_of_ble_eq_true rfl)
  have E7 : f 7 = _ := ht9 7 (Nat.le_of_ble_eq_true rfl)
  have E8 : f 8 = _ := ht9 8 (Nat.le_of_ble_eq_true rfl)
  have E9 : f 9 = _ := ht9 9 (Nat.le_of_ble_eq_true rfl)
  conv at E9 => rhs; whnf
  have E10 : f 10 = _ := ht9 10 (Nat.le_of_ble_eq_true rfl)
  have E11 : f 11 = _ := ht9 11 (Nat.le_of_ble_eq_true rfl)
  have E12 : f 12 = _ := ht9 12 (Nat.le_of_ble_eq_true rfl)
  have E13 : f 13 = _ := ht9 13 (Nat.le_of_ble_eq_true rfl)
  conv at E13 => rhs; whnf
  have E14 : f 14 = _ := ht9 14 (Nat.le_of_ble_eq_true rfl)
  have E15 : f 15 = _ := ht9 15 (Nat.le_of_ble_eq_true rfl)
  have E16 : f 16 = _ := ht9 16 (Nat.le_of_ble_eq_true rfl)
  have E17 : f 17 = _ := ht9 17 (Nat.le_of_ble_eq_true rfl)
  conv at E17 => rhs; whnf
  have E18 : f 18 = _ := ht9 18 (Nat.le_of_ble_eq_true rfl)
  have E19 : f 19 = _ := ht9 19 (Nat.le_of_ble_eq_true rfl)
  have E20 : f 20 = _ := ht9 20 (Nat.le_of_ble_eq_true rfl)
  have E21 : f 21 = _ := ht9 21 (Nat.le_of_ble_eq_true rfl)
  have E22 : f 22 = _ := ht9 22 (Nat.le_of_ble_eq_true rfl)
  have E23 : (TNew _ 1 1 [.int .i64 (1 + U)]) w9 (f 23) := ht9 23 (Nat.le_of_ble_eq_true rfl)
  have E24 : (TAny) w9 (f 24) := ht9 24 (Nat.le_of_ble_eq_true rfl)
  have E25 : f 25 = _ := ht9 25 (Nat.le_of_ble_eq_true rfl)
  have E26 : f 26 = _ := ht9 26 (Nat.le_of_ble_eq_true rfl)
  have Ho9 : Only _ W5 w9 := hI9.2.1
  have hown9 : w9.ownsRow (B) 3 1 (f 24) (n + 1) (cs2 ++ [.int .i64 (1 + U)]) := hI9.2.2.1
  have hat9 : ∀ g, (f 24).ownBlock = some g → (Value.slice (some ⟨gl, 0, none⟩) n cl).ownBlock = some g ∨ W5.heap.size ≤ g := hI9.2.2.2
  simp only [putAll, E0, E1, E2, E3, E4, E5, E6, E7, E8, E9, E10, E11, E12, E13, E14, E15, E16, E17, E18, E19, E20, E21, E22, E25, E26, Nat.zero_add, Nat.reduceAdd, Act.put, List.setIfInBounds_toArray, List.set_cons_succ, List.set_cons_zero, List.take, List.getElem_toArray, List.getElem_cons_succ, List.getElem_cons_zero]
  clear E0 E1 E2 E3 E4 E5 E6 E7 E8 E9 E10 E11 E12 E13 E14 E15 E16 E17 E18 E19 E20 E21 E22 E25 E26
  clear hI9 ht9 hcp9 hk9
  generalize f 23 = r23 at *
  generalize f 24 = r24 at *
  obtain ⟨W6, hW6⟩ : ∃ W, W = w9 := ⟨_, rfl⟩
  subst hW6
  have O10 : Only (fun g => (Value.slice (some ⟨gl, 0, none⟩) n cl).ownBlock = some g) W5 W6 := Ho9
  obtain ⟨A8, c8, hv8⟩ := slice_of_own hown9
  subst hv8
  have hx11 := (O10.block b hz7 hbl).trans hx10
  have q2 := blk_cell hx11 2
  have f2 := blk_free hx11 2
  have Hat10 := Lib.hid hat9
  have Hown10 := Lib.hid hown9
  have HO10 := Lib.hid O10
  clear Ho9 hown9 hat9 O10 E23 E24 hO hcu1 hcu2 hU
  go_wp2_with fail
  go_ret
  refine ⟨ret_int (by omega), fun g => E g ∨ (Value.slice A7 (G.length + 1) c7).ownBlock = some g ∨ (Value.slice A8 (n + 1) c8).ownBlock = some g, ?_, ?_, fun g hg => .inl hg, ?_⟩
  · exact ⟨m, .slice A7 (G.length + 1) c7, .slice A8 (n + 1) c8, L ++ [1 + U], bld_close HN.out H3.out (by omega) O4.out HM9.out HO9.out Hown9.out Hat9.out hW5 HO10.out Hown10.out Hat10.out hx11 Hk.out hV2 Hn.out.symm HLl.out hUb hcs Hcs2.out rfl⟩
  · have e4 := O4.out.size
    have e5 := HO10.out.size
    have eN : N ≤ W3.heap.size := by omega
    rintro g (hg | hg | hg)
    · exact .inl hg
    · rcases Hat9.out g hg with h | h
      · exact .inl (H3.out.eg g h)
      · right; omega
    · rcases Hat10.out g hg with h | h
      · exact .inl (H3.out.el g h)
      · right; omega
  · have b0 : Below N w W3 := HB.out.trans (B3.out.mono (by omega))
    have o1 : Only E w W3 := Only.grown (r := none) ⟨b0.os, b0.tape, b0.output, b0.size, fun k hk _ => b0.block k (by omega)⟩ (fun k hk => by cases hk)
    have o2 : Only E W3 w4 := O4.out.mono fun g hg => hg ▸ H3.out.em
    have o3 : Only E w4 W4 := HO9.out.mono fun g hg => H3.out.eg g hg
    have o4 : Only E W4 W5 := hW5 ▸ Only.grown (set_grown W4 b 1 _) (fun k hk => (Option.some.inj hk) ▸ H3.out.eb)
    have o5 : Only E W5 W6 := HO10.out.mono fun g hg => H3.out.el g (by rw [Hn.out] at hg; exact hg)
    exact ((((o1.trans o2).trans o3).trans o4).trans o5).trans (Only.grown (set_grown W6 b 2 _) (fun k hk => (Option.some.inj hk) ▸ H3.out.eb))
end Go.Proofs.Ytdgminjbgjbamaa
namespace Go.Proofs.Ytdgminjbgjbamaa
open Go.RowKit
theorem ownLits_any (g : Nat) (d : Ci) (w : World) (h : PCirc w g (Cir.toCz d)) (hd : Cir.Ok d) :
    Calls Try.prog 91 #[.pointer (some ⟨g, 0, none⟩)] w (OwnInts ((Cir.ownL (Cir.nfirst d)).map Int.ofNat) w) := by
  have s1 := hd.ins
  have s2 := hd.nexts
  have hF : Hid (Calls Try.prog 61 #[.pointer (some ⟨g, 0, none⟩)] w fun e w'' => e = .returned (.int .i64 (Cir.nfirst d : Nat)) ∧ Below w.heap.size w w'') := Lib.hid (by
    have := firstGate_any g _ w h (by show (0 : Int) ≤ (d.ins : Int); omega) (by show (d.ins : Int) ≤ 100; omega) (by show (List.map _ _).length ≤ 100; rw [List.length_map]; omega)
    rwa [Cir.first_toCz] at this)
  have hnf : Cir.nfirst d ≤ 8 := by unfold Cir.nfirst; omega
  generalize Cir.nfirst d = n at *
  clear h hd s1 s2
  go_enter Try.func91, Try.ntmps91
  go_wp2_with fail
  refine hF.out.mono ?_
  rintro e w1 ⟨rfl, hb1⟩
  have Hb1 := Lib.hid hb1
  clear hb1 hF
  go_wp2_with fail
  go_loopw [3, 7] (fun r i wr => ∃ (k : Nat) (r' : Value), r' = r ∧ k ≤ n ∧ i = .int .i64 k ∧ Hid (wr.ownsRow w.heap.size 3 1 r k (ints ((Cir.ownL k).map Int.ofNat))) ∧ Hid (Below w.heap.size w wr)) (fun _ i _ => n - (intOf i).toNat)
  case atStart => exact ⟨0, _, rfl, Nat.zero_le _, rfl, Lib.hid (World.ownsRow_nil _ _ _ _), Hb1⟩
  case round =>
    obtain ⟨k, r', hr', hk, rfl, HO, Hb⟩ := hrel
    clear Hb1
    by_cases hlt : k < n
    · have hw2 := IntWalk.i64_in (2 * (k : Int)) (by omega)
      have Hlit := Lib.hid (Row.of_own (World.ownsRow_lit (base := wr.heap.size) (e := 3) (size := 1) wr #[.int .i64 (2 * (k : Int))] 1 (Nat.le_refl _) (by unfold maxLen; omega) rfl))
      have HOa := Lib.hid (HO.out.alloc (.cells #[.int .i64 (2 * (k : Int))] 3))
      have hz := Hb.out.size
      have hza : (wr.alloc (.cells #[.int .i64 (2 * (k : Int))] 3)).heap.size = wr.heap.size + 1 := by simp
      go_wp2_with (at_builtin; refine append_ints rfl (.tmp 10) (.tmp 13) rfl w.heap.size _ k _ rfl HOa.out _ 1 [.int .i64 (2 * (k : Int))] rfl Hlit.out (by simp [Value.oneCell']) (by omega) (by omega) ?_; intro v4 w4 hown4 hg4 hat4; have Hown4 := Lib.hid hown4; have Hg4 := Lib.hid hg4; clear hown4 hg4 hat4)
      go_roundw
      case rel => exact ⟨k + 1, _, rfl, by omega, by go_num, Lib.hid (by
          have e : ints ((Cir.ownL (k + 1)).map Int.ofNat) = ints ((Cir.ownL k).map Int.ofNat) ++ [.int .i64 (2 * (k : Int))] := by
            unfold Cir.ownL ints
            rw [List.range_succ]
            simp
          rw [e]
          exact Hown4.out), Lib.hid ((Hb.out.alloc Hb.out.size _).grown Hg4.out (by omega) (fun q hq => (HOa.out.lt q hq).1))⟩
      case measure => simp [intOf]; omega
    · obtain rfl : k = n := by omega
      go_wp2_with fail
      go_ret
      have e : ((Cir.ownL k).map Int.ofNat).length = k := by simp [Cir.ownL]
      exact ⟨_, rfl, by rw [e, ← hr']; exact hr'.symm ▸ HO.out, Hb.out⟩
theorem blk_ltB {w : World} {g : Nat} {o : Obj} (h : w.heap[g]? = some o) : g < w.heap.size := (Array.getElem?_eq_some_iff.1 h).1
theorem own_setB {w : World} {B n size k i : Nat} {e : TypeId} {v u : Value} {cs : List Value} (h : w.ownsRow B e size v n cs) (hk : k < B) : (w.setCell ⟨k, i, none⟩ u).ownsRow B e size v n cs :=
  own_only h (Only.grown (E := fun g => g = k) (set_grown w k i u) (fun x hx => (Option.some.inj hx).symm)) (fun g hg e => by have := (h.lt g hg).1; omega)
theorem heap_setCell_other' (w : World) (b i : Nat) (u : Value) (g : Nat) (h : g ≠ b) : (w.setCell ⟨b, i, none⟩ u).heap[g]? = w.heap[g]? := by
  by_cases hg : g < w.heap.size
  · exact (set_grown w b i u).block g hg (fun e => h (Option.some.inj e))
  · have hz : (w.setCell ⟨b, i, none⟩ u).heap.size = w.heap.size := by simp
    rw [Array.getElem?_eq_none (by omega), Array.getElem?_eq_none (by omega)]
def mapC (u : Nat → Nat) (c : Ci) : Ci := { ins := c.ins, next := c.next.map u, gates := c.gates.map fun g => (u g.1, u g.2), outs := c.outs.map u }
def nints' (l : List Nat) : List Value := ints (l.map Int.ofNat)
def ngates (l : List (Nat × Nat)) : List Value := cubes (l.map fun g => ((g.1 : Int), (g.2 : Int)))
theorem nints'_snoc {l : List Nat} {k x : Nat} (h : l[k]? = some x) (u : Nat → Nat) : nints' ((l.take (k + 1)).map u) = nints' ((l.take k).map u) ++ [.int .i64 (u x : Nat)] := by
  unfold nints' ints
  rw [take_snoc h]
  simp
theorem ngates_snoc {l : List (Nat × Nat)} {k : Nat} {x : Nat × Nat} (h : l[k]? = some x) (u : Nat → Nat) : ngates ((l.take (k + 1)).map fun g => (u g.1, u g.2)) = ngates ((l.take k).map fun g => (u g.1, u g.2)) ++ [.int .i64 (u x.1 : Nat), .int .i64 (u x.2 : Nat)] := by
  unfold ngates cubes
  rw [take_snoc h]
  simp
def CircOwn (B : Nat) (w : World) (v : Value) (c : Cz) : Prop := ∃ vn vg vo, v = .agg #[.int .i64 c.ins, vn, vg, vo] ∧ w.ownsRow B 3 1 vn c.next.length (ints c.next) ∧ w.ownsRow B 72 2 vg c.gates.length (cubes c.gates) ∧ w.ownsRow B 3 1 vo c.outs.length (ints c.outs)
theorem CircOwn.at {B : Nat} {w : World} {v : Value} {c : Cz} (h : CircOwn B w v c) : CircAt w v c := by
  obtain ⟨vn, vg, vo, e, h1, h2, h3⟩ := h
  exact ⟨vn, vg, vo, e, Row.of_own h1, Row.of_own h2, Row.of_own h3⟩
theorem CircOwn.below {B : Nat} {w w' : World} {v : Value} {c : Cz} (h : CircOwn B w v c) (hb : Below w.heap.size w w') : CircOwn B w' v c := by
  obtain ⟨vn, vg, vo, e, h1, h2, h3⟩ := h
  exact ⟨vn, vg, vo, e, own_below h1 hb, own_below h2 hb, own_below h3 hb⟩
theorem CircOwn.mono {B B' : Nat} {w : World} {v : Value} {c : Cz} (h : CircOwn B w v c) (hB : B' ≤ B) : CircOwn B' w v c := by
  obtain ⟨vn, vg, vo, e, h1, h2, h3⟩ := h
  exact ⟨vn, vg, vo, e, own_mono h1 hB, own_mono h2 hB, own_mono h3 hB⟩
theorem own_ne_tag {w : World} {base size n g : Nat} {e t : TypeId} {v : Value} {cs : List Value} {old : Array Value} {fr : Nat × Nat} (h : w.ownsRow base e size v n cs) (hk : w.heap[g]? = some (.cells old t fr)) (hne : e ≠ t) : v.ownBlock ≠ some g := by
  rcases h.2 with h2 | ⟨g', cap, cur, rfl, hb, hh, h3⟩
  · rw [h2.1]; intro e'; cases e'
  · intro e'
    have e'' := Option.some.inj e'
    simp only at e''
    subst e''
    rw [hh] at hk
    have h4 := Option.some.inj hk
    injection h4 with h5 h6
    exact hne h6
theorem replaced_any (g N : Nat) (c : Ci) (F : FuncId) (caps : Array Value) (u : Nat → Nat) (w : World) (h : PCirc w g (Cir.toCz c)) (l1 : c.next.length ≤ 1000) (l2 : c.gates.length ≤ 1000) (l3 : c.outs.length ≤ 1000)
    (n1 : ∀ l ∈ c.next, l < N) (n2 : ∀ x ∈ c.gates, x.1 < N ∧ x.2 < N) (n3 : ∀ l ∈ c.outs, l < N)
    (hF : ∀ vs w', (callFunc F vs).run Try.prog w' = .ok (.enter F vs) w')
    (hu : ∀ w', Below w.heap.size w w' → ∀ l, l < N → Calls Try.prog F (#[.int .i64 (l : Nat)] ++ caps) w' fun e w'' => e = .returned (.int .i64 (u l : Nat)) ∧ Below w'.heap.size w' w'') :
    Calls Try.prog 56 #[.pointer (some ⟨g, 0, none⟩), .func (.func F) #[] caps] w fun e w' => (∃ v, e = .returned v ∧ CircOwn w.heap.size w' v (Cir.toCz (mapC u c))) ∧ Below w.heap.size w w' := by
  have hnl : (Cir.toCz c).next.length = c.next.length := List.length_map _
  have hgl : (Cir.toCz c).gates.length = c.gates.length := List.length_map _
  have hol : (Cir.toCz c).outs.length = c.outs.length := List.length_map _
  have HU := Lib.hid hu
  obtain ⟨vn, vg, vo, hg, c0, c1, c2, c3, r1, r2, r3⟩ := h
  obtain ⟨An, cn, rfl, hcn, hcmn⟩ := Row.shape r1
  obtain ⟨Ag, cg, rfl, hcg, hcmg⟩ := Row.shape r2
  obtain ⟨Ao, co, rfl, hco, hcmo⟩ := Row.shape r3
  rw [hnl] at hcn c1
  rw [hgl] at hcg c2
  rw [hol] at hco c3
  have R1 : Hid (Row w 1 (.slice An c.next.length cn) c.next.length (ints (Cir.toCz c).next)) := Lib.hid (by have := r1; unfold IntsAt at this; rwa [hnl] at this)
  have R2 : Hid (Row w 2 (.slice Ag c.gates.length cg) c.gates.length (cubes (Cir.toCz c).gates)) := Lib.hid (by have := r2; unfold CubesAt at this; rwa [hgl] at this)
  have R3 : Hid (Row w 1 (.slice Ao c.outs.length co) c.outs.length (ints (Cir.toCz c).outs)) := Lib.hid (by have := r3; unfold IntsAt at this; rwa [hol] at this)
  have C1 := Lib.hid c1
  have C2 := Lib.hid c2
  have C3 := Lib.hid c3
  have HL := Lib.hid (And.intro hnl (And.intro hgl hol))
  have HN1 := Lib.hid n1
  have HN2 := Lib.hid n2
  have HN3 := Lib.hid n3
  have hz0 : Value.agg #[.int .i64 0, .slice none 0 0, .slice none 0 0, .slice none 0 0] = Value.agg #[.int .i64 0, .slice none 0 0, .slice none 0 0, .slice none 0 0] := rfl
  have hbR := bel_new w (.cells #[.int .i64 0, .slice none 0 0, .slice none 0 0, .slice none 0 0] 26)
  have hR0 := heap_alloc_new w (.cells #[.int .i64 0, .slice none 0 0, .slice none 0 0, .slice none 0 0] 26)
  have hzR : (w.alloc (.cells #[.int .i64 0, .slice none 0 0, .slice none 0 0, .slice none 0 0] 26)).heap.size = w.heap.size + 1 := by simp
  clear r1 r2 r3 hu hnl hgl hol n1 n2 n3 hz0 c2 c3
  go_enter Try.func56, Try.ntmps56
  go_wp2_with fail
  -- LOOPS
  have hX0 := heap_alloc_new (w.alloc (.cells #[.int .i64 0, .slice none 0 0, .slice none 0 0, .slice none 0 0] 26)) (.cells #[.int .i64 (Cir.toCz c).ins, .slice none 0 0, .slice none 0 0, .slice none 0 0] 26)
  have hb0 := bel_new (w.alloc (.cells #[.int .i64 0, .slice none 0 0, .slice none 0 0, .slice none 0 0] 26)) (.cells #[.int .i64 (Cir.toCz c).ins, .slice none 0 0, .slice none 0 0, .slice none 0 0] 26)
  have hR1 := (hb0.block w.heap.size (by omega)).trans hR0
  have hB0 := hbR.trans (hb0.mono (by omega))
  rw [hzR] at hX0
  generalize (w.alloc (.cells #[.int .i64 0, .slice none 0 0, .slice none 0 0, .slice none 0 0] 26)).alloc (.cells #[.int .i64 (Cir.toCz c).ins, .slice none 0 0, .slice none 0 0, .slice none 0 0] 26) = W0 at *
  obtain ⟨gR, hgRe⟩ : ∃ gR, gR = w.heap.size := ⟨_, rfl⟩
  obtain ⟨gB, hgBe⟩ : ∃ gB, gB = w.heap.size + 1 := ⟨_, rfl⟩
  rw [← hgRe] at hR1 ⊢
  rw [← hgBe] at hX0
  rw [hgRe, ← hgBe, ← hgRe]
  have hgRB : gR < gB := by omega
  have hwR : w.heap.size ≤ gR := by omega
  have HX0 := Lib.hid hX0
  have HR1 := Lib.hid hR1
  have HB0 := Lib.hid hB0
  clear hX0 hR1 hB0 hb0 hbR hR0 hzR hgRe hgBe
  go_loopw [22] (fun i wr => ∃ (k : Nat) (vx : Value), k ≤ c.next.length ∧ i = .int .i64 k ∧ Hid (wr.heap[gB]? = some (.cells #[.int .i64 (Cir.toCz c).ins, vx, .slice none 0 0, .slice none 0 0] 26 (0, 0))) ∧ Hid (wr.heap[gR]? = some (.cells #[.int .i64 0, .slice none 0 0, .slice none 0 0, .slice none 0 0] 26 (0, 0))) ∧ Hid (wr.ownsRow (gB + 1) 3 1 vx k (nints' ((c.next.take k).map u))) ∧ Hid (Below w.heap.size w wr)) (fun i _ => c.next.length - (intOf i).toNat)
  case atStart => exact ⟨0, .slice none 0 0, Nat.zero_le _, rfl, HX0, HR1, Lib.hid (World.ownsRow_nil _ _ _ _), HB0⟩
  case round =>
    obtain ⟨k, vx, hk, rfl, HX, HR, HO, Hb⟩ := hrel
    clear HX0 HR1 HB0
    have hgB := blk_ltB HX.out
    have hgR := blk_ltB HR.out
    by_cases hlt : k < c.next.length
    · obtain ⟨l, hl⟩ := at_some hlt
      have hlN := HN1.out l (List.mem_of_getElem? hl)
      obtain ⟨b, o, x, rfl, hbl, hx, hs⟩ := ints_open R1.out Hb.out HL.out.1.symm (i := k) (by rw [HL.out.1]; exact hlt)
      have hxe : x = (l : Int) := by
        have h1 := hx.out
        unfold Cir.toCz at h1
        rw [List.getElem?_map, hl] at h1
        exact (Option.some.inj h1).symm
      subst hxe
      have HS := Lib.hid (nints'_snoc hl u)
      have hne : ¬ (vx.ownBlock = some gB) := fun e => by have := (HO.out.lt gB e).1; omega
      have hneR : ¬ (vx.ownBlock = some gR) := fun e => by have := (HO.out.lt gR e).1; omega
      have HBel : Hid (∀ w', Only (fun g => vx.ownBlock = some g) wr w' → Below w.heap.size w w') := Lib.hid fun w' ho => Only.below Hb.out ho Hb.out.size (fun q hq => by have := (HO.out.lt q hq).1; omega)
      generalize hcs : nints' ((c.next.take k).map u) = cs at *
      clear hx hl hcs
      go_wp2_with fail
      obtain ⟨i0, hi0, hz0, hz1, hz2⟩ := info_parts info_int
      have hO := fun ops a => appRS2_ok (Pg := Try.prog) (ops := ops) (a := a) (news := [.int .i64 (u l : Nat)]) (d := 6) (HO.out)
      refine wp_region_rsl (appRS2 Try.prog _ wr _ (gB + 1) 3 1 (vx) (k) (cs) [.int .i64 (u l : Nat)] 6) (hO _ _) (by kernel_rfl) (by kernel_rfl) (by kernel_rfl) 8 _ rfl rfl (by kernel_rfl) (show (6 : Nat) < 8 by decide) trivial HO.out ?_
      apply rs_eq (hO _ _) (.inl (Nat.ne_of_beq_eq_false rfl))
      · intro ρ w' ho hK
        have ho : Only _ wr w' := ho
        obtain ⟨h0, -⟩ := hK
        have h0' : ρ (.tmp 5) = _ := h0
        go_simp
        try exact rfl
      apply rs_eq (hO _ _) (.inl (Nat.ne_of_beq_eq_false rfl))
      · intro ρ w' ho hK
        have ho : Only _ wr w' := ho
        obtain ⟨h0, -⟩ := hK
        have h0' : ρ (.tmp 26) = _ := h0
        have q1 := cell_on ho (fun e => hne e) hgB (blk_cell HX.out 1)
        go_simp
        try exact rfl
      refine rs_old (hO _ _) (.inl (Nat.ne_of_beq_eq_false rfl)) _ (.inl rfl) _ rfl rfl ?_
      refine rs_old (hO _ _) (.inl (Nat.ne_of_beq_eq_false rfl)) _ (.inl rfl) _ rfl rfl ?_
      refine rs_callV (hO _ _) (.inl (Nat.ne_of_beq_eq_false rfl)) (TEq (.int .i64 ((u l : Nat) : Int))) (stb_eq _ _) (.tmp 28) _ _ rfl (fun ρ w' ho hK => by
        have ho : Only _ wr w' := ho
        obtain ⟨h0, h1, -⟩ := hK
        have h0' : ρ (.tmp 28) = _ := h0
        have h1' : ρ (.tmp 29) = _ := h1
        refine ⟨F, #[ρ (.tmp 29)] ++ caps, ?_, ?_⟩
        · go_simp
        · rw [h1']
          refine (HU.out w' (HBel.out w' ho) l hlN).mono ?_
          rintro e w2 ⟨rfl, hb⟩
          exact ⟨_, rfl, rfl, hb⟩) ?_
      refine rs_build1 (hO _ _) (.inl (Nat.ne_of_beq_eq_false rfl)) 1 [.int .i64 (u l : Nat)] 3 rfl (fun ρ w' ho hK => by
        have ho : Only _ wr w' := ho
        obtain ⟨h0, -⟩ := hK
        have h0' : ρ (.tmp 30) = _ := h0
        go_simp) ?_
      refine rs_append2 rfl (gB + 1) 3 23 1 (vx) (k) (cs) _ rfl rfl (fun g hg => hg) (show gB + 1 ≤ wr.heap.size by omega) _ _ rfl _ _ rfl rfl rfl rfl i0 _ 8 Try.underlying23 hi0 hz0 hz1 hz2 rfl (by decide) (by omega) (by decide) (by simp [Value.oneCell']) ?_
      apply rs_eq (hO _ _) (.inl (Nat.ne_of_beq_eq_false rfl))
      · intro ρ w' ho hK
        have ho : Only _ wr w' := ho
        obtain ⟨h0, -⟩ := hK
        have h0' : ρ (.tmp 5) = _ := h0
        go_simp
        try exact rfl
      intro f w9 k9 hk9 hI9 ht9 hcp9
      have E0 : f 0 = _ := ht9 0 (Nat.le_of_ble_eq_true rfl)
      have E1 : f 1 = _ := ht9 1 (Nat.le_of_ble_eq_true rfl)
      have E2 : f 2 = _ := ht9 2 (Nat.le_of_ble_eq_true rfl)
      conv at E2 => rhs; whnf
      have E3 : f 3 = _ := ht9 3 (Nat.le_of_ble_eq_true rfl)
      conv at E3 => rhs; whnf
      have E4 : f 4 = _ := ht9 4 (Nat.le_of_ble_eq_true rfl)
      have E5 : (TNew _ 1 1 [.int .i64 (u l : Nat)]) w9 (f 5) := ht9 5 (Nat.le_of_ble_eq_true rfl)
      have E6 : (TAny) w9 (f 6) := ht9 6 (Nat.le_of_ble_eq_true rfl)
      have E7 : f 7 = _ := ht9 7 (Nat.le_of_ble_eq_true rfl)
      have Ho9 : Only _ wr w9 := hI9.2.1
      have hown9 : w9.ownsRow (gB + 1) 3 1 (f 6) (k + 1) (cs ++ [.int .i64 (u l : Nat)]) := hI9.2.2.1
      have hat9 : ∀ g, (f 6).ownBlock = some g → (vx).ownBlock = some g ∨ wr.heap.size ≤ g := hI9.2.2.2
      simp only [putAll, E0, E1, E2, E3, E4, E7, Nat.zero_add, Nat.reduceAdd, Act.put, List.setIfInBounds_toArray, List.set_cons_succ, List.set_cons_zero, List.take, List.getElem_toArray, List.getElem_cons_succ, List.getElem_cons_zero]
      clear E0 E1 E2 E3 E4 E7
      clear hI9 ht9 hcp9 hk9
      generalize f 5 = r5 at *
      generalize f 6 = r6 at *
      have O9 : Only (fun g => vx.ownBlock = some g) wr w9 := Ho9
      have hx9 := (O9.block gB hgB hne).trans HX.out
      have hR9 := (O9.block gR hgR hneR).trans HR.out
      obtain ⟨A9, c9, hv9⟩ := slice_of_own hown9
      subst hv9
      have q1 := blk_cell hx9 1
      have f1 := blk_free hx9 1
      have Hown9 := Lib.hid hown9
      have Hx10 := Lib.hid (heap_setCell_same w9 gB 1 _ _ (.slice A9 (k + 1) c9) hx9)
      have HR9' := Lib.hid hR9
      have HB9 := Lib.hid (HBel.out w9 O9)
      clear Ho9 hown9 hat9 hx9 hR9 O9 hO HX HR HO HBel
      go_wp2_with fail
      go_roundw
      case rel => exact ⟨k + 1, _, by omega, by go_num, Lib.hid (by have h := Hx10.out; simp at h; exact h), Lib.hid ((heap_setCell_other' _ _ _ _ _ (by omega)).trans HR9'.out), Lib.hid (by rw [HS.out]; exact own_setB Hown9.out (by omega)), Lib.hid (HB9.out.setCell (by simp only; omega) _)⟩
      case measure => simp [intOf]; omega
    · obtain rfl : k = c.next.length := by omega
      rw [List.take_length] at HO
      have HO1 : Hid (wr.ownsRow (gB + 1) 3 1 vx c.next.length (nints' (c.next.map u))) := HO
      have q0 := (Hb.out.cell (p := ⟨g, 2, none⟩) hg).trans C2.out
      clear HO
      go_wp2_with fail
      obtain ⟨W1, hW1⟩ : ∃ W, W = wr := ⟨_, rfl⟩
      subst hW1
      obtain ⟨B2, hB2⟩ : ∃ B2, B2 = W1.heap.size := ⟨_, rfl⟩
      have hB2B : gB < B2 := by omega
      have hvx2 : ∀ g, vx.ownBlock = some g → g < B2 := fun g hg => by rw [hB2]; exact (HO1.out.lt g hg).2
      have Hvx2 := Lib.hid hvx2
      have hz1 : B2 ≤ W1.heap.size := by omega
      clear hvx2 hB2 q0
      go_loopw [40] (fun i wr => ∃ (k : Nat) (v2 : Value), k ≤ c.gates.length ∧ i = .int .i64 k ∧ Hid (wr.heap[gB]? = some (.cells #[.int .i64 (Cir.toCz c).ins, vx, v2, .slice none 0 0] 26 (0, 0))) ∧ Hid (wr.heap[gR]? = some (.cells #[.int .i64 0, .slice none 0 0, .slice none 0 0, .slice none 0 0] 26 (0, 0))) ∧ Hid (wr.ownsRow (gB + 1) 3 1 vx c.next.length (nints' (c.next.map u))) ∧ Hid (wr.ownsRow B2 72 2 v2 k (ngates ((c.gates.take k).map fun g => (u g.1, u g.2)))) ∧ B2 ≤ wr.heap.size ∧ Hid (Below w.heap.size w wr)) (fun i _ => c.gates.length - (intOf i).toNat)
      case atStart => exact ⟨0, .slice none 0 0, Nat.zero_le _, rfl, HX, HR, HO1, Lib.hid (World.ownsRow_nil _ _ _ _), hz1, Hb⟩
      case round =>
        obtain ⟨k, v2, hk, rfl, HX', HR', HO1', HO2, hz2, Hb'⟩ := hrel
        clear HX HR HO1 Hb hlt hz1
        have hgB := blk_ltB HX'.out
        have hgR := blk_ltB HR'.out
        by_cases hlt : k < c.gates.length
        · obtain ⟨gt, hgt⟩ := at_some hlt
          obtain ⟨hlN1, hlN2⟩ := HN2.out gt (List.mem_of_getElem? hgt)
          obtain ⟨b, o, x, rfl, hbl, hx, hs1, hs2⟩ := cubes_open R2.out Hb'.out HL.out.2.1.symm (i := k) (by rw [HL.out.2.1]; exact hlt)
          have hxe : x = ((gt.1 : Int), (gt.2 : Int)) := by
            have h1 := hx.out
            unfold Cir.toCz at h1
            simp only [List.getElem?_map, hgt] at h1
            exact (Option.some.inj h1).symm
          subst hxe
          have HS := Lib.hid (ngates_snoc hgt u)
          generalize hcs : ngates ((c.gates.take k).map fun g => (u g.1, u g.2)) = cs at *
          obtain ⟨x1, hx1⟩ : ∃ x1, x1 = gt.1 := ⟨_, rfl⟩
          obtain ⟨x2, hx2⟩ : ∃ x2, x2 = gt.2 := ⟨_, rfl⟩
          rw [← hx1] at hlN1 HS hs1
          rw [← hx2] at hlN2 HS hs2
          have hlt2 : ∀ g, v2.ownBlock = some g → B2 ≤ g ∧ g < wr.heap.size := fun g hg => HO2.out.lt g hg
          have hba := bel_new wr (.cells #[.int .i64 (x1 : Int), .int .i64 (x2 : Int)] 72)
          have hg9 := heap_alloc_new wr (.cells #[.int .i64 (x1 : Int), .int .i64 (x2 : Int)] 72)
          have hza : (wr.alloc (.cells #[.int .i64 (x1 : Int), .int .i64 (x2 : Int)] 72)).heap.size = wr.heap.size + 1 := by simp
          have hXa := (hba.block gB hgB).trans HX'.out
          have hRa := (hba.block gR hgR).trans HR'.out
          have HO1a := Lib.hid (own_below HO1'.out hba)
          have HO2a := Lib.hid (own_below HO2.out hba)
          have Hba := Lib.hid (Hb'.out.trans (hba.mono Hb'.out.size))
          have hzb := Hb'.out.size
          clear hx hgt hcs hx1 hx2 hbl hba HO1' HO2
          go_wp2_with fail
          generalize wr.alloc (.cells #[.int .i64 (x1 : Int), .int .i64 (x2 : Int)] 72) = Wg at *
          obtain ⟨gk, hgk⟩ : ∃ gk, gk = wr.heap.size := ⟨_, rfl⟩
          rw [← hgk] at hg9 hza hlt2 ⊢
          have hgkz : gk < Wg.heap.size := by omega
          have hgBz : gB < Wg.heap.size := by omega
          have hgRz : gR < Wg.heap.size := by omega
          have hne : ¬ (v2.ownBlock = some gB) := fun e => by have := (hlt2 gB e).1; omega
          have hneR : ¬ (v2.ownBlock = some gR) := fun e => by have := (hlt2 gR e).1; omega
          have hnek : ¬ (v2.ownBlock = some gk) := fun e => by have := (hlt2 gk e).2; omega
          have hB2z : B2 ≤ Wg.heap.size := by omega
          have HBel : Hid (∀ w', Only (fun g => v2.ownBlock = some g) Wg w' → Below w.heap.size w w') := Lib.hid fun w' ho => Only.below Hba.out ho Hba.out.size (fun q hq => by have := (hlt2 q hq).1; omega)
          have HG9 := Lib.hid hg9
          have HXa := Lib.hid hXa
          have HRa := Lib.hid hRa
          have Hlt2 := Lib.hid hlt2
          clear hg9 hXa hRa hgk hza hlt2 hs1 hs2
          obtain ⟨i0, hi0, hz0, hz1, hz2⟩ := info_parts info_gate
          have hO := fun ops a => appRS2_ok (Pg := Try.prog) (ops := ops) (a := a) (news := [.int .i64 (u x1 : Nat), .int .i64 (u x2 : Nat)]) (d := 12) (HO2a.out)
          refine wp_region_rsl (appRS2 Try.prog _ Wg _ (B2) 72 2 (v2) (k) (cs) [.int .i64 (u x1 : Nat), .int .i64 (u x2 : Nat)] 12) (hO _ _) (by kernel_rfl) (by kernel_rfl) (by kernel_rfl) 14 _ rfl rfl (by kernel_rfl) (show (12 : Nat) < 14 by decide) trivial HO2a.out ?_
          apply rs_eq (hO _ _) (.inl (Nat.ne_of_beq_eq_false rfl))
          · intro ρ w' ho hK
            have ho : Only _ Wg w' := ho
            obtain ⟨h0, -⟩ := hK
            have h0' : ρ (.tmp 5) = _ := h0
            go_simp
            try exact rfl
          apply rs_eq (hO _ _) (.inl (Nat.ne_of_beq_eq_false rfl))
          · intro ρ w' ho hK
            have ho : Only _ Wg w' := ho
            obtain ⟨h0, -⟩ := hK
            have h0' : ρ (.tmp 44) = _ := h0
            have q1 := cell_on ho (fun e => hne e) hgBz (blk_cell HXa.out 2)
            have k0 := cell_on ho (fun e => hnek e) hgkz (blk_cell HG9.out 0)
            have k1 := cell_on ho (fun e => hnek e) hgkz (blk_cell HG9.out 1)
            go_simp
            try exact rfl
          refine rs_old (hO _ _) (.inl (Nat.ne_of_beq_eq_false rfl)) _ (.inl rfl) _ rfl rfl ?_
          apply rs_eq (hO _ _) (.inl (Nat.ne_of_beq_eq_false rfl))
          · intro ρ w' ho hK
            have ho : Only _ Wg w' := ho
            obtain ⟨h0, -⟩ := hK
            have h0' : ρ (.tmp 9) = _ := h0
            go_simp
            try exact rfl
          apply rs_eq (hO _ _) (.inl (Nat.ne_of_beq_eq_false rfl))
          · intro ρ w' ho hK
            have ho : Only _ Wg w' := ho
            obtain ⟨h0, -⟩ := hK
            have h0' : ρ (.tmp 47) = _ := h0
            have q1 := cell_on ho (fun e => hne e) hgBz (blk_cell HXa.out 2)
            have k0 := cell_on ho (fun e => hnek e) hgkz (blk_cell HG9.out 0)
            have k1 := cell_on ho (fun e => hnek e) hgkz (blk_cell HG9.out 1)
            go_simp
            try exact rfl
          refine rs_callV (hO _ _) (.inl (Nat.ne_of_beq_eq_false rfl)) (TEq (.int .i64 ((u x1 : Nat) : Int))) (stb_eq _ _) (.tmp 46) _ _ rfl (fun ρ w' ho hK => by
            have ho : Only _ Wg w' := ho
            obtain ⟨h0, h1, -⟩ := hK
            have h0' : ρ (.tmp 46) = _ := h0
            have h1' : ρ (.tmp 48) = _ := h1
            refine ⟨F, #[ρ (.tmp 48)] ++ caps, ?_, ?_⟩
            · go_simp
            · rw [h1']
              refine (HU.out w' (HBel.out w' ho) x1 hlN1).mono ?_
              rintro e w2 ⟨rfl, hb⟩
              exact ⟨_, rfl, rfl, hb⟩) ?_
          refine rs_old (hO _ _) (.inl (Nat.ne_of_beq_eq_false rfl)) _ (.inl rfl) _ rfl rfl ?_
          apply rs_eq (hO _ _) (.inl (Nat.ne_of_beq_eq_false rfl))
          · intro ρ w' ho hK
            have ho : Only _ Wg w' := ho
            obtain ⟨h0, -⟩ := hK
            have h0' : ρ (.tmp 9) = _ := h0
            go_simp
            try exact rfl
          apply rs_eq (hO _ _) (.inl (Nat.ne_of_beq_eq_false rfl))
          · intro ρ w' ho hK
            have ho : Only _ Wg w' := ho
            obtain ⟨h0, -⟩ := hK
            have h0' : ρ (.tmp 51) = _ := h0
            have q1 := cell_on ho (fun e => hne e) hgBz (blk_cell HXa.out 2)
            have k0 := cell_on ho (fun e => hnek e) hgkz (blk_cell HG9.out 0)
            have k1 := cell_on ho (fun e => hnek e) hgkz (blk_cell HG9.out 1)
            go_simp
            try exact rfl
          refine rs_callV (hO _ _) (.inl (Nat.ne_of_beq_eq_false rfl)) (TEq (.int .i64 ((u x2 : Nat) : Int))) (stb_eq _ _) (.tmp 50) _ _ rfl (fun ρ w' ho hK => by
            have ho : Only _ Wg w' := ho
            obtain ⟨h0, h1, -⟩ := hK
            have h0' : ρ (.tmp 50) = _ := h0
            have h1' : ρ (.tmp 52) = _ := h1
            refine ⟨F, #[ρ (.tmp 52)] ++ caps, ?_, ?_⟩
            · go_simp
            · rw [h1']
              refine (HU.out w' (HBel.out w' ho) x2 hlN2).mono ?_
              rintro e w2 ⟨rfl, hb⟩
              exact ⟨_, rfl, rfl, hb⟩) ?_
          apply rs_eq (hO _ _) (.inl (Nat.ne_of_beq_eq_false rfl))
          · intro ρ w' ho hK
            have ho : Only _ Wg w' := ho
            obtain ⟨h0, h1, -⟩ := hK
            have h0' : ρ (.tmp 49) = _ := h0
            have h1' : ρ (.tmp 53) = _ := h1
            go_simp
            try exact rfl
          refine rs_build1 (hO _ _) (.inl (Nat.ne_of_beq_eq_false rfl)) 2 [.int .i64 (u x1 : Nat), .int .i64 (u x2 : Nat)] 72 rfl (fun ρ w' ho hK => by
            have ho : Only _ Wg w' := ho
            obtain ⟨h0, -⟩ := hK
            have h0' : ρ (.tmp 54) = _ := h0
            go_simp) ?_
          refine rs_append2 rfl (B2) 72 24 2 (v2) (k) (cs) _ rfl rfl (fun g hg => hg) (show B2 ≤ Wg.heap.size by omega) _ _ rfl _ _ rfl rfl rfl rfl i0 _ 16 Try.underlying24 hi0 hz0 hz1 hz2 rfl (by decide) (by omega) (by decide) (by simp [Value.oneCell']) ?_
          apply rs_eq (hO _ _) (.inl (Nat.ne_of_beq_eq_false rfl))
          · intro ρ w' ho hK
            have ho : Only _ Wg w' := ho
            obtain ⟨h0, -⟩ := hK
            have h0' : ρ (.tmp 5) = _ := h0
            go_simp
            try exact rfl
          intro f w9 k9 hk9 hI9 ht9 hcp9
          have E0 : f 0 = _ := ht9 0 (Nat.le_of_ble_eq_true rfl)
          have E1 : f 1 = _ := ht9 1 (Nat.le_of_ble_eq_true rfl)
          have E2 : f 2 = _ := ht9 2 (Nat.le_of_ble_eq_true rfl)
          conv at E2 => rhs; whnf
          have E3 : f 3 = _ := ht9 3 (Nat.le_of_ble_eq_true rfl)
          have E4 : f 4 = _ := ht9 4 (Nat.le_of_ble_eq_true rfl)
          have E5 : f 5 = _ := ht9 5 (Nat.le_of_ble_eq_true rfl)
          have E6 : f 6 = _ := ht9 6 (Nat.le_of_ble_eq_true rfl)
          conv at E6 => rhs; whnf
          have E7 : f 7 = _ := ht9 7 (Nat.le_of_ble_eq_true rfl)
          have E8 : f 8 = _ := ht9 8 (Nat.le_of_ble_eq_true rfl)
          have E9 : f 9 = _ := ht9 9 (Nat.le_of_ble_eq_true rfl)
          have E10 : f 10 = _ := ht9 10 (Nat.le_of_ble_eq_true rfl)
          have E11 : (TNew _ 2 1 [.int .i64 (u x1 : Nat), .int .i64 (u x2 : Nat)]) w9 (f 11) := ht9 11 (Nat.le_of_ble_eq_true rfl)
          have E12 : (TAny) w9 (f 12) := ht9 12 (Nat.le_of_ble_eq_true rfl)
          have E13 : f 13 = _ := ht9 13 (Nat.le_of_ble_eq_true rfl)
          have Ho9 : Only _ Wg w9 := hI9.2.1
          have hown9 : w9.ownsRow (B2) 72 2 (f 12) (k + 1) (cs ++ [.int .i64 (u x1 : Nat), .int .i64 (u x2 : Nat)]) := hI9.2.2.1
          have hat9 : ∀ g, (f 12).ownBlock = some g → (v2).ownBlock = some g ∨ Wg.heap.size ≤ g := hI9.2.2.2
          simp only [putAll, E0, E1, E2, E3, E4, E5, E6, E7, E8, E9, E10, E13, Nat.zero_add, Nat.reduceAdd, Act.put, List.setIfInBounds_toArray, List.set_cons_succ, List.set_cons_zero, List.take, List.getElem_toArray, List.getElem_cons_succ, List.getElem_cons_zero]
          clear E0 E1 E2 E3 E4 E5 E6 E7 E8 E9 E10 E13
          clear hI9 ht9 hcp9 hk9
          generalize f 11 = r11 at *
          generalize f 12 = r12 at *
          have O9 : Only (fun g => v2.ownBlock = some g) Wg w9 := Ho9
          have hx9 := (O9.block gB hgBz hne).trans HXa.out
          have hR9 := (O9.block gR hgRz hneR).trans HRa.out
          obtain ⟨A9, c9, hv9⟩ := slice_of_own hown9
          subst hv9
          have q1 := blk_cell hx9 2
          have f1 := blk_free hx9 2
          have Hown9 := Lib.hid hown9
          have Hx10 := Lib.hid (heap_setCell_same w9 gB 2 _ _ (.slice A9 (k + 1) c9) hx9)
          have HR9' := Lib.hid hR9
          have HB9 := Lib.hid (HBel.out w9 O9)
          have HO1b := Lib.hid (own_only HO1a.out O9 (fun g hg e => by have h1 := Hvx2.out g hg; have h2 := (Hlt2.out g e).1; omega))
          have hz9 := O9.size
          clear Ho9 hown9 hat9 hx9 hR9 O9 hO HXa HRa HO2a HBel HG9 HO1a Hba
          go_wp2_with fail
          go_roundw
          case rel => exact ⟨k + 1, _, by omega, by go_num, Lib.hid (by have h := Hx10.out; simp at h; exact h), Lib.hid ((heap_setCell_other' _ _ _ _ _ (by omega)).trans HR9'.out), Lib.hid (own_setB HO1b.out (by omega)), Lib.hid (by rw [HS.out]; exact own_setB Hown9.out (by omega)), by simp; omega, Lib.hid (HB9.out.setCell (by simp only; omega) _)⟩
          case measure => simp [intOf]; omega
        · obtain rfl : k = c.gates.length := by omega
          rw [List.take_length] at HO2
          have HO2e : Hid (wr.ownsRow B2 72 2 v2 c.gates.length (ngates (c.gates.map fun g => (u g.1, u g.2)))) := HO2
          have q0 := (Hb'.out.cell (p := ⟨g, 3, none⟩) hg).trans C3.out
          clear HO2
          go_wp2_with fail
          obtain ⟨W2, hW2⟩ : ∃ W, W = wr := ⟨_, rfl⟩
          subst hW2
          obtain ⟨B3, hB3⟩ : ∃ B3, B3 = W2.heap.size := ⟨_, rfl⟩
          have hB3B : gB < B3 := by omega
          have hB3B2 : B2 ≤ B3 := by omega
          have hvx3 : ∀ g, vx.ownBlock = some g → g < B3 := fun g hg => by rw [hB3]; exact (HO1'.out.lt g hg).2
          have hv23 : ∀ g, v2.ownBlock = some g → g < B3 := fun g hg => by rw [hB3]; exact (HO2e.out.lt g hg).2
          have Hvx3 := Lib.hid (And.intro hvx3 hv23)
          have hz3 : B3 ≤ W2.heap.size := by omega
          clear hvx3 hv23 hB3 q0 Hvx2
          go_loopw [64] (fun i wr => ∃ (k : Nat) (v3 : Value), k ≤ c.outs.length ∧ i = .int .i64 k ∧ Hid (wr.heap[gB]? = some (.cells #[.int .i64 (Cir.toCz c).ins, vx, v2, v3] 26 (0, 0))) ∧ Hid (wr.heap[gR]? = some (.cells #[.int .i64 0, .slice none 0 0, .slice none 0 0, .slice none 0 0] 26 (0, 0))) ∧ Hid (wr.ownsRow (gB + 1) 3 1 vx c.next.length (nints' (c.next.map u))) ∧ Hid (wr.ownsRow B2 72 2 v2 c.gates.length (ngates (c.gates.map fun g => (u g.1, u g.2)))) ∧ Hid (wr.ownsRow B3 3 1 v3 k (nints' ((c.outs.take k).map u))) ∧ B3 ≤ wr.heap.size ∧ Hid (Below w.heap.size w wr)) (fun i _ => c.outs.length - (intOf i).toNat)
          case atStart => exact ⟨0, .slice none 0 0, Nat.zero_le _, rfl, HX', HR', HO1', HO2e, Lib.hid (World.ownsRow_nil _ _ _ _), hz3, Hb'⟩
          case round =>
            obtain ⟨k, v3, hk, rfl, HX3, HR3, HO1e, HO2f, HO3, hz4, Hb3⟩ := hrel
            clear HX' HR' HO1' HO2e Hb' hlt hz3
            have hgB := blk_ltB HX3.out
            have hgR := blk_ltB HR3.out
            by_cases hlt : k < c.outs.length
            · obtain ⟨l, hl⟩ := at_some hlt
              have hlN := HN3.out l (List.mem_of_getElem? hl)
              obtain ⟨b, o, x, rfl, hbl, hx, hs⟩ := ints_open R3.out Hb3.out HL.out.2.2.symm (i := k) (by rw [HL.out.2.2]; exact hlt)
              have hxe : x = (l : Int) := by
                have h1 := hx.out
                unfold Cir.toCz at h1
                rw [List.getElem?_map, hl] at h1
                exact (Option.some.inj h1).symm
              subst hxe
              have HS := Lib.hid (nints'_snoc hl u)
              have hlt2 : ∀ g, v3.ownBlock = some g → B3 ≤ g ∧ g < wr.heap.size := fun g hg => HO3.out.lt g hg
              have hne : ¬ (v3.ownBlock = some gB) := fun e => by have := (hlt2 gB e).1; omega
              have hneR : ¬ (v3.ownBlock = some gR) := fun e => by have := (hlt2 gR e).1; omega
              have HBel : Hid (∀ w', Only (fun g => v3.ownBlock = some g) wr w' → Below w.heap.size w w') := Lib.hid fun w' ho => Only.below Hb3.out ho Hb3.out.size (fun q hq => by have := (hlt2 q hq).1; omega)
              have Hlt2 := Lib.hid hlt2
              generalize hcs : nints' ((c.outs.take k).map u) = cs at *
              clear hx hl hcs hlt2
              go_wp2_with fail
              obtain ⟨i0, hi0, hz0, hz1, hz2⟩ := info_parts info_int
              have hO := fun ops a => appRS2_ok (Pg := Try.prog) (ops := ops) (a := a) (news := [.int .i64 (u l : Nat)]) (d := 6) (HO3.out)
              refine wp_region_rsl (appRS2 Try.prog _ wr _ (B3) 3 1 (v3) (k) (cs) [.int .i64 (u l : Nat)] 6) (hO _ _) (by kernel_rfl) (by kernel_rfl) (by kernel_rfl) 8 _ rfl rfl (by kernel_rfl) (show (6 : Nat) < 8 by decide) trivial HO3.out ?_
              apply rs_eq (hO _ _) (.inl (Nat.ne_of_beq_eq_false rfl))
              · intro ρ w' ho hK
                have ho : Only _ wr w' := ho
                obtain ⟨h0, -⟩ := hK
                have h0' : ρ (.tmp 5) = _ := h0
                go_simp
                try exact rfl
              apply rs_eq (hO _ _) (.inl (Nat.ne_of_beq_eq_false rfl))
              · intro ρ w' ho hK
                have ho : Only _ wr w' := ho
                obtain ⟨h0, -⟩ := hK
                have h0' : ρ (.tmp 68) = _ := h0
                have q1 := cell_on ho (fun e => hne e) hgB (blk_cell HX3.out 3)
                go_simp
                try exact rfl
              refine rs_old (hO _ _) (.inl (Nat.ne_of_beq_eq_false rfl)) _ (.inl rfl) _ rfl rfl ?_
              refine rs_old (hO _ _) (.inl (Nat.ne_of_beq_eq_false rfl)) _ (.inl rfl) _ rfl rfl ?_
              refine rs_callV (hO _ _) (.inl (Nat.ne_of_beq_eq_false rfl)) (TEq (.int .i64 ((u l : Nat) : Int))) (stb_eq _ _) (.tmp 70) _ _ rfl (fun ρ w' ho hK => by
                have ho : Only _ wr w' := ho
                obtain ⟨h0, h1, -⟩ := hK
                have h0' : ρ (.tmp 70) = _ := h0
                have h1' : ρ (.tmp 71) = _ := h1
                refine ⟨F, #[ρ (.tmp 71)] ++ caps, ?_, ?_⟩
                · go_simp
                · rw [h1']
                  refine (HU.out w' (HBel.out w' ho) l hlN).mono ?_
                  rintro e w2 ⟨rfl, hb⟩
                  exact ⟨_, rfl, rfl, hb⟩) ?_
              refine rs_build1 (hO _ _) (.inl (Nat.ne_of_beq_eq_false rfl)) 1 [.int .i64 (u l : Nat)] 3 rfl (fun ρ w' ho hK => by
                have ho : Only _ wr w' := ho
                obtain ⟨h0, -⟩ := hK
                have h0' : ρ (.tmp 72) = _ := h0
                go_simp) ?_
              refine rs_append2 rfl (B3) 3 23 1 (v3) (k) (cs) _ rfl rfl (fun g hg => hg) (show B3 ≤ wr.heap.size by omega) _ _ rfl _ _ rfl rfl rfl rfl i0 _ 8 Try.underlying23 hi0 hz0 hz1 hz2 rfl (by decide) (by omega) (by decide) (by simp [Value.oneCell']) ?_
              apply rs_eq (hO _ _) (.inl (Nat.ne_of_beq_eq_false rfl))
              · intro ρ w' ho hK
                have ho : Only _ wr w' := ho
                obtain ⟨h0, -⟩ := hK
                have h0' : ρ (.tmp 5) = _ := h0
                go_simp
                try exact rfl
              intro f w9 k9 hk9 hI9 ht9 hcp9
              have E0 : f 0 = _ := ht9 0 (Nat.le_of_ble_eq_true rfl)
              have E1 : f 1 = _ := ht9 1 (Nat.le_of_ble_eq_true rfl)
              have E2 : f 2 = _ := ht9 2 (Nat.le_of_ble_eq_true rfl)
              conv at E2 => rhs; whnf
              have E3 : f 3 = _ := ht9 3 (Nat.le_of_ble_eq_true rfl)
              conv at E3 => rhs; whnf
              have E4 : f 4 = _ := ht9 4 (Nat.le_of_ble_eq_true rfl)
              have E5 : (TNew _ 1 1 [.int .i64 (u l : Nat)]) w9 (f 5) := ht9 5 (Nat.le_of_ble_eq_true rfl)
              have E6 : (TAny) w9 (f 6) := ht9 6 (Nat.le_of_ble_eq_true rfl)
              have E7 : f 7 = _ := ht9 7 (Nat.le_of_ble_eq_true rfl)
              have Ho9 : Only _ wr w9 := hI9.2.1
              have hown9 : w9.ownsRow (B3) 3 1 (f 6) (k + 1) (cs ++ [.int .i64 (u l : Nat)]) := hI9.2.2.1
              have hat9 : ∀ g, (f 6).ownBlock = some g → (v3).ownBlock = some g ∨ wr.heap.size ≤ g := hI9.2.2.2
              simp only [putAll, E0, E1, E2, E3, E4, E7, Nat.zero_add, Nat.reduceAdd, Act.put, List.setIfInBounds_toArray, List.set_cons_succ, List.set_cons_zero, List.take, List.getElem_toArray, List.getElem_cons_succ, List.getElem_cons_zero]
              clear E0 E1 E2 E3 E4 E7
              clear hI9 ht9 hcp9 hk9
              generalize f 5 = r5 at *
              generalize f 6 = r6 at *
              have O9 : Only (fun g => v3.ownBlock = some g) wr w9 := Ho9
              have hx9 := (O9.block gB hgB hne).trans HX3.out
              have hR9 := (O9.block gR hgR hneR).trans HR3.out
              obtain ⟨A9, c9, hv9⟩ := slice_of_own hown9
              subst hv9
              have q1 := blk_cell hx9 3
              have f1 := blk_free hx9 3
              have Hown9 := Lib.hid hown9
              have Hx10 := Lib.hid (heap_setCell_same w9 gB 3 _ _ (.slice A9 (k + 1) c9) hx9)
              have HR9' := Lib.hid hR9
              have HB9 := Lib.hid (HBel.out w9 O9)
              have HO1b := Lib.hid (own_only HO1e.out O9 (fun g hg e => by have h1 := Hvx3.out.1 g hg; have h2 := (Hlt2.out g e).1; omega))
              have HO2b := Lib.hid (own_only HO2f.out O9 (fun g hg e => by have h1 := Hvx3.out.2 g hg; have h2 := (Hlt2.out g e).1; omega))
              have hz9 := O9.size
              clear Ho9 hown9 hat9 hx9 hR9 O9 hO HX3 HR3 HO3 HBel HO1e HO2f Hb3
              go_wp2_with fail
              go_roundw
              case rel => exact ⟨k + 1, _, by omega, by go_num, Lib.hid (by have h := Hx10.out; simp at h; exact h), Lib.hid ((heap_setCell_other' _ _ _ _ _ (by omega)).trans HR9'.out), Lib.hid (own_setB HO1b.out (by omega)), Lib.hid (own_setB HO2b.out (by omega)), Lib.hid (by rw [HS.out]; exact own_setB Hown9.out (by omega)), by simp; omega, Lib.hid (HB9.out.setCell (by simp only; omega) _)⟩
              case measure => simp [intOf]; omega
            · obtain rfl : k = c.outs.length := by omega
              rw [List.take_length] at HO3
              obtain ⟨A1, c1', hv1⟩ := slice_of_own HO1e.out
              subst hv1
              obtain ⟨A2, c2', hv2⟩ := slice_of_own HO2f.out
              subst hv2
              obtain ⟨A3, c3', hv3⟩ := slice_of_own HO3.out
              subst hv3
              have q0 := blk_cell HX3.out 0
              have q1 := blk_cell HX3.out 1
              have q2 := blk_cell HX3.out 2
              have q3 := blk_cell HX3.out 3
              have r0 := blk_cell HR3.out 0
              have r1 := blk_cell HR3.out 1
              have r2 := blk_cell HR3.out 2
              have r3 := blk_cell HR3.out 3
              have f0 := blk_free HR3.out 0
              have f1 := blk_free HR3.out 1
              have f2 := blk_free HR3.out 2
              have f3 := blk_free HR3.out 3
              have hlm : (Cir.toCz (mapC u c)).next.length = c.next.length ∧ (Cir.toCz (mapC u c)).gates.length = c.gates.length ∧ (Cir.toCz (mapC u c)).outs.length = c.outs.length := ⟨by simp [Cir.toCz, mapC], by simp [Cir.toCz, mapC], by simp [Cir.toCz, mapC]⟩
              have Hlm := Lib.hid hlm
              clear hlm HX3 hlt
              go_wp2_with fail
              refine bodyPost_ret (v := .agg #[.int .i64 (Cir.toCz c).ins, .slice A1 c.next.length c1', .slice A2 c.gates.length c2', .slice A3 c.outs.length c3']) (by simp [results, Try.results56, go_sem, r0, r1, r2, r3]) rfl ⟨⟨_, rfl, _, _, _, rfl, ?_, ?_, ?_⟩, ?_⟩
              · rw [Hlm.out.1]
                exact own_mono (own_setB (own_setB (own_setB (own_setB HO1e.out (by omega)) (by omega)) (by omega)) (by omega)) (by omega)
              · rw [Hlm.out.2.1]
                exact own_mono (own_setB (own_setB (own_setB (own_setB (by have h := HO2f.out; unfold ngates at h; unfold Cir.toCz mapC; exact h) (by omega)) (by omega)) (by omega)) (by omega)) (by omega)
              · rw [Hlm.out.2.2]
                exact own_mono (own_setB (own_setB (own_setB (own_setB HO3.out (by omega)) (by omega)) (by omega)) (by omega)) (by omega)
              · exact (((Hb3.out.setCell (by simp only; omega) _).setCell (by simp only; omega) _).setCell (by simp only; omega) _).setCell (by simp only; omega) _
end Go.Proofs.Ytdgminjbgjbamaa
namespace Go.Proofs.Ytdgminjbgjbamaa
open Go.RowKit Go.Joins Go.ChangeShapes Go.WideShapes Go.ChangeAt Go.Deep
section
variable {H : Type} {enc : TypeId × Value → H} {P : Program} {w : World} {base : Nat} {spare : Nat → Bool} {held : Bool}
end
def WfI (x : Int) : Prop := -9223372036854775808 ≤ x ∧ x ≤ 9223372036854775807
def GInts (w : World) (cs : List Value) : Prop := ∃ (A : Option Addr) (n c : Nat) (xs : List Int), cs = [.slice A n c] ∧ IntsAt w (.slice A n c) xs ∧ xs.length = n ∧ ∀ x ∈ xs, WfI x
def GBools (w : World) (cs : List Value) : Prop := ∃ (A : Option Addr) (n c : Nat) (xs : List Bool), cs = [.slice A n c] ∧ BoolsAt w (.slice A n c) xs ∧ xs.length = n
def GPairs (w : World) (cs : List Value) : Prop := ∃ (A : Option Addr) (n c : Nat) (xs : List (Int × Int)), cs = [.slice A n c] ∧ CubesAt w (.slice A n c) xs ∧ xs.length = n ∧ ∀ x ∈ xs, WfI x.1 ∧ WfI x.2
section
variable {H : Type} {enc : TypeId × Value → H} {w : World} {base : Nat} {spare : Nat → Bool} {held : Bool}
end
section
variable {H : Type} {enc : TypeId × Value → H} {w : World} {r : Reach} {b0 base : Nat} {spare : Nat → Bool} {held : Bool} {v : Value} {d : DataW H} {p : List MemPlace}
def AInt (_ : World) (v : Value) : Prop := ∃ x : Int, v = .int .i64 x ∧ WfI x
def AInts (w : World) (v : Value) : Prop := ∃ xs : List Int, IntsAt w v xs ∧ ∀ x ∈ xs, WfI x
def ABools (w : World) (v : Value) : Prop := ∃ xs : List Bool, BoolsAt w v xs
def APairs (w : World) (v : Value) : Prop := ∃ xs : List (Int × Int), CubesAt w v xs ∧ ∀ x ∈ xs, WfI x.1 ∧ WfI x.2
end
end Go.Proofs.Ytdgminjbgjbamaa
namespace Go.Proofs.Ytdgminjbgjbamaa
open Go.RowKit Go.Joins Go.ChangeShapes Go.WideShapes Go.ChangeAt Go.Deep
section
variable {H : Type} {enc : TypeId × Value → H} {w : World} {r : Reach} {b0 base : Nat} {spare : Nat → Bool} {held : Bool} {v : Value} {d : DataW H} {p : List MemPlace}
def ACirc (w : World) (v : Value) : Prop := ∃ c : Cz, CircAt w v c ∧ WfI c.ins ∧ (∀ x ∈ c.next, WfI x) ∧ (∀ x ∈ c.gates, WfI x.1 ∧ WfI x.2) ∧ (∀ x ∈ c.outs, WfI x)
end
theorem CircAt.shape {w : World} {v : Value} {c : Cz} (h : CircAt w v c) : ∃ An cn Ag cg Ao co, v = .agg #[.int .i64 c.ins, .slice An c.next.length cn, .slice Ag c.gates.length cg, .slice Ao c.outs.length co] := by
  obtain ⟨vn, vg, vo, rfl, r1, r2, r3⟩ := h
  obtain ⟨An, cn, rfl, -⟩ := Row.shape r1
  obtain ⟨Ag, cg, rfl, -⟩ := Row.shape r2
  obtain ⟨Ao, co, rfl, -⟩ := Row.shape r3
  exact ⟨An, cn, Ag, cg, Ao, co, rfl⟩
def TCirc (c : Cz) : Ty := fun w v => CircAt w v c
structure BoxC (w : World) (g : Nat) (c : Cz) (vn vg vo : Value) : Prop where
  pc : PCells w g c.ins vn vg vo
  at_ : CircAt w (.agg #[.int .i64 c.ins, vn, vg, vo]) c
end Go.Proofs.Ytdgminjbgjbamaa
namespace Go.Proofs.Ytdgminjbgjbamaa
open Go.RowKit Go.Maps
theorem and_known_st {B b F : Nat} {G : List (Nat × Nat)} {E : Nat → Prop} {m : Nat} {vg vl : Value} {L : List Int} (x y l : Nat) (w : World) (h : Bld B b F G E m vg vl L w) (hx : x < 1000000) (hy : y < 1000000) (hs : ¬ y < x) (h1 : x ≠ 0) (h2 : x ≠ y ^^^ 1) (h3 : x ≠ 1) (h4 : x ≠ y) (hk : Cir.knownG F G x y = some l) :
    Calls Try.prog 72 #[.pointer (some ⟨b, 0, none⟩), .int .i64 (x : Int), .int .i64 (y : Int)] w
      fun e w' => e = .returned (.int .i64 (l : Int)) ∧ Below w.heap.size w w' := by
  have hxor : bits .xor .i64 (y : Int) 1 = ((y ^^^ 1 : Nat) : Int) := i64_xor_nat y 1 (by omega) (by omega)
  have d1 : decide (y < x) = false := decide_eq_false hs
  have e1 : ((x : Int) == 0) = false := beq_ff (b := 0) h1
  have e2 : ((x : Int) == ((y ^^^ 1 : Nat) : Int)) = false := beq_ff h2
  have e3 : ((x : Int) == 1) = false := beq_ff (b := 1) h3
  have e4 : ((x : Int) == (y : Int)) = false := beq_ff h4
  generalize y ^^^ 1 = Y at *
  clear h1 h2 h3 h4 hs
  have hbn := bel_new w (.cells #[.int .i64 (x : Int), .int .i64 (y : Int)] 72)
  have hg := heap_alloc_new w (.cells #[.int .i64 (x : Int), .int .i64 (y : Int)] 72)
  have hzW : (w.alloc (.cells #[.int .i64 (x : Int), .int .i64 (y : Int)] 72)).heap.size = w.heap.size + 1 := by simp
  have H := Lib.hid (h.below hbn)
  have HB := Lib.hid hbn
  have Hk := Lib.hid hk
  have hbW : b < w.heap.size := (h.lo b h.eb).2
  clear h hbn hk
  go_enter Try.func72, Try.ntmps72
  go_wp2_with fail
  generalize w.alloc (.cells #[.int .i64 (x : Int), .int .i64 (y : Int)] 72) = W at *
  generalize hN : w.heap.size = N at *
  have c3 := gw_cell (blk_cell H.out.box 3) (by show b < W.heap.size; omega)
  have k0 := gw_cell (blk_cell hg 0) (by show N < W.heap.size; omega)
  have k1 := gw_cell (blk_cell hg 1) (by show N < W.heap.size; omega)
  have hlk : ∀ n : GW W, (Instr.lookup 93 (.map (some m)) (.agg #[.int .i64 (x : Int), .int .i64 (y : Int)]) true).run Try.prog (gw n) = .ok (.tuple #[.int .i64 (l : Int), .bool true]) (gw n) := fun n => by
    have := (H.out.map.below (gw_below n)).look (x := x) (y := y) (by omega) (by omega)
    rw [Hk.out] at this
    exact this
  refine wp_region_grow (by kernel_rfl) (by kernel_rfl) ?_
  repeat (go_big_quiet_step ((fail)))
  refine wpQuiet_nil ?_
  intro _ hw'
  obtain ⟨nq, hw''⟩ := hw'
  subst hw''
  have hgq := gw_below nq
  generalize gw nq = wq at *
  clear nq
  go_wp2_with fail
  go_ret
  subst hN
  exact ⟨rfl, HB.out.trans (hgq.mono HB.out.size)⟩
end Go.Proofs.Ytdgminjbgjbamaa
namespace Go.Proofs.Ytdgminjbgjbamaa
open Go.RowKit Go.Maps
theorem and_known_sw {B b F : Nat} {G : List (Nat × Nat)} {E : Nat → Prop} {m : Nat} {vg vl : Value} {L : List Int} (x y l : Nat) (w : World) (h : Bld B b F G E m vg vl L w) (hx : x < 1000000) (hy : y < 1000000) (hs : x < y) (h1 : x ≠ 0) (h2 : x ≠ y ^^^ 1) (h3 : x ≠ 1) (h4 : x ≠ y) (hk : Cir.knownG F G x y = some l) :
    Calls Try.prog 72 #[.pointer (some ⟨b, 0, none⟩), .int .i64 (y : Int), .int .i64 (x : Int)] w
      fun e w' => e = .returned (.int .i64 (l : Int)) ∧ Below w.heap.size w w' := by
  have hxor : bits .xor .i64 (y : Int) 1 = ((y ^^^ 1 : Nat) : Int) := i64_xor_nat y 1 (by omega) (by omega)
  have d1 : decide (x < y) = true := decide_eq_true hs
  have e1 : ((x : Int) == 0) = false := beq_ff (b := 0) h1
  have e2 : ((x : Int) == ((y ^^^ 1 : Nat) : Int)) = false := beq_ff h2
  have e3 : ((x : Int) == 1) = false := beq_ff (b := 1) h3
  have e4 : ((x : Int) == (y : Int)) = false := beq_ff h4
  generalize y ^^^ 1 = Y at *
  clear h1 h2 h3 h4 hs
  have hbn := bel_new w (.cells #[.int .i64 (x : Int), .int .i64 (y : Int)] 72)
  have hg := heap_alloc_new w (.cells #[.int .i64 (x : Int), .int .i64 (y : Int)] 72)
  have hzW : (w.alloc (.cells #[.int .i64 (x : Int), .int .i64 (y : Int)] 72)).heap.size = w.heap.size + 1 := by simp
  have H := Lib.hid (h.below hbn)
  have HB := Lib.hid hbn
  have Hk := Lib.hid hk
  have hbW : b < w.heap.size := (h.lo b h.eb).2
  clear h hbn hk
  go_enter Try.func72, Try.ntmps72
  go_wp2_with fail
  generalize w.alloc (.cells #[.int .i64 (x : Int), .int .i64 (y : Int)] 72) = W at *
  generalize hN : w.heap.size = N at *
  have c3 := gw_cell (blk_cell H.out.box 3) (by show b < W.heap.size; omega)
  have k0 := gw_cell (blk_cell hg 0) (by show N < W.heap.size; omega)
  have k1 := gw_cell (blk_cell hg 1) (by show N < W.heap.size; omega)
  have hlk : ∀ n : GW W, (Instr.lookup 93 (.map (some m)) (.agg #[.int .i64 (x : Int), .int .i64 (y : Int)]) true).run Try.prog (gw n) = .ok (.tuple #[.int .i64 (l : Int), .bool true]) (gw n) := fun n => by
    have := (H.out.map.below (gw_below n)).look (x := x) (y := y) (by omega) (by omega)
    rw [Hk.out] at this
    exact this
  refine wp_region_grow (by kernel_rfl) (by kernel_rfl) ?_
  repeat (go_big_quiet_step ((fail)))
  refine wpQuiet_nil ?_
  intro _ hw'
  obtain ⟨nq, hw''⟩ := hw'
  subst hw''
  have hgq := gw_below nq
  generalize gw nq = wq at *
  clear nq
  go_wp2_with fail
  go_ret
  subst hN
  exact ⟨rfl, HB.out.trans (hgq.mono HB.out.size)⟩
end Go.Proofs.Ytdgminjbgjbamaa
namespace Go.Proofs.Ytdgminjbgjbamaa
open Go.RowKit Go.Maps
theorem and_new_sw {B b F : Nat} {G : List (Nat × Nat)} {E : Nat → Prop} {m : Nat} {vg vl : Value} {L : List Int} (x y : Nat) (w : World) (h : Bld B b F G E m vg vl L w) (hF : F ≤ 300) (hG : G.length ≤ 10000) (hx : x < 2 * (F + G.length)) (hy : y < 2 * (F + G.length)) (hs : x < y) (h1 : x ≠ 0) (h2 : x ≠ y ^^^ 1) (h3 : x ≠ 1) (h4 : x ≠ y) (hk : Cir.knownG F G x y = none) :
    Calls Try.prog 72 #[.pointer (some ⟨b, 0, none⟩), .int .i64 (y : Int), .int .i64 (x : Int)] w
      fun e w' => e = .returned (.int .i64 ((2 * (F + G.length) : Nat) : Int)) ∧ BldNext B b F ((x, y) :: G) E w w' := by
  have hxor : bits .xor .i64 (y : Int) 1 = ((y ^^^ 1 : Nat) : Int) := i64_xor_nat y 1 (by omega) (by omega)
  have d1 : decide (x < y) = true := decide_eq_true hs
  have e1 : ((x : Int) == 0) = false := beq_ff (b := 0) h1
  have e2 : ((x : Int) == ((y ^^^ 1 : Nat) : Int)) = false := beq_ff h2
  have e3 : ((x : Int) == 1) = false := beq_ff (b := 1) h3
  have e4 : ((x : Int) == (y : Int)) = false := beq_ff h4
  generalize y ^^^ 1 = Y at *
  clear h1 h2 h3 h4 hs
  have hbn := bel_new w (.cells #[.int .i64 (x : Int), .int .i64 (y : Int)] 72)
  have hg := heap_alloc_new w (.cells #[.int .i64 (x : Int), .int .i64 (y : Int)] 72)
  have hzW : (w.alloc (.cells #[.int .i64 (x : Int), .int .i64 (y : Int)] 72)).heap.size = w.heap.size + 1 := by simp
  have H := Lib.hid (h.below hbn)
  have HB := Lib.hid hbn
  have Hk := Lib.hid hk
  have hbW : b < w.heap.size := (h.lo b h.eb).2
  obtain ⟨Ag, cg, hvg⟩ := slice_of_own h.gs
  have hw1 := IntWalk.i64_in ((F : Int) + (G.length : Int)) (by omega)
  have hw2 := IntWalk.i64_in (2 * ((F : Int) + (G.length : Int))) (by omega)
  have HN : Hid (∀ g, E g → g < w.heap.size) := Lib.hid fun g hg => (h.lo g hg).2
  clear h hbn hk
  go_enter Try.func72, Try.ntmps72
  go_wp2_with fail
  generalize w.alloc (.cells #[.int .i64 (x : Int), .int .i64 (y : Int)] 72) = W at *
  generalize hN : w.heap.size = N at *
  have c0 := gw_cell (blk_cell H.out.box 0) (by show b < W.heap.size; omega)
  have c1 := gw_cell (blk_cell H.out.box 1) (by show b < W.heap.size; omega)
  have c3 := gw_cell (blk_cell H.out.box 3) (by show b < W.heap.size; omega)
  have k0 := gw_cell (blk_cell hg 0) (by show N < W.heap.size; omega)
  have k1 := gw_cell (blk_cell hg 1) (by show N < W.heap.size; omega)
  have hlk : ∀ n : GW W, (Instr.lookup 93 (.map (some m)) (.agg #[.int .i64 (x : Int), .int .i64 (y : Int)]) true).run Try.prog (gw n) = .ok (.tuple #[.int .i64 0, .bool false]) (gw n) := fun n => by
    have := (H.out.map.below (gw_below n)).look (x := x) (y := y) (by omega) (by omega)
    rw [Hk.out] at this
    exact this
  refine wp_region_grow (by kernel_rfl) (by kernel_rfl) ?_
  repeat (go_big_quiet_step ((fail)))
  refine wpQuiet_nil ?_
  intro _ hw'
  obtain ⟨nq, hw''⟩ := hw'
  subst hw''
  have hgq := gw_below nq
  generalize gw nq = wq at *
  clear nq
  have B1 := Lib.hid hgq
  have H1 := Lib.hid (H.out.below hgq)
  have hg1 := (hgq.block N (by omega)).trans hg
  have z1 := hgq.size
  clear H hlk c0 c1 c3 k0 k1 hgq hg
  subst hvg
  obtain ⟨W1, hW1⟩ : ∃ W1, W1 = wq := ⟨_, rfl⟩
  subst hW1
  go_wp2_with fail
  have c0 := gw_cell (blk_cell H1.out.box 0) (by show b < W1.heap.size; omega)
  have c1 := gw_cell (blk_cell H1.out.box 1) (by show b < W1.heap.size; omega)
  refine wp_region_grow (by kernel_rfl) (by kernel_rfl) ?_
  repeat (go_big_quiet_step ((fail)))
  refine wpQuiet_nil ?_
  intro _ hw'
  obtain ⟨nq, hw''⟩ := hw'
  subst hw''
  have hgq := gw_below nq
  generalize gw nq = wq at *
  clear nq
  have B2 := Lib.hid (B1.out.trans (hgq.mono B1.out.size))
  have H2 := Lib.hid (H1.out.below hgq)
  have hg2 := (hgq.block N (by omega)).trans hg1
  have z2 := hgq.size
  clear H1 c0 c1 hgq hg1 B1
  obtain ⟨W2, hW2⟩ : ∃ W2, W2 = wq := ⟨_, rfl⟩
  subst hW2
  obtain ⟨V, hV⟩ : ∃ V : Nat, 2 * ((F : Int) + (G.length : Int)) = (V : Int) := ⟨2 * (F + G.length), by omega⟩
  have hV2 : V = 2 * (F + G.length) := by omega
  rw [hV]
  clear hw1 hw2 hV
  have hz2 : b < W2.heap.size := by omega
  have hz3 : N < W2.heap.size := by omega
  go_wp2_with fail
  refine wp_region_rsl (quietRS Try.prog _ W2 _) quietRS_ok (by kernel_rfl) (by kernel_rfl) (by kernel_rfl) 6 _ rfl rfl (by kernel_rfl) (show (0 : Nat) < 6 by decide) trivial trivial ?_
  refine rs_old quietRS_ok quiet_any _ (.inl rfl) _ rfl rfl ?_
  apply rs_eq quietRS_ok quiet_any
  · intro ρ w' ho hK
    have ho : Only _ W2 w' := ho
    obtain ⟨h0, -⟩ := hK
    have h0' : ρ (.tmp 58) = _ := h0
    go_simp
    try exact rfl
  apply rs_eq quietRS_ok quiet_any
  · intro ρ w' ho hK
    have ho : Only _ W2 w' := ho
    obtain ⟨h0, -⟩ := hK
    have h0' : ρ (.tmp 59) = _ := h0
    go_simp
    try exact rfl
  apply rs_eq quietRS_ok quiet_any
  · intro ρ w' ho hK
    have ho : Only _ W2 w' := ho
    obtain ⟨h0, -⟩ := hK
    have h0' : ρ (.tmp 60) = _ := h0
    have hb := only_below ho
    have q3 := (hb.cell (p := ⟨b, 3, none⟩) hz2).trans (blk_cell H2.out.box 3)
    have k0 := (hb.cell (p := ⟨N, 0, none⟩) hz3).trans (blk_cell hg2 0)
    have k1 := (hb.cell (p := ⟨N, 1, none⟩) hz3).trans (blk_cell hg2 1)
    go_simp
    try exact rfl
  apply rs_eq quietRS_ok quiet_any
  · intro ρ w' ho hK
    have ho : Only _ W2 w' := ho
    obtain ⟨h0, -⟩ := hK
    have h0' : ρ (.tmp 7) = _ := h0
    have hb := only_below ho
    have q3 := (hb.cell (p := ⟨b, 3, none⟩) hz2).trans (blk_cell H2.out.box 3)
    have k0 := (hb.cell (p := ⟨N, 0, none⟩) hz3).trans (blk_cell hg2 0)
    have k1 := (hb.cell (p := ⟨N, 1, none⟩) hz3).trans (blk_cell hg2 1)
    go_simp
    try exact rfl
  refine rs_old quietRS_ok quiet_any _ (.inl rfl) _ rfl rfl ?_
  intro f w9 k9 hk9 hI9 ht9 hcp9
  have E0 : f 0 = _ := ht9 0 (Nat.le_of_ble_eq_true rfl)
  conv at E0 => rhs; whnf
  have E1 : f 1 = _ := ht9 1 (Nat.le_of_ble_eq_true rfl)
  have E2 : f 2 = _ := ht9 2 (Nat.le_of_ble_eq_true rfl)
  have E3 : f 3 = _ := ht9 3 (Nat.le_of_ble_eq_true rfl)
  have E4 : f 4 = _ := ht9 4 (Nat.le_of_ble_eq_true rfl)
  have E5 : f 5 = _ := ht9 5 (Nat.le_of_ble_eq_true rfl)
  conv at E5 => rhs; whnf
  have Ho9 : Only _ W2 w9 := hI9.2.1
  simp only [putAll, E0, E1, E2, E3, E4, E5, Nat.zero_add, Nat.reduceAdd, Act.put, List.setIfInBounds_toArray, List.set_cons_succ, List.set_cons_zero, List.take, List.getElem_toArray, List.getElem_cons_succ, List.getElem_cons_zero]
  clear E0 E1 E2 E3 E4 E5
  clear hI9 ht9 hcp9 hk9
  obtain ⟨W3, hW3⟩ : ∃ W, W = w9 := ⟨_, rfl⟩
  subst hW3
  have hb9 := only_below Ho9
  have B3 := Lib.hid (B2.out.trans (hb9.mono B2.out.size))
  have H3 := Lib.hid (H2.out.below hb9)
  have hg3 := (hb9.block N hz3).trans hg2
  have z3 := hb9.size
  clear Ho9 hb9 hg2 H2 B2
  refine wpList_add_gate W3 rfl (.tmp 61) (.tmp 62) (.tmp 63) rfl m G.length _ rfl H3.out.map (by omega) x y V (by omega) (by omega) (by omega) rfl rfl ?_
  intro w4 hm4 hg4
  have HM4 := Lib.hid hm4
  have z4 := hg4.size
  have O4 := Lib.hid (Only.grown (E := fun g => g = m) hg4 (fun k hk => (Option.some.inj hk).symm))
  have hx4 := (O4.out.block b (by omega) H3.out.bm).trans H3.out.box
  have hgn : N ≠ m := fun e => by have := H3.out.lo m H3.out.em; have := HN.out m H3.out.em; omega
  have hg5 := (O4.out.block N (by omega) hgn).trans hg3
  have hgs4 := Lib.hid (own_only H3.out.gs O4.out (fun g hg e => H3.out.gm (by rw [hg, e])))
  have hls4 := Lib.hid (own_only H3.out.ls O4.out (fun g hg e => H3.out.lm (by rw [hg, e])))
  have hz5 : b < w4.heap.size := by omega
  have hz6 : N < w4.heap.size := by omega
  have hgb := H3.out.gb
  have hgN : ∀ g, (Value.slice Ag G.length cg).ownBlock = some g → g < N := fun g hg => HN.out g (H3.out.eg g hg)
  have hBW : B ≤ w4.heap.size := by have := (H3.out.lo b H3.out.eb).1; omega
  clear hm4 hg4 hg3
  go_wp2_with fail
  obtain ⟨cs, hcs⟩ : ∃ cs, cubes (Cir.gatesOf G) = cs := ⟨_, rfl⟩
  rw [hcs] at hgs4
  obtain ⟨i0, hi0, hz0, hz1, hz2⟩ := info_parts info_gate
  have hO := fun ops a => appRS2_ok (Pg := Try.prog) (ops := ops) (a := a) (news := [.int .i64 (x : Int), .int .i64 (y : Int)]) (d := 7) (hgs4.out)
  refine wp_region_rsl (appRS2 Try.prog _ w4 _ (B) 72 2 (Value.slice Ag G.length cg) (G.length) (cs) [.int .i64 (x : Int), .int .i64 (y : Int)] 7) (hO _ _) (by kernel_rfl) (by kernel_rfl) (by kernel_rfl) 10 _ rfl rfl (by kernel_rfl) (show (7 : Nat) < 10 by decide) trivial hgs4.out ?_
  refine rs_old (hO _ _) (.inl (Nat.ne_of_beq_eq_false rfl)) _ (.inl rfl) _ rfl rfl ?_
  refine rs_old (hO _ _) (.inl (Nat.ne_of_beq_eq_false rfl)) _ (.inl rfl) _ rfl rfl ?_
  apply rs_eq (hO _ _) (.inl (Nat.ne_of_beq_eq_false rfl))
  · intro ρ w' ho hK
    have ho : Only _ w4 w' := ho
    obtain ⟨h0, -⟩ := hK
    have h0' : ρ (.tmp 65) = _ := h0
    go_simp
    try exact rfl
  apply rs_eq (hO _ _) (.inl (Nat.ne_of_beq_eq_false rfl))
  · intro ρ w' ho hK
    have ho : Only _ w4 w' := ho
    obtain ⟨h0, -⟩ := hK
    have h0' : ρ (.tmp 66) = _ := h0
    go_simp
    try exact rfl
  apply rs_eq (hO _ _) (.inl (Nat.ne_of_beq_eq_false rfl))
  · intro ρ w' ho hK
    have ho : Only _ w4 w' := ho
    obtain ⟨h0, -⟩ := hK
    have h0' : ρ (.tmp 67) = _ := h0
    have q1 := cell_on ho (fun e => hgb e) hz5 (blk_cell hx4 1)
    have k0 := cell_on ho (fun e => absurd (hgN N e) (Nat.lt_irrefl _)) hz6 (blk_cell hg5 0)
    have k1 := cell_on ho (fun e => absurd (hgN N e) (Nat.lt_irrefl _)) hz6 (blk_cell hg5 1)
    go_simp
    try exact rfl
  apply rs_eq (hO _ _) (.inl (Nat.ne_of_beq_eq_false rfl))
  · intro ρ w' ho hK
    have ho : Only _ w4 w' := ho
    obtain ⟨h0, -⟩ := hK
    have h0' : ρ (.tmp 7) = _ := h0
    have q1 := cell_on ho (fun e => hgb e) hz5 (blk_cell hx4 1)
    have k0 := cell_on ho (fun e => absurd (hgN N e) (Nat.lt_irrefl _)) hz6 (blk_cell hg5 0)
    have k1 := cell_on ho (fun e => absurd (hgN N e) (Nat.lt_irrefl _)) hz6 (blk_cell hg5 1)
    go_simp
    try exact rfl
  refine rs_build1 (hO _ _) (.inl (Nat.ne_of_beq_eq_false rfl)) 2 [.int .i64 (x : Int), .int .i64 (y : Int)] 72 rfl (fun ρ w' ho hK => by
    have ho : Only _ w4 w' := ho
    obtain ⟨h0, -⟩ := hK
    have h0' : ρ (.tmp 69) = _ := h0
    go_simp) ?_
  refine rs_append2 rfl (B) 72 24 2 (Value.slice Ag G.length cg) (G.length) (cs) _ rfl rfl (fun g hg => hg) (show B ≤ w4.heap.size by omega) _ _ rfl _ _ rfl rfl rfl rfl i0 _ 16 Try.underlying24 hi0 hz0 hz1 hz2 rfl (by decide) (by omega) (by decide) (by simp [Value.oneCell']) ?_
  apply rs_eq (hO _ _) (.inl (Nat.ne_of_beq_eq_false rfl))
  · intro ρ w' ho hK
    have ho : Only _ w4 w' := ho
    obtain ⟨h0, -⟩ := hK
    have h0' : ρ (.tmp 64) = _ := h0
    go_simp
    try exact rfl
  apply rs_eq (hO _ _) (.inl (Nat.ne_of_beq_eq_false rfl))
  · intro ρ w' ho hK
    have ho : Only _ w4 w' := ho
    obtain ⟨h0, -⟩ := hK
    have h0' : ρ (.tmp 72) = _ := h0
    go_simp
    try exact rfl
  intro f w9 k9 hk9 hI9 ht9 hcp9
  have E0 : f 0 = _ := ht9 0 (Nat.le_of_ble_eq_true rfl)
  conv at E0 => rhs; whnf
  have E1 : f 1 = _ := ht9 1 (Nat.le_of_ble_eq_true rfl)
  conv at E1 => rhs; whnf
  have E2 : f 2 = _ := ht9 2 (Nat.le_of_ble_eq_true rfl)
  have E3 : f 3 = _ := ht9 3 (Nat.le_of_ble_eq_true rfl)
  have E4 : f 4 = _ := ht9 4 (Nat.le_of_ble_eq_true rfl)
  have E5 : f 5 = _ := ht9 5 (Nat.le_of_ble_eq_true rfl)
  have E6 : (TNew _ 2 1 [.int .i64 (x : Int), .int .i64 (y : Int)]) w9 (f 6) := ht9 6 (Nat.le_of_ble_eq_true rfl)
  have E7 : (TAny) w9 (f 7) := ht9 7 (Nat.le_of_ble_eq_true rfl)
  have E8 : f 8 = _ := ht9 8 (Nat.le_of_ble_eq_true rfl)
  have E9 : f 9 = _ := ht9 9 (Nat.le_of_ble_eq_true rfl)
  have Ho9 : Only _ w4 w9 := hI9.2.1
  have hown9 : w9.ownsRow (B) 72 2 (f 7) (G.length + 1) (cs ++ [.int .i64 (x : Int), .int .i64 (y : Int)]) := hI9.2.2.1
  have hat9 : ∀ g, (f 7).ownBlock = some g → (Value.slice Ag G.length cg).ownBlock = some g ∨ w4.heap.size ≤ g := hI9.2.2.2
  simp only [putAll, E0, E1, E2, E3, E4, E5, E8, E9, Nat.zero_add, Nat.reduceAdd, Act.put, List.setIfInBounds_toArray, List.set_cons_succ, List.set_cons_zero, List.take, List.getElem_toArray, List.getElem_cons_succ, List.getElem_cons_zero]
  clear E0 E1 E2 E3 E4 E5 E8 E9
  clear hI9 ht9 hcp9 hk9
  generalize f 6 = r6 at *
  generalize f 7 = r7 at *
  obtain ⟨W4, hW4⟩ : ∃ W, W = w9 := ⟨_, rfl⟩
  subst hW4
  have O9 : Only (fun g => (Value.slice Ag G.length cg).ownBlock = some g) w4 W4 := Ho9
  obtain ⟨A7, c7, hv7⟩ := slice_of_own hown9
  subst hv7
  have hx9 := (O9.block b hz5 hgb).trans hx4
  have hgm := H3.out.gm
  have HM9 := Lib.hid (HM4.out.only O9 hgm)
  have hls9 := Lib.hid (own_only hls4.out O9 (fun g hg e => H3.out.ap g e hg))
  have z9 := O9.size
  have q1 := blk_cell hx9 1
  have f1 := blk_free hx9 1
  have Hat9 := Lib.hid hat9
  have Hown9 := Lib.hid hown9
  have HO9 := Lib.hid O9
  obtain ⟨gl, cl, hvl, hgl, hgl2, hcl, hclm⟩ := own_open hls9.out (by omega)
  unfold maxLen at hclm
  subst hvl
  have hx10 := heap_setCell_same W4 b 1 _ _ (.slice A7 (G.length + 1) c7) hx9
  have hbl := H3.out.lb'
  have hls10 := Lib.hid (own_only hls9.out (Only.grown (E := fun g => g = b) (set_grown W4 b 1 (.slice A7 (G.length + 1) c7)) (fun k hk => (Option.some.inj hk).symm)) (fun g hg e => hbl (by rw [hg, e])))
  have z10 : (W4.setCell ⟨b, 1, none⟩ (.slice A7 (G.length + 1) c7)).heap.size = W4.heap.size := by simp
  clear Ho9 hown9 hat9 O9 hx4 hg5 E6 E7 hO hls4 hgs4 HM4
  go_wp2_with fail
  obtain ⟨W5, hW5⟩ : ∃ W5, W5 = W4.setCell ⟨b, 1, none⟩ (.slice A7 (G.length + 1) c7) := ⟨_, rfl⟩
  rw [← hW5] at hx10 hls10 z10 ⊢
  clear q1 f1
  obtain ⟨n, hn⟩ : ∃ n, n = F + G.length := ⟨_, rfl⟩
  rw [← hn] at hls10 hbl hx10 hcl
  have hqx : (x : Int).tdiv 2 = ((x / 2 : Nat) : Int) := by rw [Int.tdiv_eq_ediv_of_nonneg (by omega)]; omega
  have hqy : (y : Int).tdiv 2 = ((y / 2 : Nat) : Int) := by rw [Int.tdiv_eq_ediv_of_nonneg (by omega)]; omega
  have hix : x / 2 < n := by omega
  have hiy : y / 2 < n := by omega
  have hwx := IntWalk.i64_in ((x / 2 : Nat) : Int) (by omega)
  have hwy := IntWalk.i64_in ((y / 2 : Nat) : Int) (by omega)
  generalize x / 2 = X at *
  generalize y / 2 = Z at *
  have hLl := H3.out.ll
  rw [← hn] at hLl
  obtain ⟨u1, hu1⟩ : ∃ u1, L[X]? = some u1 := ⟨_, List.getElem?_eq_getElem (by omega)⟩
  obtain ⟨u2, hu2⟩ : ∃ u2, L[Z]? = some u2 := ⟨_, List.getElem?_eq_getElem (by omega)⟩
  have hb1 := H3.out.lb u1 (List.mem_of_getElem? hu1)
  have hb2 := H3.out.lb u2 (List.mem_of_getElem? hu2)
  have hcu1 : (ints L)[X]? = some (.int .i64 u1) := by unfold ints; rw [List.getElem?_map, hu1]; rfl
  have hcu2 : (ints L)[Z]? = some (.int .i64 u2) := by unfold ints; rw [List.getElem?_map, hu2]; rfl
  obtain ⟨U, hU⟩ : ∃ U, (if u1 < u2 then u2 else u1) = U := ⟨_, rfl⟩
  have hUb : 0 ≤ U ∧ U ≤ G.length := by rw [← hU]; split <;> omega
  have hw3 := IntWalk.i64_in (1 + U) (by omega)
  obtain ⟨cs2, hcs2⟩ : ∃ cs2, ints L = cs2 := ⟨_, rfl⟩
  rw [hcs2] at hls10 hcu1 hcu2
  have hz7 : b < W5.heap.size := by omega
  have hBW5 : B ≤ W5.heap.size := by omega
  have hn1 : n ≤ 20000 := by omega
  have Hn := Lib.hid hn
  have HLl := Lib.hid hLl
  have Hcs2 := Lib.hid hcs2
  clear hLl hu1 hu2 hn hcs2
  obtain ⟨i0, hi0, hz0, hz1, hz2⟩ := info_parts info_int
  have hO := fun ops a => appRS2_ok (Pg := Try.prog) (ops := ops) (a := a) (news := [.int .i64 (1 + U)]) (d := 24) (hls10.out)
  refine wp_region_rsl (appRS2 Try.prog _ W5 _ (B) 3 1 (Value.slice (some ⟨gl, 0, none⟩) n cl) (n) (cs2) [.int .i64 (1 + U)] 24) (hO _ _) (by kernel_rfl) (by kernel_rfl) (by kernel_rfl) 27 _ rfl rfl (by kernel_rfl) (show (24 : Nat) < 27 by decide) trivial hls10.out ?_
  refine rs_old (hO _ _) (.inl (Nat.ne_of_beq_eq_false rfl)) _ (.inl rfl) _ rfl rfl ?_
  refine rs_old (hO _ _) (.inl (Nat.ne_of_beq_eq_false rfl)) _ (.inl rfl) _ rfl rfl ?_
  apply rs_eq (hO _ _) (.inl (Nat.ne_of_beq_eq_false rfl))
  · intro ρ w' ho hK
    have ho : Only _ W5 w' := ho
    obtain ⟨h0, -⟩ := hK
    have h0' : ρ (.tmp 75) = _ := h0
    go_simp
    try exact rfl
  apply rs_eq (hO _ _) (.inl (Nat.ne_of_beq_eq_false rfl))
  · intro ρ w' ho hK
    have ho : Only _ W5 w' := ho
    obtain ⟨h0, -⟩ := hK
    have h0' : ρ (.tmp 76) = _ := h0
    go_simp
    try exact rfl
  apply rs_eq (hO _ _) (.inl (Nat.ne_of_beq_eq_false rfl))
  · intro ρ w' ho hK
    have ho : Only _ W5 w' := ho
    obtain ⟨h0, -⟩ := hK
    have h0' : ρ (.tmp 77) = _ := h0
    have q1 := cell_on ho (fun e => hbl e) hz7 (blk_cell hx10 2)
    go_simp
    try exact rfl
  refine rs_old (hO _ _) (.inl (Nat.ne_of_beq_eq_false rfl)) _ (.inl rfl) _ rfl rfl ?_
  apply rs_eq (hO _ _) (.inl (Nat.ne_of_beq_eq_false rfl))
  · intro ρ w' ho hK
    have ho : Only _ W5 w' := ho
    obtain ⟨h0, -⟩ := hK
    have h0' : ρ (.tmp 79) = _ := h0
    go_simp
    try exact rfl
  apply rs_eq (hO _ _) (.inl (Nat.ne_of_beq_eq_false rfl))
  · intro ρ w' ho hK
    have ho : Only _ W5 w' := ho
    obtain ⟨h0, -⟩ := hK
    have h0' : ρ (.tmp 80) = _ := h0
    go_simp
    try exact rfl
  apply rs_eq (hO _ _) (.inl (Nat.ne_of_beq_eq_false rfl))
  · intro ρ w' ho hK
    have ho : Only _ W5 w' := ho
    obtain ⟨h0, -⟩ := hK
    have h0' : ρ (.tmp 81) = _ := h0
    have q1 := cell_on ho (fun e => hbl e) hz7 (blk_cell hx10 2)
    go_simp
    try exact rfl
  refine rs_old (hO _ _) (.inl (Nat.ne_of_beq_eq_false rfl)) _ (.inl rfl) _ rfl rfl ?_
  apply rs_eq (hO _ _) (.inl (Nat.ne_of_beq_eq_false rfl))
  · intro ρ w' ho hK
    have ho : Only _ W5 w' := ho
    obtain ⟨h0, h1, -⟩ := hK
    have h0' : ρ (.tmp 83) = _ := h0
    have h1' : ρ (.const (Value.int IntKind.i64 2)) = (Value.int IntKind.i64 2) := h1
    go_simp
    try exact rfl
  apply rs_eq (hO _ _) (.inl (Nat.ne_of_beq_eq_false rfl))
  · intro ρ w' ho hK
    have ho : Only _ W5 w' := ho
    obtain ⟨h0, h1, -⟩ := hK
    have h0' : ρ (.tmp 82) = _ := h0
    have h1' : ρ (.tmp 84) = _ := h1
    go_simp
    try exact rfl
  refine rs_eq_before (hO _ _) (Nat.ne_of_beq_eq_false rfl) (by kernel_rfl) (c := .int .i64 u1) (fun ρ w' ho hJ hK => by
    obtain ⟨h0, -⟩ := hK
    have h0' : ρ (.tmp 85) = _ := h0
    have hJ' : w'.ownsRow B 3 1 (Value.slice (some ⟨gl, 0, none⟩) n cl) n cs2 := hJ
    obtain ⟨u, e1, e2, e3⟩ := own_slot hJ' (j := X) (by omega)
    rw [hcu1] at e1
    cases e1
    go_simp) ?_
  refine rs_old (hO _ _) (.inl (Nat.ne_of_beq_eq_false rfl)) _ (.inl rfl) _ rfl rfl ?_
  apply rs_eq (hO _ _) (.inl (Nat.ne_of_beq_eq_false rfl))
  · intro ρ w' ho hK
    have ho : Only _ W5 w' := ho
    obtain ⟨h0, -⟩ := hK
    have h0' : ρ (.tmp 87) = _ := h0
    go_simp
    try exact rfl
  apply rs_eq (hO _ _) (.inl (Nat.ne_of_beq_eq_false rfl))
  · intro ρ w' ho hK
    have ho : Only _ W5 w' := ho
    obtain ⟨h0, -⟩ := hK
    have h0' : ρ (.tmp 88) = _ := h0
    go_simp
    try exact rfl
  apply rs_eq (hO _ _) (.inl (Nat.ne_of_beq_eq_false rfl))
  · intro ρ w' ho hK
    have ho : Only _ W5 w' := ho
    obtain ⟨h0, -⟩ := hK
    have h0' : ρ (.tmp 89) = _ := h0
    have q1 := cell_on ho (fun e => hbl e) hz7 (blk_cell hx10 2)
    go_simp
    try exact rfl
  refine rs_old (hO _ _) (.inl (Nat.ne_of_beq_eq_false rfl)) _ (.inl rfl) _ rfl rfl ?_
  apply rs_eq (hO _ _) (.inl (Nat.ne_of_beq_eq_false rfl))
  · intro ρ w' ho hK
    have ho : Only _ W5 w' := ho
    obtain ⟨h0, h1, -⟩ := hK
    have h0' : ρ (.tmp 91) = _ := h0
    have h1' : ρ (.const (Value.int IntKind.i64 2)) = (Value.int IntKind.i64 2) := h1
    go_simp
    try exact rfl
  apply rs_eq (hO _ _) (.inl (Nat.ne_of_beq_eq_false rfl))
  · intro ρ w' ho hK
    have ho : Only _ W5 w' := ho
    obtain ⟨h0, h1, -⟩ := hK
    have h0' : ρ (.tmp 90) = _ := h0
    have h1' : ρ (.tmp 92) = _ := h1
    go_simp
    try exact rfl
  refine rs_eq_before (hO _ _) (Nat.ne_of_beq_eq_false rfl) (by kernel_rfl) (c := .int .i64 u2) (fun ρ w' ho hJ hK => by
    obtain ⟨h0, -⟩ := hK
    have h0' : ρ (.tmp 93) = _ := h0
    have hJ' : w'.ownsRow B 3 1 (Value.slice (some ⟨gl, 0, none⟩) n cl) n cs2 := hJ
    obtain ⟨u, e1, e2, e3⟩ := own_slot hJ' (j := Z) (by omega)
    rw [hcu2] at e1
    cases e1
    go_simp) ?_
  apply rs_eq (hO _ _) (.inl (Nat.ne_of_beq_eq_false rfl))
  · intro ρ w' ho hK
    have ho : Only _ W5 w' := ho
    obtain ⟨h0, h1, -⟩ := hK
    have h0' : ρ (.tmp 86) = _ := h0
    have h1' : ρ (.tmp 94) = _ := h1
    go_simp
    try exact rfl
  apply rs_eq (hO _ _) (.inl (Nat.ne_of_beq_eq_false rfl))
  · intro ρ w' ho hK
    have ho : Only _ W5 w' := ho
    obtain ⟨h0, h1, -⟩ := hK
    have h0' : ρ (.const (Value.int IntKind.i64 1)) = (Value.int IntKind.i64 1) := h0
    have h1' : ρ (.tmp 95) = _ := h1
    go_simp
    try exact rfl
  refine rs_build1 (hO _ _) (.inl (Nat.ne_of_beq_eq_false rfl)) 1 [.int .i64 (1 + U)] 3 rfl (fun ρ w' ho hK => by
    have ho : Only _ W5 w' := ho
    obtain ⟨h0, -⟩ := hK
    have h0' : ρ (.tmp 96) = _ := h0
    go_simp) ?_
  refine rs_append2 rfl (B) 3 23 1 (Value.slice (some ⟨gl, 0, none⟩) n cl) (n) (cs2) _ rfl rfl (fun g hg => hg) (show B ≤ W5.heap.size by omega) _ _ rfl _ _ rfl rfl rfl rfl i0 _ 8 Try.underlying23 hi0 hz0 hz1 hz2 rfl (by decide) (by omega) (by decide) (by simp [Value.oneCell']) ?_
  apply rs_eq (hO _ _) (.inl (Nat.ne_of_beq_eq_false rfl))
  · intro ρ w' ho hK
    have ho : Only _ W5 w' := ho
    obtain ⟨h0, -⟩ := hK
    have h0' : ρ (.tmp 74) = _ := h0
    go_simp
    try exact rfl
  apply rs_eq (hO _ _) (.inl (Nat.ne_of_beq_eq_false rfl))
  · intro ρ w' ho hK
    have ho : Only _ W5 w' := ho
    obtain ⟨h0, -⟩ := hK
    have h0' : ρ (.tmp 99) = _ := h0
    go_simp
    try exact rfl
  intro f w9 k9 hk9 hI9 ht9 hcp9
  have E0 : f 0 = _ := ht9 0 (Nat.le_of_ble_eq_true rfl)
  conv at E0 => rhs; whnf
  have E1 : f 1 = _ := ht9 1 (Nat.le_of_ble_eq_true rfl)
  conv at E1 => rhs; whnf
  have E2 : f 2 = _ := ht9 2 (Nat.le_of_ble_eq_true rfl)
  have E3 : f 3 = _ := ht9 3 (Nat.le_of_ble_eq_true rfl)
  have E4 : f 4 = _ := ht9 4 (Nat.le_of_ble_eq_true rfl)
  have E5 : f 5 = _ := ht9 5 (Nat.le_of_ble_eq_true rfl)
  conv at E5 => rhs; whnf
  have E6 : f 6 = _ := ht9 6 (Nat.le_of_ble_eq_true rfl)
  have E7 : f 7 = _ := ht9 7 (Nat.le_of_ble_eq_true rfl)
  have E8 : f 8 = _ := ht9 8 (Nat.le_of_ble_eq_true rfl)
  have E9 : f 9 = _ := ht9 9 (Nat.le_of_ble_eq_true rfl)
  conv at E9 => rhs; whnf
  have E10 : f 10 = _ := ht9 10 (Nat.le_of_ble_eq_true rfl)
  have E11 : f 11 = _ := ht9 11 (Nat.le_of_ble_eq_true rfl)
  have E12 : f 12 = _ := ht9 12 (Nat.le_of_ble_eq_true rfl)
  have E13 : f 13 = _ := ht9 13 (Nat.le_of_ble_eq_true rfl)
  conv at E13 => rhs; whnf
  have E14 : f 14 = _ := ht9 14 (Nat.le_of_ble_eq_true rfl)
  have E15 : f 15 = _ := ht9 15 (Nat.le_of_ble_eq_true rfl)
  have E16 : f 16 = _ := ht9 16 (Nat.le_of_ble_eq_true rfl)
  have E17 : f 17 = _ := ht9 17 (Nat.le_of_ble_eq_true rfl)
  conv at E17 => rhs; whnf
  have E18 : f 18 = _ := ht9 18 (Nat.le_of_ble_eq_true rfl)
  have E19 : f 19 = _ := ht9 19 (Nat.le_of_ble_eq_true rfl)
  have E20 : f 20 = _ := ht9 20 (Nat.le_of_ble_eq_true rfl)
  have E21 : f 21 = _ := ht9 21 (Nat.le_of_ble_eq_true rfl)
  have E22 : f 22 = _ := ht9 22 (Nat.le_of_ble_eq_true rfl)
  have E23 : (TNew _ 1 1 [.int .i64 (1 + U)]) w9 (f 23) := ht9 23 (Nat.le_of_ble_eq_true rfl)
  have E24 : (TAny) w9 (f 24) := ht9 24 (Nat.le_of_ble_eq_true rfl)
  have E25 : f 25 = _ := ht9 25 (Nat.le_of_ble_eq_true rfl)
  have E26 : f 26 = _ := ht9 26 (Nat.le_of_ble_eq_true rfl)
  have Ho9 : Only _ W5 w9 := hI9.2.1
  have hown9 : w9.ownsRow (B) 3 1 (f 24) (n + 1) (cs2 ++ [.int .i64 (1 + U)]) := hI9.2.2.1
  have hat9 : ∀ g, (f 24).ownBlock = some g → (Value.slice (some ⟨gl, 0, none⟩) n cl).ownBlock = some g ∨ W5.heap.size ≤ g := hI9.2.2.2
  simp only [putAll, E0, E1, E2, E3, E4, E5, E6, E7, E8, E9, E10, E11, E12, E13, E14, E15, E16, E17, E18, E19, E20, E21, E22, E25, E26, Nat.zero_add, Nat.reduceAdd, Act.put, List.setIfInBounds_toArray, List.set_cons_succ, List.set_cons_zero, List.take, List.getElem_toArray, List.getElem_cons_succ, List.getElem_cons_zero]
  clear E0 E1 E2 E3 E4 E5 E6 E7 E8 E9 E10 E11 E12 E13 E14 E15 E16 E17 E18 E19 E20 E21 E22 E25 E26
  clear hI9 ht9 hcp9 hk9
  generalize f 23 = r23 at *
  generalize f 24 = r24 at *
  obtain ⟨W6, hW6⟩ : ∃ W, W = w9 := ⟨_, rfl⟩
  subst hW6
  have O10 : Only (fun g => (Value.slice (some ⟨gl, 0, none⟩) n cl).ownBlock = some g) W5 W6 := Ho9
  obtain ⟨A8, c8, hv8⟩ := slice_of_own hown9
  subst hv8
  have hx11 := (O10.block b hz7 hbl).trans hx10
  have q2 := blk_cell hx11 2
  have f2 := blk_free hx11 2
  have Hat10 := Lib.hid hat9
  have Hown10 := Lib.hid hown9
  have HO10 := Lib.hid O10
  clear Ho9 hown9 hat9 O10 E23 E24 hO hcu1 hcu2 hU
  go_wp2_with fail
  go_ret
  refine ⟨ret_int (by omega), fun g => E g ∨ (Value.slice A7 (G.length + 1) c7).ownBlock = some g ∨ (Value.slice A8 (n + 1) c8).ownBlock = some g, ?_, ?_, fun g hg => .inl hg, ?_⟩
  · exact ⟨m, .slice A7 (G.length + 1) c7, .slice A8 (n + 1) c8, L ++ [1 + U], bld_close HN.out H3.out (by omega) O4.out HM9.out HO9.out Hown9.out Hat9.out hW5 HO10.out Hown10.out Hat10.out hx11 Hk.out hV2 Hn.out.symm HLl.out hUb hcs Hcs2.out rfl⟩
  · have e4 := O4.out.size
    have e5 := HO10.out.size
    have eN : N ≤ W3.heap.size := by omega
    rintro g (hg | hg | hg)
    · exact .inl hg
    · rcases Hat9.out g hg with h | h
      · exact .inl (H3.out.eg g h)
      · right; omega
    · rcases Hat10.out g hg with h | h
      · exact .inl (H3.out.el g h)
      · right; omega
  · have b0 : Below N w W3 := HB.out.trans (B3.out.mono (by omega))
    have o1 : Only E w W3 := Only.grown (r := none) ⟨b0.os, b0.tape, b0.output, b0.size, fun k hk _ => b0.block k (by omega)⟩ (fun k hk => by cases hk)
    have o2 : Only E W3 w4 := O4.out.mono fun g hg => hg ▸ H3.out.em
    have o3 : Only E w4 W4 := HO9.out.mono fun g hg => H3.out.eg g hg
    have o4 : Only E W4 W5 := hW5 ▸ Only.grown (set_grown W4 b 1 _) (fun k hk => (Option.some.inj hk) ▸ H3.out.eb)
    have o5 : Only E W5 W6 := HO10.out.mono fun g hg => H3.out.el g (by rw [Hn.out] at hg; exact hg)
    exact ((((o1.trans o2).trans o3).trans o4).trans o5).trans (Only.grown (set_grown W6 b 2 _) (fun k hk => (Option.some.inj hk) ▸ H3.out.eb))
end Go.Proofs.Ytdgminjbgjbamaa