import Derived.Test.YtkkkjbinfdohpaaS03
import Derived.Test.YtkkkjbinfdohpaaS01
import Derived.Tactics
import Derived.Test.YtkkkjbinfdohpaaS02
import Derived.Test.YtkkkjbinfdohpaaProg
import Derived.Lib.SmallJoins
import Derived.ProofKit
import Derived.Deep.Slices
import Derived.Deep.Fields
import Derived.ChangeSame
set_option linter.unusedVariables false
set_option linter.unusedSimpArgs false
set_option maxRecDepth 100000
set_option maxHeartbeats 16000000
namespace Go.Proofs.Ytkkkjbinfdohpaa
open Go.RowKit
section
variable {S : RS} {Fin : List Ty → Prop} {o : Oper} {l : List Oper} {i : Nat} {τs : List Ty}
theorem rs_eq (hO : S.Ok) (hid : i ≠ S.d ∨ ∀ ov w, S.J ov w) {c : Value}
  (h : ∀ ρ w, Only S.E S.w0 w → Known S.ops (tys τs) S.a0 ρ w i o.op.operands.toList → (execOp ρ o).run S.P w = .ok (.value c) w)
  (rest : RSeq S Fin l (i + 1) (TEq c :: τs)) : RSeq S Fin (o :: l) i τs :=
 rs_look hO hid (TEq c) (stb_eq _ _) (fun ρ w ho hK => ⟨c, h ρ w ho hK, rfl⟩) rest
end
end Go.Proofs.Ytkkkjbinfdohpaa
namespace Go.Proofs.Ytkkkjbinfdohpaa
open Go.RowKit
def JStep (R0 R1 : World → Prop) : Option Value → World → Prop
  | none, w => R0 w
  | some _, w => R1 w
@[reducible] def stepRS (Pg : Program) (ops : Array Oper) (w : World) (a : Act) (E : Nat → Prop) (R0 R1 : World → Prop) (d : Nat) : RS :=
  { P := Pg, ops := ops, E := E, F := fun _ => False, rd := none, w0 := w, J := JStep R0 R1, d := d, a0 := a }
theorem stepRS_ok {Pg : Program} {ops : Array Oper} {w : World} {a : Act} {E : Nat → Prop} {R0 R1 : World → Prop} {d : Nat} (hE : ∀ g, E g → g < w.heap.size) (h0 : ∀ w1 w2, R0 w1 → Below w1.heap.size w1 w2 → R0 w2) (h1 : ∀ w1 w2, R1 w1 → Below w1.heap.size w1 w2 → R1 w2) : (stepRS Pg ops w a E R0 R1 d).Ok :=
 ⟨fun _ h => h.elim, fun ov w1 w2 hj ho => by
  cases ov with
  | none => exact h0 _ _ hj (only_below ho)
  | some v => exact h1 _ _ hj (only_below ho),
  fun _ _ e => (by cases e), hE⟩
def TOwn (B : Nat) (e : TypeId) (size n : Nat) (cs : List Value) : Ty := fun w v => w.ownsRow B e size v n cs
theorem stb_own {E : Nat → Prop} {B : Nat} (hE : ∀ g, E g → g < B) (e : TypeId) (size n : Nat) (cs : List Value) : Stb E (TOwn B e size n cs) := fun v w w' h ho =>
 own_only h ho fun g hg he => by have h1 := (h.lt g hg).1; have h2 := hE g he; omega
def TOwn2 (B : Nat) (e : TypeId) (n : Nat) (cs : List Value) (e' : TypeId) (n' : Nat) (cs' : List Value) : Ty := fun w v => ∃ a b, v = .agg #[a, b] ∧ w.ownsRow B e 1 a n cs ∧ w.ownsRow B e' 1 b n' cs'
theorem stb_own2 {E : Nat → Prop} {B : Nat} (hE : ∀ g, E g → g < B) (e : TypeId) (n : Nat) (cs : List Value) (e' : TypeId) (n' : Nat) (cs' : List Value) : Stb E (TOwn2 B e n cs e' n' cs') := by
 rintro v w w' ⟨a, b, rfl, h1, h2⟩ ho
 exact ⟨a, b, rfl, stb_own hE _ _ _ _ _ _ _ h1 ho, stb_own hE _ _ _ _ _ _ _ h2 ho⟩
section
variable {S : RS} {Fin : List Ty → Prop} {o : Oper} {l : List Oper} {i : Nat} {τs : List Ty}
theorem rs_do (hd : i = S.d) {R0 R1 : World → Prop} (hJ : S.J = JStep R0 R1) (hrd : S.rd = none)
  (h : ∀ ρ w, Only S.E S.w0 w → R0 w → Known S.ops (tys τs) S.a0 ρ w i o.op.operands.toList → ∃ w', (execOp ρ o).run S.P w = .ok .skip w' ∧ R1 w' ∧ Only S.E w w')
  (rest : RSeq S Fin l (i + 1) (TAny :: τs)) : RSeq S Fin (o :: l) i τs := by
 intro _
 refine ⟨TAny, stb_any _, fun k ov ρ w hk hI hov hK => ?_, rest⟩
 obtain rfl := hov (by rw [hd]; exact ancB_self _ _ _)
 have h0 : R0 w := by have := hI.2.2; rw [hJ] at this; exact this
 obtain ⟨w', hrun, h1, hon⟩ := h ρ w hI.2.1 h0 hK
 unfold Good
 rw [hrun]
 refine ⟨trivial, ⟨?_, hI.2.1.trans hon, ?_⟩, hon⟩
 ·rw [hrd]; trivial
 ·rw [if_pos hd, hJ]
  exact h1
end
end Go.Proofs.Ytkkkjbinfdohpaa
namespace Go.Proofs.Ytkkkjbinfdohpaa
open Go.RowKit
def JApp2 (T B : Nat) (e : TypeId) (size : Nat) (v : Value) (n : Nat) (cs news : List Value) : Option Value → World → Prop
  | none, w => w.ownsRow B e size v n cs
  | some v', w => w.ownsRow B e size v' (n + 1) (cs ++ news) ∧ ∀ g, v'.ownBlock = some g → v.ownBlock = some g ∨ T ≤ g
@[reducible] def appRS2 (Pg : Program) (ops : Array Oper) (w : World) (a : Act) (B : Nat) (e : TypeId) (size : Nat) (v : Value) (n : Nat) (cs news : List Value) (d : Nat) : RS :=
  { P := Pg, ops := ops, E := fun g => v.ownBlock = some g, F := fun _ => False, rd := none, w0 := w, J := JApp2 w.heap.size B e size v n cs news, d := d, a0 := a }
theorem appRS2_ok {Pg : Program} {ops : Array Oper} {w : World} {a : Act} {B : Nat} {e : TypeId} {size : Nat} {v : Value} {n : Nat} {cs news : List Value} {d : Nat} (hown : w.ownsRow B e size v n cs) : (appRS2 Pg ops w a B e size v n cs news d).Ok :=
 ⟨fun _ h => h.elim, fun ov w1 w2 hj ho => by
  cases ov with
  | none => exact own_below hj (only_below ho)
  | some v' => exact ⟨own_below hj.1 (only_below ho), hj.2⟩,
  fun _ _ e => (by cases e), fun g hg => (hown.lt g hg).2⟩
section
variable {S : RS} {Fin : List Ty → Prop} {o : Oper} {l : List Oper} {i : Nat} {τs : List Ty}
theorem rs_append2 (hd : i = S.d) (B : Nat) (e t : TypeId) (size : Nat) (v : Value) (n : Nat) (cs news : List Value) (hJ : S.J = JApp2 S.w0.heap.size B e size v n cs news) (hrd : S.rd = none) (hE : ∀ g, v.ownBlock = some g → S.E g) (hB : B ≤ S.w0.heap.size)
  (x y : Nat) (ho : o.op = .call { callee := .builtin .append, args := #[.tmp x, .tmp y], argTypes := #[t, t] }) (jx jy : Nat) (hx : writer S.ops i x = some jx) (hy : writer S.ops i y = some jy) (hTx : tys τs jx = TEq v) (hTy : tys τs jy = TNew S.E size 1 news)
  (inf : TypeInfo) (z : Value) (bytes : Nat) (ht : S.P.underlying t = some (.slice e)) (hi : S.P.info? e = some inf) (hz : inf.zero = some z) (hsize : inf.size = size) (hby : inf.bytes = bytes) (hzs : z.cells.size = size) (hsz : 0 < size) (h63 : n ≤ 1000000) (hbb : bytes ≤ 1000) (hone : ∀ u ∈ news, u.oneCell' = true)
  (rest : RSeq S Fin l (i + 1) (TAny :: τs)) : RSeq S Fin (o :: l) i τs := by
 intro _
 refine ⟨TAny, stb_any _, fun k ov ρ w hk hI hov hK => ?_, rest⟩
 obtain rfl := hov (by rw [hd]; exact ancB_self _ _ _)
 rw [ho] at hK
 have h1 := hK.1
 have h2 := hK.2.1
 rw [hx] at h1
 rw [hy] at h2
 simp only [hTx] at h1
 simp only [hTy] at h2
 have h1' : ρ (.tmp x) = v := h1
 have h2' : Row w size (ρ (.tmp y)) 1 news := h2.1
 have hown : w.ownsRow B e size v n cs := by have := hI.2.2; rw [hJ] at this; exact this
 obtain ⟨v', w', hrun, hown', hgr, hat⟩ := run_append_row_at (P := S.P) w B t o.type e inf z size bytes ht hi hz hsize hby hzs hsz v n cs hown _ 1 news h2' hone (by unfold maxLen; omega) (Nat.le_trans (Nat.mul_le_mul (show n + 1 ≤ 1000001 by omega) hbb) (by decide)) (Nat.le_trans hB hI.2.1.size)
 have hre : (execOp ρ o).run S.P w = .ok (.value v') w' := by
  unfold execOp
  simp only [ho, resolve, invoke, builtin, Sem.run_bind, Sem.run_pure, Result.andThen_ok, List.map_toArray, List.map_cons, List.map_nil, h1', hrun]
 unfold Good
 rw [hre]
 have hon : Only S.E w w' := Only.grown hgr hE
 refine ⟨trivial, ⟨?_, hI.2.1.trans hon, ?_⟩, hon⟩
 ·rw [hrd]; trivial
 ·rw [if_pos hd, hJ]
  refine ⟨hown', fun g hg => ?_⟩
  rcases hat with h | h
  ·exact .inl (h.symm.trans hg)
  ·have := Option.some.inj (h.symm.trans hg)
   have h5 := hI.2.1.size
   exact .inr (by omega)
end
theorem apart_loc {T : Nat} {v v' u : Value} (h : Apart v u) (hl : ∀ g, v'.ownBlock = some g → v.ownBlock = some g ∨ T ≤ g) (hu : ∀ g, u.ownBlock = some g → g < T) : Apart v' u := fun g h1 h2 => by
 rcases hl g h1 with h3 | h3
 ·exact h g h3 h2
 ·have := hu g h2; omega
end Go.Proofs.Ytkkkjbinfdohpaa
namespace Go.Proofs.Ytkkkjbinfdohpaa
open Go.RowKit
section
variable {P : Program} {ops : Array Oper}
theorem putSome_is (hB : rgB ops = true) {a0 : Act} {f : Nat → Value} : ∀ (l : List Oper) (k : Nat) (a : Act), (ops.toList.drop k).take l.length = l → Is ops a0 (fun j => decide (j < k)) f a → Is ops a0 (fun j => decide (j < k + l.length)) f (putAll l f k a)
 | [], k, a, _, h => h
 | o :: l, k, a, hl, h => by
  have hk : k < ops.toList.length := by
   rcases Nat.lt_or_ge k ops.toList.length with h' | h'
   ·exact h'
   ·rw [List.drop_eq_nil_of_le h'] at hl; simp at hl
  rw [List.drop_eq_getElem_cons hk, List.length_cons, List.take_succ_cons] at hl
  injection hl with h1 h2
  have ho : ops[k]? = some o := by
   rw [← h1, ← Array.getElem?_toList, List.getElem?_eq_getElem hk]
  have hs := h.step hB ho (by simp) (f k)
  have e1 : (fun j => if j = k then true else decide (j < k)) = fun j => decide (j < k + 1) := by
   funext j
   by_cases e : j = k
   ·subst e; simp
   ·simp [e]; omega
  have e2 : (fun j => if j = k then f k else f j) = f := by
   funext j
   by_cases e : j = k <;> simp [e]
  rw [e1, e2] at hs
  have := putSome_is hB l (k + 1) _ h2 hs
  rw [List.length_cons, show k + (l.length + 1) = k + 1 + l.length from by omega]
  exact this
theorem ready_nil {listed : Array Bool} (hsz : listed.size = ops.size) (hall : ∀ i, i < ops.size → listed.getD i false = true) : Region.ready .any ops listed = [] := by
 refine List.eq_nil_iff_forall_not_mem.2 fun i hi => ?_
 obtain ⟨h1, o, ho, _⟩ := mem_ready.1 hi
 have hlt := (Array.getElem?_eq_some_iff.1 ho).1
 have h2 := hall i hlt
 have hil : i < listed.size := by omega
 have h3 : listed.getD i false = false := by simpa [Array.getD, hil] using h1
 rw [h2] at h3
 cases h3
theorem wpAny_done {Q : Exit → Act → World → Prop} {listed : Array Bool} {a : Act} {w : World} (h : Region.ready .any ops listed = []) (hq : Q .normal a w) : ∀ fuel, wpAny P .any ops Q fuel listed a w
 | 0 => ⟨h, hq⟩
 | fuel + 1 => ⟨fun _ => hq, fun i hi => by rw [h] at hi; cases hi⟩
theorem rg_last {Q : Exit → Act → World → Prop} {τ : Nat → World → Value → Prop} {d m : Nat} {I : Nat → Option Value → World → Prop} {G : World → World → Prop} {a0 : Act} {om : Oper} (hB : rgB ops = true) (hS : (ops.all fun o => match o.dst with | some t => decide (t < a0.tmps.size) | none => true) = true)
  (hm : ops.size = m + 1) (hom : ops[m]? = some om) (hlast : ∀ j, j < m → ancB ops 16 j m = true)
  (hG : ∀ i v w w', τ i w v → G w w' → τ i w' v)
  (hstep : ∀ i o, i < m → ops[i]? = some o → ∀ k ov ρ w, k < ops.size → I k ov w → (ancB ops 8 i d = true → ov = none) → Known ops τ a0 ρ w i o.op.operands.toList → Good P o ρ w fun v w' => τ i w' v ∧ I (k + 1) (if i = d then some v else ov) w' ∧ G w w')
  (hd : d < m) (hend : ∀ f w' k, k ≤ ops.size → I k (some (f d)) w' → (∀ i, i < m → τ i w' (f i)) → Copies ops (fun j => decide (j < m)) f → om.wp P (putAll (ops.toList.take m) f 0 a0) w' (fun a w => Q .normal a w) Q ∨ (om.asks P (putAll (ops.toList.take m) f 0 a0) w' ∧ LetsOut Q)) :
  ∀ (fuel : Nat) (listed : Array Bool) (a : Act) (w : World) (k : Nat), k + fuel = ops.size → listed.size = ops.size → open_ ops listed ≤ fuel → listed.getD m false = false → Inv ops τ d (I k) a0 (fun i => listed.getD i false) a w → wpAny P .any ops Q fuel listed a w := by
 have ready_m : ∀ (listed : Array Bool) (L : Shut ops (fun i => listed.getD i false)), listed.size = ops.size → (∀ i, i < m → listed.getD i false = true) → listed.getD m false = false → m ∈ Region.ready .any ops listed := by
  intro listed L hsz hall hmf
  have hil : m < listed.size := by omega
  refine mem_ready.2 ⟨by simpa [Array.getD, hil] using hmf, om, hom, fun e he hbn => hall e.on ((rgB_ok hB hom).back e he hbn)⟩
 intro fuel
 induction fuel with
 | zero =>
  intro listed a w k hk hsz hc hmf h
  exfalso
  have hpos : 0 < open_ ops listed := List.countP_pos_iff.2 ⟨m, List.mem_range.2 (by omega), by simp [hmf]⟩
  omega
 | succ fuel ih =>
  intro listed a w k hk0 hsz hc hmf h
  have hnil : Region.ready .any ops listed = [] → False := by
   intro hr
   have hall : ∀ i, i < m → listed.getD i false = true := by
    intro i
    induction i using Nat.strongRecOn with
    | _ i ihi =>
     intro hi
     rcases hb : listed.getD i false with _ | _
     ·exfalso
      have hi' : i < ops.size := by omega
      have hmm : i ∈ Region.ready .any ops listed := mem_ready.2 ⟨by
       have : i < listed.size := by omega
       simpa [Array.getD, this] using hb, ops[i], Array.getElem?_eq_getElem hi', fun e he hbn => ihi e.on ((rgB_ok hB (Array.getElem?_eq_getElem hi')).back e he hbn) (by
        have := (rgB_ok hB (Array.getElem?_eq_getElem hi')).back e he hbn
        omega)⟩
      rw [hr] at hmm
      cases hmm
     ·rfl
   have := ready_m listed h.shut hsz hall hmf
   rw [hr] at this
   cases this
  refine ⟨fun hr => (hnil hr).elim, fun i hi => ?_⟩
  obtain ⟨h1, o, ho, hr⟩ := mem_ready.1 hi
  have hlt := (Array.getElem?_eq_some_iff.1 ho).1
  have hil : i < listed.size := by omega
  have h1' : listed.getD i false = false := by simpa [Array.getD, hil] using h1
  have eL : (fun j => (listed.setIfInBounds i true).getD j false) = fun j => if j = i then true else listed.getD j false := by
   funext j
   by_cases e : j = i
   ·subst e; simp [hil]
   ·simp only [e, if_false]
    exact getD_set_ne false (fun h => e h.symm)
  unfold wpOp
  simp only [ho]
  rw [if_pos (by simp [Region.wanted, (rgB_ok hB ho).guard])]
  by_cases him : i = m
  ·subst him
   obtain rfl := Option.some.inj (ho.symm.trans hom)
   obtain ⟨hC, f, hf, hI, hτ, hcp⟩ := h
   have hall : ∀ j, j < i → listed.getD j false = true := by
    intro j hj
    have hj2 := hlast j hj
    rw [show (16 : Nat) = 15 + 1 from rfl, ancB, Bool.or_eq_true] at hj2
    rcases hj2 with hj2 | hj2
    ·exact absurd (by simpa using hj2) (Nat.ne_of_lt hj)
    ·simp only [ho, Option.map_some, Option.getD_some, Array.any_eq_true] at hj2
     obtain ⟨q, hq, hj2⟩ := hj2
     rw [Bool.and_eq_true] at hj2
     exact ancB_shut hC 15 j _ hj2.2 (hr _ (Array.getElem_mem hq) hj2.1)
   have hI : I k (some (f d)) w := by simpa [hall d hd] using hI
   have eLt : ∀ j, j < ops.size → (listed.getD j false = true ↔ j < i) := by
    intro j hj
    constructor
    ·intro hl
     rcases Nat.lt_or_ge j i with h5 | h5
     ·exact h5
     ·have : j = i := by omega
      subst this
      rw [h1'] at hl; cases hl
    ·exact hall j
   have e1 : Is ops a0 (fun j => decide (j < i)) f a := ⟨hf.defers, hf.size, fun j p t hj hp hd2 hl => hf.mine j p t (hall j (by simpa using hj)) hp hd2 hl,
    fun t ht => hf.old t fun j p hj hp => ht j p (by
     have hjs := (Array.getElem?_eq_some_iff.1 hp).1
     simpa using (eLt j hjs).1 hj) hp⟩
   have e0 : Is ops a0 (fun j => decide (j < 0)) f a0 := ⟨rfl, rfl, fun _ _ _ h => by simp at h, fun _ _ => rfl⟩
   have hlen : (ops.toList.take i).length = i := by simp; omega
   have e2 := putSome_is hB (ops.toList.take i) 0 a0 (by rw [hlen]; rfl) e0
   rw [hlen, Nat.zero_add] at e2
   rw [e1.same e2]
   refine (hend f w k (by omega) hI (fun j hj => (hτ j (hall j hj)).2) fun j p t q hj hp ha hw => ?_).imp (Oper.wp_mono fun a' w' hq => ?_) id
   rotate_left
   ·refine wpAny_done (ready_nil (by simpa using hsz) fun j hj => ?_) hq fuel
    have : (listed.setIfInBounds i true).getD j false = if j = i then true else listed.getD j false := congrFun eL j
    rw [this]
    by_cases e : j = i
    ·simp [e]
    ·simp only [e, if_false]
     exact hall j (by omega)
   ·have hj' : j < i := by simpa using hj
    obtain ⟨h5, h6⟩ := hcp j p t q (hall j hj') hp ha hw
    exact ⟨by simpa using (eLt q (hτ q h5).1).1 h5, h6⟩
  have hltm : i < m := by omega
  have hk := h.known hB hS ho h1' hr
  have hcopy : ∀ (f : Nat → Value), Is ops a0 (fun i => listed.getD i false) f a → ∀ t j, o.op = .assign (.tmp t) → writer ops i t = some j → listed.getD j false = true ∧ a.eval (.tmp t) = f j := fun f hf t j ha hw => h.copy hB hS ho h1' hr hf ha hw
  obtain ⟨hC, f, hf, hI, hτ, hcp⟩ := h
  have hg := hstep i o hltm ho k _ a.eval w (by omega) hI (fun e => if_neg (fun hdl => by have := ancB_shut hC 8 i d e hdl; rw [h1'] at this; cases this)) hk
  refine .inl (Good.wp hg.assign fun v w' ⟨⟨hv, hI', hgw⟩, hva⟩ => ?_)
  refine ih _ _ _ (k + 1) (by omega) (by simpa using hsz) ?_ ?_ ?_
  ·have : open_ ops (listed.setIfInBounds i true) < open_ ops listed := by
    refine countP_lt (fun x _ hx => ?_) ⟨i, List.mem_range.2 hlt, by simpa using h1', ?_⟩
    ·have : (listed.setIfInBounds i true).getD x false = if x = i then true else listed.getD x false := congrFun eL x
     rw [this] at hx
     by_cases e : x = i
     ·simp [e] at hx
     ·simpa [e] using hx
    ·have : (listed.setIfInBounds i true).getD i false = if i = i then true else listed.getD i false := congrFun eL i
     rw [this]
     simp
   omega
  ·have : (listed.setIfInBounds i true).getD m false = if m = i then true else listed.getD m false := congrFun eL m
   rw [this, if_neg (fun e => him e.symm)]
   exact hmf
  ·rw [eL]
   refine ⟨fun j p hj hp e he hb => ?_, _, hf.step hB ho h1' v, ?_, fun j hj => ?_, fun j p t q hj hp ha hw => ?_⟩
   ·by_cases ej : j = i
    ·subst ej
     obtain rfl := Option.some.inj (ho.symm.trans hp)
     have := hr e he hb
     by_cases ee : e.on = j <;> simp [ee, this]
    ·simp only [ej, if_false] at hj
     have := hC j p hj hp e he hb
     by_cases ee : e.on = i <;> simp [ee, this]
   ·by_cases ed : i = d
    ·subst ed
     simpa using hI'
    ·simpa [ed, show ¬ d = i from fun h => ed h.symm] using hI'
   ·by_cases ej : j = i
    ·subst ej
     exact ⟨hlt, by simpa using hv⟩
    ·simp only [ej, if_false] at hj ⊢
     exact ⟨(hτ j hj).1, hG j _ _ _ (hτ j hj).2 hgw⟩
   ·have hqj : q < j := List.mem_range.1 (List.mem_of_find?_eq_some hw)
    by_cases ej : j = i
    ·subst ej
     obtain rfl := Option.some.inj (ho.symm.trans hp)
     obtain ⟨h5, h6⟩ := hcopy f hf t q ha hw
     have hne : q ≠ j := by omega
     exact ⟨by simp only [hne, if_false]; exact h5, by simp only [hne, if_false, if_true]; rw [hva _ ha, h6]⟩
    ·simp only [ej, if_false] at hj ⊢
     obtain ⟨h5, h6⟩ := hcp j p t q hj hp ha hw
     have h5' : listed.getD q false = true := h5
     have hne : q ≠ i := fun e => by rw [e, h1'] at h5'; cases h5'
     simp only [hne, if_false]
     exact ⟨h5, h6⟩
end
theorem rseq_types_l {S : RS} {Fin : List Ty → Prop} : ∀ (l : List Oper) (τs : List Ty), (S.ops.toList.drop τs.length).take l.length = l → (∀ T ∈ τs, Stb S.E T) → RSeq S Fin l τs.length τs →
  ∃ τ : List Ty, (∀ j, j < τs.length → tys τ j = tys τs j) ∧ (∀ T ∈ τ, Stb S.E T) ∧ Fin τ ∧ ∀ i o, τs.length ≤ i → i < τs.length + l.length → S.ops[i]? = some o → ∀ k ov ρ w, k < S.ops.size → S.I k ov w → (ancB S.ops 8 i S.d = true → ov = none) → Known S.ops (tys τ) S.a0 ρ w i o.op.operands.toList → Good S.P o ρ w fun v w' => tys τ i w' v ∧ S.I (k + 1) (if i = S.d then some v else ov) w' ∧ Only S.E w w'
 | [], τs, _, hst, h => ⟨τs, fun _ _ => rfl, hst, h, fun i o hi hi2 ho => by simp at hi2; omega⟩
 | o :: l, τs, hl, hst, h => by
  obtain ⟨T, hT, hg, hr⟩ := h hst
  have hst' : ∀ T' ∈ T :: τs, Stb S.E T' := by
   intro T' hT'
   rcases List.mem_cons.1 hT' with h1 | h1
   ·rw [h1]; exact hT
   ·exact hst T' h1
  have hk : τs.length < S.ops.toList.length := by
   rcases Nat.lt_or_ge τs.length S.ops.toList.length with h' | h'
   ·exact h'
   ·rw [List.drop_eq_nil_of_le h'] at hl; simp at hl
  rw [List.drop_eq_getElem_cons hk, List.length_cons, List.take_succ_cons] at hl
  injection hl with hl1 hl2
  obtain ⟨τ, h2, h3, h4, h5⟩ := rseq_types_l l (T :: τs) (by rw [List.length_cons]; exact hl2) hst' (by rw [List.length_cons]; exact hr)
  rw [List.length_cons] at h2 h5
  have hget : ∀ j, j < τs.length → tys τ j = tys τs j := fun j hj => (h2 j (by omega)).trans (tys_old T τs hj)
  have hgetT : tys τ τs.length = T := (h2 _ (by omega)).trans (tys_new T τs)
  refine ⟨τ, hget, h3, h4, fun i o' hi hi2 ho => ?_⟩
  rw [List.length_cons] at hi2
  rcases Nat.lt_or_ge τs.length i with hlt | hge
  ·exact h5 i o' hlt (by omega) ho
  ·obtain rfl : i = τs.length := by omega
   have : o' = o := by
    have e : S.ops[τs.length]? = some o := by
     rw [← hl1, ← Array.getElem?_toList, List.getElem?_eq_getElem hk]
    exact Option.some.inj (ho.symm.trans e)
   subst this
   intro k ov ρ w hk hI hd hK
   rw [hgetT]
   exact hg k ov ρ w hk hI hd (known_mono (fun j w v hj h => by rw [← hget j hj]; exact h) _ hK)
theorem wp_region_rsl {id : Nat} {Q : Exit → Act → World → Prop} (S : RS) (hO : S.Ok) (hm : S.P.follows .mixedOrders = true) (hB : rgB S.ops = true) (hS : (S.ops.all fun o => match o.dst with | some t => decide (t < S.a0.tmps.size) | none => true) = true)
  (m : Nat) (om : Oper) (hsz : S.ops.size = m + 1) (hom : S.ops[m]? = some om) (hlast : (List.range m).all (fun j => ancB S.ops 16 j m) = true) (hd : S.d < m)
  (hr : RdO S.rd 0 S.w0) (hJ : S.J none S.w0)
  (h : RSeq S (fun τ => ∀ f w' k, k ≤ S.ops.size → S.I k (some (f S.d)) w' → (∀ i, i < m → tys τ i w' (f i)) → Copies S.ops (fun j => decide (j < m)) f → wpList S.P S.ops Q [om] (putAll (S.ops.toList.take m) f 0 S.a0) w') (S.ops.toList.take m) 0 []) : (Code.region id S.ops true).wp S.P Q S.a0 S.w0 := by
 have hlen : (S.ops.toList.take m).length = m := by simp; omega
 obtain ⟨τ, _, h3, h4, h5⟩ := rseq_types_l (S.ops.toList.take m) [] (by rw [hlen]; rfl) (by simp) h
 have hg : om.guard = none := (rgB_ok hB hom).guard
 refine wp_region_any hm (rg_last (τ := tys τ) (d := S.d) (m := m) (I := S.I) (G := Only S.E) (a0 := S.a0) (om := om) hB hS hsz hom (fun j hj => List.all_eq_true.1 hlast j (List.mem_range.2 hj)) (fun i v w w' ht hg => tys_stb h3 i v w w' ht hg) (fun i o hi ho => h5 i o (Nat.zero_le _) (by rw [hlen]; simpa using hi) ho) hd (fun f w' k hk hI ht hc => ?_) S.ops.size (Array.replicate S.ops.size false) S.a0 _ 0 (by omega) (by simp) ?_ ?_ ?_)
 ·have := h4 f w' k hk hI ht hc
  unfold wpList at this
  rw [if_pos (by simp [Region.wanted, hg])] at this
  exact this
 ·unfold open_
  exact Nat.le_trans List.countP_le_length (by simp)
 ·by_cases h : m < S.ops.size <;> simp [Array.getD, h]
 ·have e : (fun i => (Array.replicate S.ops.size false).getD i false) = fun _ => false := by
   funext i
   by_cases h : i < S.ops.size <;> simp [Array.getD, h]
  rw [e]
  refine ⟨(fun j o hj => (by cases hj)), ⟨fun _ => undef, Is.start S.a0 _, ⟨?_, Only.drew _ _, hO.keep _ _ _ hJ (Only.drew _ _)⟩, (fun i hi => (by cases hi)), (fun i o t j hi => (by cases hi))⟩⟩
  cases hrd : S.rd with
  | none => trivial
  | some x =>
   rw [hrd] at hr
   exact Rd.drew1 hr
end Go.Proofs.Ytkkkjbinfdohpaa
namespace Go.Proofs.Ytkkkjbinfdohpaa
open Go.RowKit
section
variable {S : RS} {Fin : List Ty → Prop} {o : Oper} {l : List Oper} {i : Nat} {τs : List Ty}
end
end Go.Proofs.Ytkkkjbinfdohpaa
namespace Go.Proofs.Ytkkkjbinfdohpaa
open Go.RowKit Go.Maps
end Go.Proofs.Ytkkkjbinfdohpaa
namespace Go.Proofs.Ytkkkjbinfdohpaa
open Go.RowKit Go.Maps
end Go.Proofs.Ytkkkjbinfdohpaa
namespace Go.Proofs.Ytkkkjbinfdohpaa
open Go.RowKit Go.Maps
end Go.Proofs.Ytkkkjbinfdohpaa
namespace Go.Proofs.Ytkkkjbinfdohpaa
open Go.RowKit
theorem blk_ltB {w : World} {g : Nat} {o : Obj} (h : w.heap[g]? = some o) : g < w.heap.size := (Array.getElem?_eq_some_iff.1 h).1
theorem own_setB {w : World} {B n size k i : Nat} {e : TypeId} {v u : Value} {cs : List Value} (h : w.ownsRow B e size v n cs) (hk : k < B) : (w.setCell ⟨k, i, none⟩ u).ownsRow B e size v n cs :=
 own_only h (Only.grown (E := fun g => g = k) (set_grown w k i u) (fun x hx => (Option.some.inj hx).symm)) (fun g hg e => by have := (h.lt g hg).1; omega)
theorem heap_setCell_other' (w : World) (b i : Nat) (u : Value) (g : Nat) (h : g ≠ b) : (w.setCell ⟨b, i, none⟩ u).heap[g]? = w.heap[g]? := by
 by_cases hg : g < w.heap.size
 ·exact (set_grown w b i u).block g hg (fun e => h (Option.some.inj e))
 ·have hz : (w.setCell ⟨b, i, none⟩ u).heap.size = w.heap.size := by simp
  rw [Array.getElem?_eq_none (by omega), Array.getElem?_eq_none (by omega)]
def mapC (u : Nat → Nat) (c : Ci) : Ci := { ins := c.ins, next := c.next.map u, gates := c.gates.map fun g => (u g.1, u g.2), outs := c.outs.map u }
def nints' (l : List Nat) : List Value := ints (l.map Int.ofNat)
def ngates (l : List (Nat × Nat)) : List Value := cubes (l.map fun g => ((g.1 : Int), (g.2 : Int)))
theorem nints'_snoc {l : List Nat} {k x : Nat} (h : l[k]? = some x) (u : Nat → Nat) : nints' ((l.take (k + 1)).map u) = nints' ((l.take k).map u) ++ [.int .i64 (u x : Nat)] := by
 unfold nints' ints
 rw [take_snoc h]
 simp
def CircOwn (B : Nat) (w : World) (v : Value) (c : Cz) : Prop := ∃ vn vg vo, v = .agg #[.int .i64 c.ins, vn, vg, vo] ∧ w.ownsRow B 3 1 vn c.next.length (ints c.next) ∧ w.ownsRow B 64 2 vg c.gates.length (cubes c.gates) ∧ w.ownsRow B 3 1 vo c.outs.length (ints c.outs)
theorem CircOwn.at {B : Nat} {w : World} {v : Value} {c : Cz} (h : CircOwn B w v c) : CircAt w v c := by
 obtain ⟨vn, vg, vo, e, h1, h2, h3⟩ := h
 exact ⟨vn, vg, vo, e, Row.of_own h1, Row.of_own h2, Row.of_own h3⟩
theorem CircOwn.below {B : Nat} {w w' : World} {v : Value} {c : Cz} (h : CircOwn B w v c) (hb : Below w.heap.size w w') : CircOwn B w' v c := by
 obtain ⟨vn, vg, vo, e, h1, h2, h3⟩ := h
 exact ⟨vn, vg, vo, e, own_below h1 hb, own_below h2 hb, own_below h3 hb⟩
theorem own_ne_tag {w : World} {base size n g : Nat} {e t : TypeId} {v : Value} {cs : List Value} {old : Array Value} {fr : Nat × Nat} (h : w.ownsRow base e size v n cs) (hk : w.heap[g]? = some (.cells old t fr)) (hne : e ≠ t) : v.ownBlock ≠ some g := by
 rcases h.2 with h2 | ⟨g', cap, cur, rfl, hb, hh, h3⟩
 ·rw [h2.1]; intro e'; cases e'
 ·intro e'
  have e'' := Option.some.inj e'
  simp only at e''
  subst e''
  rw [hh] at hk
  have h4 := Option.some.inj hk
  injection h4 with h5 h6
  exact hne h6
end Go.Proofs.Ytkkkjbinfdohpaa
namespace Go.Proofs.Ytkkkjbinfdohpaa
open Go.RowKit Go.Joins Go.ChangeShapes Go.WideShapes Go.ChangeAt Go.Deep
section
variable {H : Type} {enc : TypeId × Value → H} {P : Program} {w : World} {base : Nat} {spare : Nat → Bool} {held : Bool}
end
def WfI (x : Int) : Prop := -9223372036854775808 ≤ x ∧ x ≤ 9223372036854775807
def GInts (w : World) (cs : List Value) : Prop := ∃ (A : Option Addr) (n c : Nat) (xs : List Int), cs = [.slice A n c] ∧ IntsAt w (.slice A n c) xs ∧ xs.length = n ∧ ∀ x ∈ xs, WfI x
def GBools (w : World) (cs : List Value) : Prop := ∃ (A : Option Addr) (n c : Nat) (xs : List Bool), cs = [.slice A n c] ∧ BoolsAt w (.slice A n c) xs ∧ xs.length = n
def GPairs (w : World) (cs : List Value) : Prop := ∃ (A : Option Addr) (n c : Nat) (xs : List (Int × Int)), cs = [.slice A n c] ∧ CubesAt w (.slice A n c) xs ∧ xs.length = n ∧ ∀ x ∈ xs, WfI x.1 ∧ WfI x.2
section
variable {H : Type} {enc : TypeId × Value → H} {w : World} {base : Nat} {spare : Nat → Bool} {held : Bool}
end
section
variable {H : Type} {enc : TypeId × Value → H} {w : World} {r : Reach} {b0 base : Nat} {spare : Nat → Bool} {held : Bool} {v : Value} {d : DataW H} {p : List MemPlace}
def AInt (_ : World) (v : Value) : Prop := ∃ x : Int, v = .int .i64 x ∧ WfI x
def AInts (w : World) (v : Value) : Prop := ∃ xs : List Int, IntsAt w v xs ∧ ∀ x ∈ xs, WfI x
def ABools (w : World) (v : Value) : Prop := ∃ xs : List Bool, BoolsAt w v xs
def APairs (w : World) (v : Value) : Prop := ∃ xs : List (Int × Int), CubesAt w v xs ∧ ∀ x ∈ xs, WfI x.1 ∧ WfI x.2
end
end Go.Proofs.Ytkkkjbinfdohpaa
namespace Go.Proofs.Ytkkkjbinfdohpaa
open Go.RowKit Go.Joins Go.ChangeShapes Go.WideShapes Go.ChangeAt Go.Deep
section
variable {H : Type} {enc : TypeId × Value → H} {w : World} {r : Reach} {b0 base : Nat} {spare : Nat → Bool} {held : Bool} {v : Value} {d : DataW H} {p : List MemPlace}
def ACirc (w : World) (v : Value) : Prop := ∃ c : Cz, CircAt w v c ∧ WfI c.ins ∧ (∀ x ∈ c.next, WfI x) ∧ (∀ x ∈ c.gates, WfI x.1 ∧ WfI x.2) ∧ (∀ x ∈ c.outs, WfI x)
end
theorem CircAt.shape {w : World} {v : Value} {c : Cz} (h : CircAt w v c) : ∃ An cn Ag cg Ao co, v = .agg #[.int .i64 c.ins, .slice An c.next.length cn, .slice Ag c.gates.length cg, .slice Ao c.outs.length co] := by
 obtain ⟨vn, vg, vo, rfl, r1, r2, r3⟩ := h
 obtain ⟨An, cn, rfl, -⟩ := Row.shape r1
 obtain ⟨Ag, cg, rfl, -⟩ := Row.shape r2
 obtain ⟨Ao, co, rfl, -⟩ := Row.shape r3
 exact ⟨An, cn, Ag, cg, Ao, co, rfl⟩
def TCirc (c : Cz) : Ty := fun w v => CircAt w v c
structure BoxC (w : World) (g : Nat) (c : Cz) (vn vg vo : Value) : Prop where
  pc : PCells w g c.ins vn vg vo
  at_ : CircAt w (.agg #[.int .i64 c.ins, vn, vg, vo]) c
end Go.Proofs.Ytkkkjbinfdohpaa
namespace Go.Proofs.Ytkkkjbinfdohpaa
open Go.RowKit Go.Maps
end Go.Proofs.Ytkkkjbinfdohpaa
namespace Go.Proofs.Ytkkkjbinfdohpaa
open Go.RowKit Go.Maps
end Go.Proofs.Ytkkkjbinfdohpaa
namespace Go.Proofs.Ytkkkjbinfdohpaa
open Go.RowKit Go.Maps
end Go.Proofs.Ytkkkjbinfdohpaa