import Derived.Test.YtopimdakpnnbhaaS07
import Derived.Test.YtopimdakpnnbhaaS05
import Derived.Test.YtopimdakpnnbhaaS08
import Derived.Test.YtopimdakpnnbhaaS04
import Derived.Test.YtopimdakpnnbhaaS01
set_option linter.unusedVariables false
set_option linter.unusedSimpArgs false
namespace Go.Proofs.Ytopimdakpnnbhaa
open Go.RowKit
set_option maxRecDepth 100000
/-! Drawn rows of input values. -/
theorem OwnSE.inn {α : Type} {enc : List α → List Value} {to ti : TypeId} {B : Nat} {E : Nat → Prop} {w : World} {v : Value} {xss : List (List α)} (h : OwnSE enc to ti B E w v xss) : SSIn enc (From B) w v xss := by
  obtain ⟨vs, h1, h2, h3, -⟩ := h
  exact ⟨vs, h1, (RowIn.of_own h2).mono fun g hg => hg.1, fun i x u hx hu => (RowIn.of_own (h3 i x u hx hu)).mono fun g hg => hg.1⟩
def DrewBools (R P n : Nat) (w : World) (e : Ending) (w' : World) : Prop := ∃ v xs, e = .returned v ∧ xs.length = n ∧ w'.ownsRow w.heap.size 4 1 v n (bools xs) ∧ Rd w' R (P + 10) ∧ w.grownBy w' (some R)
theorem bools_snoc (xs : List Bool) (b : Bool) : bools (xs ++ [b]) = bools xs ++ [.bool b] := by unfold bools; rw [List.map_append]; rfl
set_option maxHeartbeats 8000000 in
theorem l20Bools_any (R P n : Nat) (w : World) (h : Rd w R P) (hP : P ≤ 900000) (hn : n ≤ 8) :
    Calls Try.prog 123 #[.pointer (some ⟨R, 0, none⟩), .int .i64 n] w (DrewBools R P n w) := by
  have Hr := Lib.hid h
  have zR := h.lt
  have HO0 := Lib.hid (only_alloc (Only.refl (· = R) w) (.cells #[] 4))
  have HL0 := Lib.hid (World.ownsRow_lit (base := w.heap.size) (e := 4) (size := 1) w #[] 0 (Nat.le_refl _) (by unfold maxLen; omega) rfl)
  clear h
  go_enter Try.func123, Try.ntmps123
  go_wp2_with fail
  go_loopw [5, 6] (fun v i wr => ∃ (vv : Value) (k : Nat) (xs : List Bool), vv = v ∧ i = .int .i64 k ∧ k ≤ n ∧ xs.length = k ∧ Hid (wr.ownsRow w.heap.size 4 1 v k (bools xs)) ∧ Hid (Rd wr R (P + k)) ∧ Hid (Only (· = R) w wr)) (fun _ i _ => n - (intOf i).toNat)
  case atStart => exact ⟨_, 0, [], rfl, rfl, Nat.zero_le _, rfl, HL0, Lib.hid (Hr.out.alloc _), HO0⟩
  case round =>
    obtain ⟨vv, k, xs, hvv, rfl, hk, hxl, Ho, Hr2, HO⟩ := hrel
    subst hvv
    have Hxl := Lib.hid hxl
    clear HO0 HL0 Hr hxl
    by_cases hlt : k < n
    · have hdk : decide (k < n) = true := decide_eq_true hlt
      go_wp2_with fail
      refine (pick_any 2 _ _ _ Hr2.out (by omega) (by omega) (by omega)).mono ?_
      rintro e w5 ⟨x, hx0, hx1, rfl, hr5, hg5⟩
      have Hr5 := Lib.hid hr5
      have HO5 := Lib.hid (only_drawn HO.out hg5 (.inr rfl))
      have Ho5 := Lib.hid (own_kept Ho.out hg5 (fun g hg e => by have h1 := (Ho.out.lt g hg).1; have h2 := Option.some.inj e; omega))
      have hz5 : w.heap.size ≤ w5.heap.size := HO5.out.size
      obtain ⟨b, hb⟩ : ∃ b, (x == 1) = b := ⟨_, rfl⟩
      have Hlit := Lib.hid (Row.of_own (World.ownsRow_lit (base := w5.heap.size) (e := 4) (size := 1) w5 #[.bool b] 1 (Nat.le_refl _) (by unfold maxLen; omega) rfl))
      clear hr5 hg5 Ho HO Hr2
      go_wp2_with (at_builtin; refine append_bools rfl (.tmp 13) (.tmp 17) rfl w.heap.size _ k _ rfl (Ho5.out.alloc _) _ 1 [.bool b] rfl Hlit.out (by simp [Value.oneCell']) (by omega) (by simp; omega) ?_; intro v7 w7 hown7 hg7 hat7; have Ho7 := Lib.hid hown7; have Hg7 := Lib.hid hg7; clear hown7 hg7 hat7)
      go_roundw
      case rel =>
        refine ⟨_, k + 1, xs ++ [b], rfl, by go_num, by omega, by simp [Hxl.out], Lib.hid (by rw [bools_snoc]; exact Ho7.out), Lib.hid ?_, Lib.hid ?_⟩
        · exact (app_rd Hr5.out Hg7.out Ho5.out zR).more (by omega)
        · exact (only_alloc HO5.out _).aft (Only.grown Hg7.out fun g hg => hg) fun g hg => .inl (Ho5.out.lt g hg).1
      case measure => simp [intOf] <;> omega
    · obtain rfl : k = n := by omega
      have hdk : decide (k < k) = false := decide_eq_false (by omega)
      obtain ⟨A, c, e⟩ := slice_of_own Ho.out
      subst e
      go_wp2_with fail
      go_ret
      exact ⟨_, xs, rfl, Hxl.out, Ho.out, Hr2.out.more (by omega), HO.out.grownBy⟩
def DrewRows (R P n : Nat) (w : World) (e : Ending) (w' : World) : Prop := ∃ v xss, e = .returned v ∧ xss.length ≤ 11 ∧ (∀ x ∈ xss, x.length = n) ∧ SSIn bools (From w.heap.size) w' v xss ∧ Rd w' R (P + 130) ∧ w.grownBy w' (some R)
set_option maxHeartbeats 8000000 in
theorem l20Rows_any (R P n : Nat) (w : World) (h : Rd w R P) (hP : P ≤ 800000) (hn : n ≤ 8) :
    Calls Try.prog 92 #[.pointer (some ⟨R, 0, none⟩), .int .i64 n] w (DrewRows R P n w) := by
  have Hr := Lib.hid h
  have zR := h.lt
  have HO0 := Lib.hid (only_alloc (Only.refl (· = R) w) (.cells #[] 32))
  have HL0 := Lib.hid (World.ownsRow_lit (base := w.heap.size) (e := 32) (size := 1) w #[] 0 (Nat.le_refl _) (by unfold maxLen; omega) rfl)
  clear h
  go_enter Try.func92, Try.ntmps92
  go_wp2_with fail
  have Hra := Lib.hid (Hr.out.alloc (.cells #[] 32))
  have hsz : (w.alloc (.cells #[] 32)).heap.size = w.heap.size + 1 := by simp
  generalize w.alloc (.cells #[] 32) = wa at *
  refine (pick_any 12 _ _ _ Hra.out (by omega) (by omega) (by omega)).mono ?_
  rintro e w1 ⟨x, hx0, hx1, rfl, hr1, hg1⟩
  obtain ⟨q0, rfl⟩ := Int.eq_ofNat_of_zero_le hx0
  have HS0 : Hid (OwnSE bools 32 4 w.heap.size (fun g => g < w1.heap.size) w1 (.slice (some ⟨w.heap.size, 0, none⟩) 0 0) []) := Lib.hid (by
    have := own_kept HL0.out hg1 (fun g hg e => by have h1 := (HL0.out.lt g hg).1; have h2 := Option.some.inj e; omega)
    refine ⟨[], rfl, this, fun i x u h => by simp at h, List.Pairwise.nil, fun u hu => (by cases hu), fun g hg => (this.lt g hg).2, fun u hu => (by cases hu)⟩)
  have HO1 := Lib.hid (only_drawn HO0.out hg1 (.inr rfl))
  have Hr1 := Lib.hid hr1
  have hq0 : q0 ≤ 11 := by omega
  clear hr1 hg1 HO0 HL0 Hra Hr hx0 hx1 hsz
  go_wp2_with fail
  go_loopw [5, 6] (fun v i wr => ∃ (vv : Value) (q : Nat) (xss : List (List Bool)), vv = v ∧ i = .int .i64 q ∧ q + xss.length ≤ 11 ∧ Hid (∀ x ∈ xss, x.length = n) ∧ Hid (OwnSE bools 32 4 w.heap.size (fun g => g < wr.heap.size) wr v xss) ∧ Hid (Rd wr R (P + 1 + 11 * xss.length)) ∧ Hid (Only (· = R) w wr)) (fun _ i _ => (intOf i).toNat)
  case atStart => exact ⟨_, q0, [], rfl, rfl, by simpa using hq0, Lib.hid (fun x hx => by cases hx), HS0, Hr1, HO1⟩
  case round =>
    obtain ⟨vv, q, xss, hvv, rfl, hq, Hlen, Hs, Hr2, HO⟩ := hrel
    subst hvv
    clear HS0 HO1 Hr1 hq0
    have hzr : w.heap.size ≤ wr.heap.size := HO.out.size
    by_cases hlt : 0 < q
    · have hdk : decide (0 < q) = true := decide_eq_true hlt
      have hdk2 : decide ((0 : Int) < (q : Int)) = true := decide_eq_true (by omega)
      go_wp2_with fail
      refine (l20Bools_any _ _ n _ Hr2.out (by omega) hn).mono ?_
      rintro e w5 ⟨u, xs, rfl, hxl, hou, hr5, hg5⟩
      have Hr5 := Lib.hid hr5
      have HO5 := Lib.hid (only_drawn HO.out hg5 (.inr rfl))
      have z5 := hg5.size
      have HS5 := OwnSE.only (X := (· = R)) Hs.out (Only.grown hg5 fun k hk => (Option.some.inj hk).symm) (fun g hg _ e => by omega)
      obtain ⟨Au, cu, eu⟩ := slice_of_own hou
      subst eu
      have hHOl := OwnSE.below HS5 (bel_new w5 (.cells #[.slice Au n cu] 32))
      obtain ⟨us, e1, e2, e3, e4, e5, e6, e7⟩ := hHOl
      have Q2 := Lib.hid e2
      have Q := Lib.hid (And.intro e1 (And.intro e3 (And.intro e4 (And.intro e5 (And.intro e6 e7)))))
      have HUge := Lib.hid (own_ge0 hou)
      have HU := Lib.hid (show (w5.alloc (.cells #[.slice Au n cu] 32)).ownsRow w.heap.size 4 1 (.slice Au n cu) xs.length (bools xs) from by rw [hxl]; exact (own_mono hou hzr).alloc _)
      have Hlc := Lib.hid (Row.of_own (World.ownsRow_lit (base := w5.heap.size) (e := 32) (size := 1) w5 #[.slice Au n cu] 1 (Nat.le_refl _) (by unfold maxLen; omega) rfl))
      have hz5 : w.heap.size ≤ w5.heap.size := by omega
      have Hxl := Lib.hid hxl
      clear hr5 hg5 Hs HO Hr2 hou e1 e2 e3 e4 e5 e6 e7 hxl HS5
      go_wp2_with (at_builtin; refine append_rows rfl (.tmp 14) (.tmp 18) rfl w.heap.size _ xss.length us rfl Q2.out _ 1 [.slice Au n cu] rfl Hlc.out (by simp [Value.oneCell']) (by omega) (by simp; omega) ?_; intro v9 w9 hown9 hg9 hat9; have HSE := Lib.hid (se_append Q.out.1 Q.out.2.1 Q.out.2.2.1 Q.out.2.2.2.1 Q.out.2.2.2.2.1 Q.out.2.2.2.2.2 HU.out (fun g h1 h2 => by have := HUge.out g h1; omega) hown9 hg9 hat9); have Hg9 := Lib.hid hg9; have Hown9 := Lib.hid hown9; clear hown9 hg9 hat9)
      go_roundw
      case rel =>
        refine ⟨_, q - 1, xss ++ [xs], rfl, by go_num, by rw [List.length_append, List.length_singleton]; omega, Lib.hid (fun y hy => ?_), Lib.hid (HSE.out.mono (Nat.le_refl _) (fun g hg => ?_)), Lib.hid ?_, Lib.hid ?_⟩
        · rcases List.mem_append.1 hy with h | h
          · exact Hlen.out y h
          · rw [List.mem_singleton.1 h]; exact Hxl.out
        · have hz9 := Hg9.out.size
          rw [World.size_alloc] at hz9
          rcases hg with hg | hg | hg
          · omega
          · have h := (HU.out.lt g hg).2; rw [World.size_alloc] at h; omega
          · exact (Hown9.out.lt g hg).2
        · rw [List.length_append, List.length_singleton]
          exact ((Hr5.out.alloc _).grown Hg9.out fun k hk => by have := (Q2.out.lt k hk).1; omega).more (by omega)
        · exact (only_alloc HO5.out _).aft (Only.grown Hg9.out fun g hg => hg) fun g hg => .inl (Q2.out.lt g hg).1
      case measure => simp [intOf] <;> omega
    · obtain rfl : q = 0 := by omega
      obtain ⟨A, c, e, -⟩ := (OwnSE.at Hs.out).shape
      subst e
      go_wp2_with fail
      go_ret
      exact ⟨_, xss, rfl, by omega, Hlen.out, Hs.out.inn, Hr2.out.more (by omega), HO.out.grownBy⟩
end Go.Proofs.Ytopimdakpnnbhaa

namespace Go.Proofs.Ytopimdakpnnbhaa
open Go.RowKit
/-! Drawn regions, with up to 200 draws an operation. -/
namespace Hv
def RdO (rd : Option (Nat × Nat)) (k : Nat) (w : World) : Prop := match rd with | none => True | some (R, P) => Rd w R (P + 200 * k)
def RIh (S : RS) (k : Nat) (ov : Option Value) (w : World) : Prop := RdO S.rd k w ∧ Only S.E S.w0 w ∧ S.J ov w
def RSeq (S : RS) (Fin : List Ty → Prop) : List Oper → Nat → List Ty → Prop
  | [], _, τs => Fin τs
  | o :: l, i, τs => (∀ T ∈ τs, Stb S.E T) → ∃ T : Ty, Stb S.E T ∧ (∀ k ov ρ w, k < S.ops.size → RIh S k ov w → (ancB S.ops 8 i S.d = true → ov = none) → Known S.ops (tys τs) S.a0 ρ w i o.op.operands.toList → Good S.P o ρ w fun v w' => T w' v ∧ RIh S (k + 1) (if i = S.d then some v else ov) w' ∧ Only S.E w w') ∧ RSeq S Fin l (i + 1) (T :: τs)
theorem rseq_types {S : RS} {Fin : List Ty → Prop} : ∀ (l : List Oper) (τs : List Ty), S.ops.toList.drop τs.length = l → τs.length + l.length = S.ops.size → (∀ T ∈ τs, Stb S.E T) → RSeq S Fin l τs.length τs →
    ∃ τ : List Ty, (∀ j, j < τs.length → tys τ j = tys τs j) ∧ (∀ T ∈ τ, Stb S.E T) ∧ Fin τ ∧ ∀ i o, τs.length ≤ i → S.ops[i]? = some o → ∀ k ov ρ w, k < S.ops.size → RIh S k ov w → (ancB S.ops 8 i S.d = true → ov = none) → Known S.ops (tys τ) S.a0 ρ w i o.op.operands.toList → Good S.P o ρ w fun v w' => tys τ i w' v ∧ RIh S (k + 1) (if i = S.d then some v else ov) w' ∧ Only S.E w w'
  | [], τs, _, hlen, hst, h => by
    simp at hlen
    refine ⟨τs, fun _ _ => rfl, hst, h, fun i o hi ho => ?_⟩
    have := (Array.getElem?_eq_some_iff.1 ho).1
    omega
  | o :: l, τs, hl, hlen, hst, h => by
    obtain ⟨T, hT, hg, hr⟩ := h hst
    have hst' : ∀ T' ∈ T :: τs, Stb S.E T' := by
      intro T' hT'
      rcases List.mem_cons.1 hT' with h1 | h1
      · rw [h1]; exact hT
      · exact hst T' h1
    have hdrop : S.ops.toList.drop (T :: τs).length = l := by
      rw [List.length_cons, ← List.drop_drop, hl]; rfl
    obtain ⟨τ, h2, h3, h4, h5⟩ := rseq_types l (T :: τs) hdrop (by simp at hlen ⊢; omega) hst' (by rw [List.length_cons]; exact hr)
    rw [List.length_cons] at h2 h5
    have hget : ∀ j, j < τs.length → tys τ j = tys τs j := fun j hj => (h2 j (by omega)).trans (tys_old T τs hj)
    have hgetT : tys τ τs.length = T := (h2 _ (by omega)).trans (tys_new T τs)
    refine ⟨τ, hget, h3, h4, fun i o' hi ho => ?_⟩
    rcases Nat.lt_or_ge τs.length i with hlt | hge
    · exact h5 i o' hlt ho
    · obtain rfl : i = τs.length := by omega
      have : o' = o := by
        have e : S.ops.toList[τs.length]? = some o := by
          have := congrArg (fun l => l[0]?) hl
          simpa using this
        rw [Array.getElem?_toList] at e
        exact Option.some.inj (ho.symm.trans e)
      subst this
      intro k ov ρ w hk hI hd hK
      rw [hgetT]
      exact hg k ov ρ w hk hI hd (known_mono (fun j w v hj h => by rw [← hget j hj]; exact h) _ hK)
theorem wp_region_rs {id : Nat} {Q : Exit → Act → World → Prop} (S : RS) (hO : S.Ok) (hm : S.P.follows .mixedOrders = true) (hB : rgB S.ops = true) (hS : (S.ops.all fun o => match o.dst with | some t => decide (t < S.a0.tmps.size) | none => true) = true) (hd : S.d < S.ops.size)
    (hr : RdO S.rd 0 S.w0) (hJ : S.J none S.w0)
    (h : RSeq S (fun τ => ∀ f w' k, k ≤ S.ops.size → RIh S k (some (f S.d)) w' → (∀ i, i < S.ops.size → tys τ i w' (f i)) → Copies S.ops (fun j => decide (j < S.ops.size)) f → Q .normal (putAll S.ops.toList f 0 S.a0) w') S.ops.toList 0 []) : (Code.region id S.ops true).wp S.P Q S.a0 S.w0 := by
  obtain ⟨τ, _, h3, h4, h5⟩ := rseq_types S.ops.toList [] (by simp) (by simp) (by simp) h
  refine wp_region_rga (tys τ) S.d (RIh S) (Only S.E) hm hB hS ⟨?_, Only.drew _ _, hO.keep _ _ _ hJ (Only.drew _ _)⟩ (fun i v w w' ht hg => tys_stb h3 i v w w' ht hg) (fun i o ho => h5 i o (Nat.zero_le _) ho) hd (fun f w' k hk hI ht hc => h4 f w' k hk hI ht hc)
  cases hrd : S.rd with
  | none => trivial
  | some x =>
    rw [hrd] at hr
    exact Rd.drew1 hr
section
variable {S : RS} {Fin : List Ty → Prop} {o : Oper} {l : List Oper} {i : Nat} {τs : List Ty}
theorem rs_plain (hO : S.Ok) (hid : i ≠ S.d ∨ ∀ ov w, S.J ov w) (T : Ty) (hT : Stb S.E T)
    (h : ∀ k ρ w, k < S.ops.size → RdO S.rd k w → Only S.E S.w0 w → Known S.ops (tys τs) S.a0 ρ w i o.op.operands.toList → Good S.P o ρ w fun v w' => T w' v ∧ RdO S.rd (k + 1) w' ∧ Only S.F w w')
    (rest : RSeq S Fin l (i + 1) (T :: τs)) : RSeq S Fin (o :: l) i τs := by
  intro _
  refine ⟨T, hT, fun k ov ρ w hk hI _ hK => ?_, rest⟩
  refine (h k ρ w hk hI.1 hI.2.1 hK).mono fun v w' ⟨h1, h2, h3⟩ => ?_
  refine ⟨h1, ⟨h2, hI.2.1.trans (h3.mono hO.sub), ?_⟩, h3.mono hO.sub⟩
  rcases hid with hid | hid
  · rw [if_neg hid]
    exact hO.keep _ _ _ hI.2.2 h3
  · exact hid _ _
theorem rdO_more {rd : Option (Nat × Nat)} {k : Nat} {w : World} (h : RdO rd k w) : RdO rd (k + 1) w := by
  cases rd with
  | none => trivial
  | some x => exact Rd.more h (by omega)
theorem rdO_only {rd : Option (Nat × Nat)} {k : Nat} {w w' : World} {F : Nat → Prop} (h : RdO rd k w) (hg : w.grownBy w' none) : RdO rd k w' := by
  cases rd with
  | none => trivial
  | some x => exact Rd.grown h hg (by simp)
theorem rs_pure (hO : S.Ok) (hid : i ≠ S.d ∨ ∀ ov w, S.J ov w) (T : Ty) (hT : Stb S.E T)
    (h : ∀ ρ w, Known S.ops (tys τs) S.a0 ρ w i o.op.operands.toList → ∃ v, (execOp ρ o).run S.P w = .ok (.value v) w ∧ T w v)
    (rest : RSeq S Fin l (i + 1) (T :: τs)) : RSeq S Fin (o :: l) i τs := by
  refine rs_plain hO hid T hT (fun k ρ w _ hr _ hK => ?_) rest
  obtain ⟨v, h1, h2⟩ := h ρ w hK
  unfold Good
  rw [h1]
  exact ⟨h2, rdO_more hr, Only.refl _ _⟩
theorem rs_old (hO : S.Ok) (hid : i ≠ S.d ∨ ∀ ov w, S.J ov w) (x : Operand) (ho : o.op = .move x ∨ o.op = .assign x) (c : Value) (hx : S.a0.eval x = c) (hw : (match x with | .tmp t => writer S.ops i t | _ => none) = none)
    (rest : RSeq S Fin l (i + 1) (TEq c :: τs)) : RSeq S Fin (o :: l) i τs := by
  refine rs_pure hO hid _ (stb_eq _ _) (fun ρ w hK => ⟨ρ x, ?_, ?_⟩) rest
  · rcases ho with ho | ho <;> simp [execOp, ho, go_sem]
  · have he : o.op.operands.toList = [x] := by rcases ho with ho | ho <;> rw [ho] <;> rfl
    rw [he] at hK
    show ρ x = c
    rw [← hx]
    cases x with
    | tmp t =>
      have h1 := hK.1
      rw [show writer S.ops i t = none from hw] at h1
      exact h1
    | const v => exact hK.1
    | global v => exact hK.1
    | func v => exact hK.1
theorem rs_same (hO : S.Ok) (hid : i ≠ S.d ∨ ∀ ov w, S.J ov w) (t j : Nat) (ho : o.op = .move (.tmp t) ∨ o.op = .assign (.tmp t)) (hw : writer S.ops i t = some j) (T : Ty) (hT : tys τs j = T)
    (rest : RSeq S Fin l (i + 1) (T :: τs)) : RSeq S Fin (o :: l) i τs := by
  intro hst
  refine rs_pure hO hid T (hT ▸ tys_stb hst j) (fun ρ w hK => ⟨ρ (.tmp t), ?_, ?_⟩) rest hst
  · rcases ho with ho | ho <;> simp [execOp, ho, go_sem]
  · have he : o.op.operands.toList = [.tmp t] := by rcases ho with ho | ho <;> rw [ho] <;> rfl
    rw [he] at hK
    have h1 := hK.1
    rw [hw] at h1
    rw [← hT]
    exact h1
theorem rs_pick (hO : S.Ok) (hid : i ≠ S.d ∨ ∀ ov w, S.J ov w) (f : FuncId) (x y : Operand) (at_ : Array TypeId) (R P hi : Nat) (ho : o.op = .call { callee := .value (.func f), args := #[x, y], argTypes := at_ }) (hrd : S.rd = some (R, P)) (hcf : FnOk S.P f)
    (hx : ∀ ρ w, Known S.ops (tys τs) S.a0 ρ w i [.func f, x, y] → ρ (.func f) = .func (.func f) #[] #[] ∧ ρ x = .pointer (some ⟨R, 0, none⟩) ∧ ∃ n : Int, ρ y = .int .i64 n ∧ 1 ≤ n ∧ n ≤ hi + 1)
    (hc : ∀ (n : Int) (k : Nat) (w : World), k < S.ops.size → 1 ≤ n → n ≤ hi + 1 → Rd w R (P + 200 * k) → Calls S.P f #[.pointer (some ⟨R, 0, none⟩), .int .i64 n] w fun e w' => ∃ x : Int, 0 ≤ x ∧ x ≤ hi ∧ e = .returned (.int .i64 x) ∧ Rd w' R (P + 200 * k + 1) ∧ w.grownBy w' (some R))
    (rest : RSeq S Fin l (i + 1) (TInt 0 hi :: τs)) : RSeq S Fin (o :: l) i τs := by
  refine rs_plain hO hid _ (stb_int _ _ _) (fun k ρ w hk hr hon hK => ?_) rest
  rw [ho] at hK
  obtain ⟨h1, h2, n, h3, h3', h4⟩ := hx ρ w hK
  rw [hrd] at hr
  have hrun : (execOp ρ o).run S.P w = .ok (.enter f #[.pointer (some ⟨R, 0, none⟩), .int .i64 n]) w := by
    simp [execOp, ho, h1, h2, h3, go_sem, Result.andThen]
    exact hcf _ _
  unfold Good
  rw [hrun]
  refine (hc n k w hk h3' h4 hr).mono ?_
  rintro e w' ⟨y, h5, h6, rfl, hr', hg⟩
  refine ⟨⟨y, rfl, h5, h6⟩, by rw [hrd]; exact hr'.more (by omega), Only.grown hg fun q hq => ?_⟩
  cases hq
  exact (hO.reader R P hrd).1
theorem rs_call (hO : S.Ok) (hid : i ≠ S.d ∨ ∀ ov w, S.J ov w) (T : Ty) (hT : Stb S.E T) (f : FuncId) (args : Array Operand) (at_ : Array TypeId) (ho : o.op = .call { callee := .value (.func f), args := args, argTypes := at_ })
    (h : ∀ ρ w, Only S.E S.w0 w → Known S.ops (tys τs) S.a0 ρ w i (.func f :: args.toList) → ∃ vs, (execOp ρ o).run S.P w = .ok (.enter f vs) w ∧ Calls S.P f vs w fun e w' => ∃ v, e = .returned v ∧ T w' v ∧ Below w.heap.size w w')
    (rest : RSeq S Fin l (i + 1) (T :: τs)) : RSeq S Fin (o :: l) i τs := by
  refine rs_plain hO hid T hT (fun k ρ w hk hr hon hK => ?_) rest
  have he : o.op.operands.toList = .func f :: args.toList := by rw [ho]; simp [Op.operands, Call.operands]
  rw [he] at hK
  obtain ⟨vs, h1, h2⟩ := h ρ w hon hK
  unfold Good
  rw [h1]
  refine h2.mono ?_
  rintro e w' ⟨v, rfl, h3, h4⟩
  refine ⟨h3, ?_, Only.of_below _ h4⟩
  have hr' := rdO_more hr
  cases hrd : S.rd with
  | none => trivial
  | some x =>
    rw [hrd] at hr'
    exact Rd.below hr' h4 (Rd.lt hr')
theorem rs_look (hO : S.Ok) (hid : i ≠ S.d ∨ ∀ ov w, S.J ov w) (T : Ty) (hT : Stb S.E T)
    (h : ∀ ρ w, Only S.E S.w0 w → Known S.ops (tys τs) S.a0 ρ w i o.op.operands.toList → ∃ v, (execOp ρ o).run S.P w = .ok (.value v) w ∧ T w v)
    (rest : RSeq S Fin l (i + 1) (T :: τs)) : RSeq S Fin (o :: l) i τs := by
  refine rs_plain hO hid T hT (fun k ρ w _ hr ho hK => ?_) rest
  obtain ⟨v, h1, h2⟩ := h ρ w ho hK
  unfold Good
  rw [h1]
  exact ⟨h2, rdO_more hr, Only.refl _ _⟩
theorem rs_alloc (hO : S.Ok) (hid : i ≠ S.d ∨ ∀ ov w, S.J ov w) (T : Ty) (hT : Stb S.E T)
    (h : ∀ ρ w, Only S.E S.w0 w → Known S.ops (tys τs) S.a0 ρ w i o.op.operands.toList → ∃ v c, (execOp ρ o).run S.P w = .ok (.value v) (w.alloc c) ∧ T (w.alloc c) v)
    (rest : RSeq S Fin l (i + 1) (T :: τs)) : RSeq S Fin (o :: l) i τs := by
  refine rs_plain hO hid T hT (fun k ρ w _ hr ho hK => ?_) rest
  obtain ⟨v, c, h1, h2⟩ := h ρ w ho hK
  unfold Good
  rw [h1]
  refine ⟨h2, ?_, Only.of_below _ ((Below.refl _ _).alloc (Nat.le_refl _) c)⟩
  have hr' := rdO_more hr
  cases hrd : S.rd with
  | none => trivial
  | some x =>
    rw [hrd] at hr'
    exact Rd.alloc hr' _
theorem rs_eq (hO : S.Ok) (hid : i ≠ S.d ∨ ∀ ov w, S.J ov w) {c : Value}
    (h : ∀ ρ w, Only S.E S.w0 w → Known S.ops (tys τs) S.a0 ρ w i o.op.operands.toList → (execOp ρ o).run S.P w = .ok (.value c) w)
    (rest : RSeq S Fin l (i + 1) (TEq c :: τs)) : RSeq S Fin (o :: l) i τs :=
  rs_look hO hid (TEq c) (stb_eq _ _) (fun ρ w ho hK => ⟨c, h ρ w ho hK, rfl⟩) rest
theorem rs_doR (hd : i = S.d) {R0 R1 : World → Prop} (hJ : S.J = JStep R0 R1) (R P : Nat) (hrd : S.rd = some (R, P))
    (h : ∀ ρ w, Only S.E S.w0 w → R0 w → Known S.ops (tys τs) S.a0 ρ w i o.op.operands.toList → ∃ w', (execOp ρ o).run S.P w = .ok .skip w' ∧ R1 w' ∧ Only S.E w w' ∧ ∀ Q, Rd w R Q → Rd w' R Q)
    (rest : RSeq S Fin l (i + 1) (TAny :: τs)) : RSeq S Fin (o :: l) i τs := by
  intro _
  refine ⟨TAny, stb_any _, fun k ov ρ w hk hI hov hK => ?_, rest⟩
  obtain rfl := hov (by rw [hd]; exact ancB_self _ _ _)
  have h0 : R0 w := by have := hI.2.2; rw [hJ] at this; exact this
  obtain ⟨w', hrun, h1, hon, hrr⟩ := h ρ w hI.2.1 h0 hK
  unfold Good
  rw [hrun]
  refine ⟨trivial, ⟨?_, hI.2.1.trans hon, ?_⟩, hon⟩
  · have hr' := hI.1
    rw [hrd] at hr' ⊢
    have hr'' : Rd w R (P + 200 * k) := hr'
    exact (hrr _ hr'').more (by omega)
  · rw [if_pos hd, hJ]
    exact h1
theorem rs_drawcall (hO : S.Ok) (hid : i ≠ S.d ∨ ∀ ov w, S.J ov w) (T : Ty) (hT : Stb S.E T) (f : FuncId) (args : Array Operand) (at_ : Array TypeId) (ho : o.op = .call { callee := .value (.func f), args := args, argTypes := at_ }) (R P : Nat) (hrd : S.rd = some (R, P))
    (h : ∀ k ρ w, k < S.ops.size → Rd w R (P + 200 * k) → Only S.E S.w0 w → Known S.ops (tys τs) S.a0 ρ w i (.func f :: args.toList) → ∃ vs, (execOp ρ o).run S.P w = .ok (.enter f vs) w ∧ Calls S.P f vs w fun e w' => ∃ v, e = .returned v ∧ T w' v ∧ Rd w' R (P + 200 * k + 200) ∧ w.grownBy w' (some R))
    (rest : RSeq S Fin l (i + 1) (T :: τs)) : RSeq S Fin (o :: l) i τs := by
  refine rs_plain hO hid T hT (fun k ρ w hk hr hon hK => ?_) rest
  have he : o.op.operands.toList = .func f :: args.toList := by rw [ho]; simp [Op.operands, Call.operands]
  rw [he] at hK
  rw [hrd] at hr
  obtain ⟨vs, h1, h2⟩ := h k ρ w hk hr hon hK
  unfold Good
  rw [h1]
  refine h2.mono ?_
  rintro e w' ⟨v, rfl, h3, h4, h5⟩
  refine ⟨h3, by rw [hrd]; exact h4.more (by omega), Only.grown h5 fun q hq => ?_⟩
  cases hq
  exact (hO.reader R P hrd).1
end
end Hv
end Go.Proofs.Ytopimdakpnnbhaa

namespace Go.Proofs.Ytopimdakpnnbhaa
open Go.RowKit
set_option maxRecDepth 100000
/-! DrawResets. -/
def DrawnResets (w : World) (e : Ending) (w' : World) : Prop := ∃ v c vr xss, e = .returned (.tuple #[v, vr]) ∧ OwnC w.heap.size v c w' ∧ SSAt bools w' vr xss ∧ xss.length ≤ 11 ∧ Below w.heap.size w w'
namespace Hv
set_option maxHeartbeats 8000000 in
theorem drawResets_any (v : Value) (bs : List Int) (w : World) (h : Row w 1 v bs.length (bs.map (Value.int .u8))) (hb : ∀ x ∈ bs, (Lit.int .u8 x).wf = true) (hl : bs.length ≤ 1048576) :
    Calls Try.prog 44 #[v] w (DrawnResets w) := by
  have H := Lib.hid h
  clear h
  have hX := heap_alloc_new w (.cells #[.int .i64 0, .slice none 0 0, .slice none 0 0, .slice none 0 0] 26)
  have HB0 := Lib.hid (bel_new w (.cells #[.int .i64 0, .slice none 0 0, .slice none 0 0, .slice none 0 0] 26))
  have hs : (w.alloc (.cells #[.int .i64 0, .slice none 0 0, .slice none 0 0, .slice none 0 0] 26)).heap.size = w.heap.size + 1 := by simp
  have HX := Lib.hid hX
  clear hX
  go_enter Try.func44, Try.ntmps44
  go_wp2_with fail
  have H0 := Lib.hid (H.out.alloc (.cells #[.int .i64 0, .slice none 0 0, .slice none 0 0, .slice none 0 0] 26))
  generalize w.alloc (.cells #[.int .i64 0, .slice none 0 0, .slice none 0 0, .slice none 0 0] 26) = W at *
  refine (open_any _ bs _ H0.out hb hl).mono ?_
  rintro e w1 ⟨rfl, hr1, hb1⟩
  rw [hs] at hr1
  have HZ1 := Lib.hid hr1.lt
  have Hr1 := Lib.hid hr1
  have Hb1 := Lib.hid (HB0.out.trans (hb1.mono HB0.out.size))
  have HX1 := Lib.hid ((hb1.block _ (by omega)).trans HX.out)
  clear hr1 hb1 HX HB0 H H0 hb hl
  go_wp2_with fail
  refine (l20Circuit_any _ 0 12 _ Hr1.out (by omega) (by omega) (by omega)).mono ?_
  rintro e w2 ⟨v2, c, rfl, hO, hS, hr2, hg2⟩
  have HX2 := Lib.hid (res_grown HX1.out hg2 (fun e => by have := Option.some.inj e; omega))
  have Hb2 := Lib.hid (Hb1.out.grown hg2 Hb1.out.size (fun k hk => by have := Option.some.inj hk; omega))
  have HO := Lib.hid hO
  have HS := Lib.hid hS
  obtain ⟨An, cn, Ag, cg, Ao, co, rfl⟩ := hO.shape
  obtain ⟨s1, s2, s3, s4, s5, -⟩ := hS
  have Hr2 := Lib.hid hr2
  have HZ2 := Lib.hid hg2.size
  clear hr2 hg2 hO HX1 Hb1 Hr1
  go_wp2_with fail
  have HNb : Hid (∀ g, (Value.slice An c.next.length cn).ownBlock = some g → g < w2.heap.size) := Lib.hid (by
    obtain ⟨vN, vG, vO, hvv, n1, -⟩ := HO.out
    simp at hvv
    obtain ⟨h1, h2, h3⟩ := hvv
    subst h1
    exact fun g hg => (n1.lt g hg).2)
  have hb3 := bel_new w2 (.cells #[.int .i64 c.ins, .slice An c.next.length cn, .slice Ag c.gates.length cg, .slice Ao c.outs.length co] 26)
  have HO3 := Lib.hid (HO.out.only (E := fun _ => False) (Only.of_below _ hb3) fun _ _ e => e)
  have HX3 := Lib.hid ((hb3.block _ (blk_lt HX2.out)).trans HX2.out)
  have Hr3 := Lib.hid (Hr2.out.alloc (.cells #[.int .i64 c.ins, .slice An c.next.length cn, .slice Ag c.gates.length cg, .slice Ao c.outs.length co] 26))
  have Hb3 := Lib.hid (Hb2.out.trans (hb3.mono Hb2.out.size))
  have HM3 := Lib.hid (heap_alloc_new w2 (.cells #[.int .i64 c.ins, .slice An c.next.length cn, .slice Ag c.gates.length cg, .slice Ao c.outs.length co] 26))
  have z3 : w2.heap.size < (w2.alloc (.cells #[.int .i64 c.ins, .slice An c.next.length cn, .slice Ag c.gates.length cg, .slice Ao c.outs.length co] 26)).heap.size := by simp
  obtain ⟨gm, hgm⟩ : ∃ gm, w2.heap.size = gm := ⟨_, rfl⟩
  rw [hgm] at HM3 HZ2 z3 HNb ⊢
  clear HO HX2 Hr2 Hb2 hb3 hgm
  generalize w2.alloc (.cells #[.int .i64 c.ins, .slice An c.next.length cn, .slice Ag c.gates.length cg, .slice Ao c.outs.length co] 26) = w3 at *
  have hgm2 : w.heap.size + 1 < gm := Nat.lt_of_lt_of_le HZ1.out HZ2.out
  have hneM : ¬ (gm = w.heap.size + 1 ∨ gm = w.heap.size) := by omega
  have f0 := blk_cell HM3.out 0
  have f1 := blk_cell HM3.out 1
  have f2 := blk_cell HM3.out 2
  have f3 := blk_cell HM3.out 3
  simp at f0 f1 f2 f3
  have hOC := HO3.out
  obtain ⟨vN, vG, vO, hvv, n1, n2, n3, a1, a2, a3⟩ := hOC
  simp at hvv
  obtain ⟨hv0, hv1, hv2⟩ := hvv
  subst hv0 hv1 hv2
  have hRw : w.heap.size + 1 < w1.heap.size := HZ1.out
  have N1 := Lib.hid n1
  have N2 := Lib.hid n2
  have N3 := Lib.hid n3
  have A12 := Lib.hid a1
  have A13 := Lib.hid a2
  have A23 := Lib.hid a3
  clear n1 n2 n3 a1 a2 a3
  go_loopw [6] (fun i wr => ∃ (k : Nat) (xs : List Int), i = .int .i64 k ∧ k ≤ c.next.length ∧ Hid (xs.length = c.next.length) ∧ Hid (wr.ownsRow w1.heap.size 3 1 (.slice An c.next.length cn) c.next.length (ints xs)) ∧ Hid (Rd wr (w.heap.size + 1) (10000 + 3000 * k)) ∧ Hid (Only (fun g => g = w.heap.size + 1 ∨ (Value.slice An c.next.length cn).ownBlock = some g) w3 wr)) (fun i _ => c.next.length - (intOf i).toNat)
  case atStart => exact ⟨0, c.next, rfl, Nat.zero_le _, Lib.hid rfl, N1, Lib.hid (Hr3.out.more (by omega)), Lib.hid (Only.refl _ _)⟩
  case round =>
    obtain ⟨k, xs, rfl, hk, Hxl, Hn, Hr, HE⟩ := hrel
    clear N1
    have zr := HE.out.size
    have hng : ¬ (gm = w.heap.size + 1 ∨ (Value.slice An c.next.length cn).ownBlock = some gm) := fun h => by
      rcases h with h | h
      · omega
      · have := HNb.out gm h; omega
    have q0 := cell_on HE.out hng z3 f0
    have q1 := cell_on HE.out hng z3 f1
    have q2 := cell_on HE.out hng z3 f2
    have q3 := cell_on HE.out hng z3 f3
    by_cases hlt : k < c.next.length
    · have hdk : decide (k < c.next.length) = true := decide_eq_true hlt
      go_wp2_with fail
      refine (pick_any 2 _ _ _ Hr.out (by omega) (by omega) (by omega)).mono ?_
      rintro e w5 ⟨x, hx0, hx1, rfl, hr5, hg5⟩
      have Hr5 := Lib.hid hr5
      have HE5 := Lib.hid (HE.out.trans (Only.grown hg5 fun g hg => .inl (Option.some.inj hg).symm))
      have Hn5 := Lib.hid (own_kept Hn.out hg5 (fun g hg e => by have h1 := (Hn.out.lt g hg).1; have h2 := Option.some.inj e; omega))
      have z5 := HE5.out.size
      have q0 := cell_on HE5.out hng z3 f0
      have q1 := cell_on HE5.out hng z3 f1
      have q2 := cell_on HE5.out hng z3 f2
      have q3 := cell_on HE5.out hng z3 f3
      clear hr5 hg5 Hn HE Hr
      by_cases hx : x = 0
      · have hxb : (x == 0) = true := by simpa using hx
        clear hx
        obtain ⟨kb, cc, hA, hk1, hk2, hc1, hc2⟩ := own_open Hn5.out (by omega)
        injection hA with hA1 _ hA2
        subst hA1 hA2
        have hgm5 : gm < w5.heap.size := by omega
        have hngk : ¬ (gm = w.heap.size + 1 ∨ gm = kb) := fun h => by
          rcases h with h | h
          · omega
          · have := HNb.out kb rfl; omega
        have hOk := fun ops a => rdStepRS_ok (Pg := Try.prog) (ops := ops) (P := 10000 + 3000 * k + 1) (a := a) (R0 := fun w' => w'.ownsRow w1.heap.size 3 1 (.slice (some ⟨kb, 0, none⟩) c.next.length cn) c.next.length (ints xs)) (R1 := fun w' => ∃ y : Int, w'.ownsRow w1.heap.size 3 1 (.slice (some ⟨kb, 0, none⟩) c.next.length cn) c.next.length (ints (xs.set k y))) (d := 12) Hr5.out.lt hk2 (fun wa wb h ho => own_only h ho (fun g hg e => by have h1 := (h.lt g hg).1; omega)) (fun wa wb ⟨y, h⟩ ho => ⟨y, own_only h ho (fun g hg e => by have h1 := (h.lt g hg).1; omega)⟩)
        go_wp2_with fail
        refine wp_region_rs (rdStepRS Try.prog _ (w.heap.size + 1) (10000 + 3000 * k + 1) w5 _ kb _ _ 12) (hOk _ _) (by kernel_rfl) (by kernel_rfl) (by kernel_rfl) (Nat.le_of_ble_eq_true rfl) Hr5.out Hn5.out ?_
        apply rs_eq (hOk _ _) (.inl (Nat.ne_of_beq_eq_false rfl))
        · intro ρ w' ho hK
          have ho : Only _ w5 w' := ho
          obtain ⟨h0, -⟩ := hK
          have h0' : ρ (.tmp 5) = _ := h0
          go_simp
          try exact rfl
        apply rs_eq (hOk _ _) (.inl (Nat.ne_of_beq_eq_false rfl))
        · intro ρ w' ho hK
          have ho : Only _ w5 w' := ho
          obtain ⟨h0, -⟩ := hK
          have h0' : ρ (.tmp 21) = _ := h0
          have r0 := cell_on ho hngk hgm5 q0
          have r1 := cell_on ho hngk hgm5 q1
          go_simp
          try exact rfl
        refine rs_old (hOk _ _) (.inl (Nat.ne_of_beq_eq_false rfl)) _ (.inl rfl) _ rfl rfl ?_
        refine rs_old (hOk _ _) (.inl (Nat.ne_of_beq_eq_false rfl)) _ (.inl rfl) _ rfl rfl ?_
        apply rs_eq (hOk _ _) (.inl (Nat.ne_of_beq_eq_false rfl))
        · intro ρ w' ho hK
          have ho : Only _ w5 w' := ho
          obtain ⟨h0, -⟩ := hK
          have h0' : ρ (.tmp 5) = _ := h0
          go_simp
          try exact rfl
        apply rs_eq (hOk _ _) (.inl (Nat.ne_of_beq_eq_false rfl))
        · intro ρ w' ho hK
          have ho : Only _ w5 w' := ho
          obtain ⟨h0, -⟩ := hK
          have h0' : ρ (.tmp 25) = _ := h0
          have r0 := cell_on ho hngk hgm5 q0
          have r1 := cell_on ho hngk hgm5 q1
          go_simp
          try exact rfl
        refine rs_pure (hOk _ _) (.inl (Nat.ne_of_beq_eq_false rfl)) (TInt (-1) 4) (stb_int _ _ _) (fun ρ w hK => by
          obtain ⟨h0, h1, -⟩ := hK
          have h0' : ρ (.const (.int .i64 4)) = .int .i64 4 := h0
          have h1' : ρ (.tmp 26) = .int .i64 c.ins := h1
          by_cases hc0 : c.ins < 4
          · refine ⟨.int .i64 c.ins, ?_, _, rfl, by omega, by omega⟩
            go_simp
          · refine ⟨.int .i64 4, ?_, _, rfl, by omega, by omega⟩
            go_simp) ?_
        refine rs_pure (hOk _ _) (.inl (Nat.ne_of_beq_eq_false rfl)) (TInt 0 4) (stb_int _ _ _) (fun ρ w hK => by
          obtain ⟨h0, ⟨q, h1, h2, h3⟩, -⟩ := hK
          have h0' : ρ (.const (.int .i64 0)) = .int .i64 0 := h0
          have h1' : ρ (.tmp 27) = .int .i64 q := h1
          by_cases hc0 : 0 < q
          · refine ⟨.int .i64 q, ?_, _, rfl, by omega, by omega⟩
            go_simp
            try (intro hq; simp [hq])
          · refine ⟨.int .i64 0, ?_, _, rfl, by omega, by omega⟩
            go_simp) ?_
        refine rs_pure (hOk _ _) (.inl (Nat.ne_of_beq_eq_false rfl)) (TInt 1 5) (stb_int _ _ _) (fun ρ w hK => by
          obtain ⟨h0, ⟨q, h1, h2, h3⟩, -⟩ := hK
          have h0' : ρ (.const (.int .i64 1)) = .int .i64 1 := h0
          have h1' : ρ (.tmp 28) = .int .i64 q := h1
          have hwr := IntWalk.i64_in (1 + q) (by omega)
          refine ⟨.int .i64 (1 + q), ?_, _, rfl, by omega, by omega⟩
          go_simp) ?_
        refine rs_pure (hOk _ _) (.inl (Nat.ne_of_beq_eq_false rfl)) (TInt 2 10) (stb_int _ _ _) (fun ρ w hK => by
          obtain ⟨h0, ⟨q, h1, h2, h3⟩, -⟩ := hK
          have h0' : ρ (.const (.int .i64 2)) = .int .i64 2 := h0
          have h1' : ρ (.tmp 29) = .int .i64 q := h1
          have hwr := IntWalk.i64_in (2 * q) (by omega)
          refine ⟨.int .i64 (2 * q), ?_, _, rfl, by omega, by omega⟩
          go_simp) ?_
        refine rs_pick (hOk _ _) (.inl (Nat.ne_of_beq_eq_false rfl)) 83 _ _ _ (w.heap.size + 1) (10000 + 3000 * k + 1) 9 rfl rfl fn_draw (fun ρ w hK => by
          obtain ⟨a1, a2, ⟨q, a3, a4, a5⟩, -⟩ := hK
          exact ⟨a1, a2, q, a3, by omega, by omega⟩) (fun n kk w hk h1n hn hr => pick_upto n 9 _ _ w hr (by have hk' : kk < 13 := hk; omega) h1n hn (by omega)) ?_
        apply rs_eq (hOk _ _) (.inl (Nat.ne_of_beq_eq_false rfl))
        · intro ρ w' ho hK
          have ho : Only _ w5 w' := ho
          obtain ⟨h0, h1, -⟩ := hK
          have h0' : ρ (.tmp 22) = _ := h0
          have h1' : ρ (.tmp 23) = _ := h1
          go_simp
          try exact rfl
        refine rs_doR rfl rfl (w.heap.size + 1) (10000 + 3000 * k + 1) rfl (fun ρ w' ho h0 hK => by
          obtain ⟨h1, ⟨q, h2, h3, h4⟩, -⟩ := hK
          have h1' : ρ (.tmp 32) = .pointer (some ⟨kb, k, none⟩) := h1
          have h2' : ρ (.tmp 31) = .int .i64 q := h2
          have h0' : w'.ownsRow w1.heap.size 3 1 (.slice (some ⟨kb, 0, none⟩) c.next.length cn) c.next.length (ints xs) := h0
          obtain ⟨u0, _, hcell, hfr⟩ := own_slot h0' (j := k) (by omega)
          have hst := h0'.stored k (.int .i64 q)
          have hkw := (h0'.lt kb rfl).2
          refine ⟨w'.setCell ⟨kb, k, none⟩ (.int .i64 q), ?_, ⟨q, by have := hst.1; rw [show (ints xs).set k (.int .i64 q) = ints (xs.set k q) from by unfold ints; rw [List.map_set]] at this; exact this⟩, Only.grown hst.2 (fun g hg => .inr (Option.some.inj hg).symm), fun Q hQ => hQ.grown hst.2 (fun g hg => by have := Option.some.inj hg; omega)⟩
          clear hst h0'
          go_simp) ?_
        intro f w9 k9 hk9 hI9 ht9 hcp9
        have E0 : f 0 = _ := ht9 0 (Nat.le_of_ble_eq_true rfl)
        have E1 : f 1 = _ := ht9 1 (Nat.le_of_ble_eq_true rfl)
        have E2 : f 2 = _ := ht9 2 (Nat.le_of_ble_eq_true rfl)
        conv at E2 => rhs; whnf
        have E3 : f 3 = _ := ht9 3 (Nat.le_of_ble_eq_true rfl)
        conv at E3 => rhs; whnf
        have E4 : f 4 = _ := ht9 4 (Nat.le_of_ble_eq_true rfl)
        have E5 : f 5 = _ := ht9 5 (Nat.le_of_ble_eq_true rfl)
        have E6 : (TInt (-1) 4) w9 (f 6) := ht9 6 (Nat.le_of_ble_eq_true rfl)
        have E7 : (TInt 0 4) w9 (f 7) := ht9 7 (Nat.le_of_ble_eq_true rfl)
        have E8 : (TInt 1 5) w9 (f 8) := ht9 8 (Nat.le_of_ble_eq_true rfl)
        have E9 : (TInt 2 10) w9 (f 9) := ht9 9 (Nat.le_of_ble_eq_true rfl)
        have E10 : (TInt 0 ((9 : Nat) : Int)) w9 (f 10) := ht9 10 (Nat.le_of_ble_eq_true rfl)
        have E11 : f 11 = _ := ht9 11 (Nat.le_of_ble_eq_true rfl)
        have E12 : (TAny) w9 (f 12) := ht9 12 (Nat.le_of_ble_eq_true rfl)
        have Ho9 : Only _ w5 w9 := hI9.2.1
        have HJ9 := hI9.2.2
        have HR9 := hI9.1
        have HK9 := hk9
        simp only [putAll, E0, E1, E2, E3, E4, E5, E11, Nat.zero_add, Nat.reduceAdd, Act.put, List.setIfInBounds_toArray, List.set_cons_succ, List.set_cons_zero]
        clear E0 E1 E2 E3 E4 E5 E11
        clear hI9 ht9 hcp9 hk9
        generalize f 6 = r6 at *
        generalize f 7 = r7 at *
        generalize f 8 = r8 at *
        generalize f 9 = r9 at *
        generalize f 10 = r10 at *
        generalize f 12 = r12 at *
        obtain ⟨y, hy⟩ := HJ9
        have hK9 : k9 ≤ 13 := HK9
        have Hy := Lib.hid hy
        have HR9' := Lib.hid (show Rd w9 (w.heap.size + 1) (10000 + 3000 * (k + 1)) from Rd.more HR9 (by omega))
        have HE9 := Lib.hid (HE5.out.trans (Ho9.mono (fun g hg => by
          rcases hg with h | h
          · exact .inl h
          · exact .inr (by rw [h]; rfl))))
        clear hOk HR9 HK9 hy Ho9 E6 E7 E8 E9 E10 E12 Hr5 Hn5 HE5 q0 q1 q2 q3
        go_wp2_with fail
        go_roundw
        case rel => exact ⟨k + 1, xs.set k y, by go_num, by omega, Lib.hid (by rw [List.length_set]; exact Hxl.out), Hy, HR9', HE9⟩
        case measure => simp [intOf] <;> omega
      · have hxb : (x == 0) = false := by simpa using hx
        clear hx
        go_wp2_with fail
        go_roundw
        case rel => exact ⟨k + 1, xs, by go_num, by omega, Hxl, Hn5, Lib.hid (Hr5.out.more (by omega)), HE5⟩
        case measure => simp [intOf] <;> omega
    · obtain rfl : k = c.next.length := by omega
      have hdk : decide (c.next.length < c.next.length) = false := decide_eq_false (by omega)
      go_wp2_with fail
      obtain ⟨c', hc'⟩ : ∃ c' : Cz, c' = { c with next := xs } := ⟨_, rfl⟩
      have HOC : Hid (OwnC w1.heap.size (.agg #[.int .i64 c.ins, .slice An c.next.length cn, .slice Ag c.gates.length cg, .slice Ao c.outs.length co]) c' wr) := Lib.hid (by
        rw [hc']
        refine ⟨_, _, _, rfl, by rw [Hxl.out]; exact Hn.out, own_only N2.out HE.out (fun g hg e => ?_), own_only N3.out HE.out (fun g hg e => ?_), A12.out, A13.out, A23.out⟩
        · rcases e with e | e
          · have := (N2.out.lt g hg).1; omega
          · exact A12.out g e hg
        · rcases e with e | e
          · have := (N3.out.lt g hg).1; omega
          · exact A13.out g e hg)
      have HXr := Lib.hid ((HE.out.block _ (blk_lt HX3.out) (fun h => by
        rcases h with h | h
        · omega
        · have := (N2.out.lt : _)
          have h1 := (Hn.out.lt _ h).1
          omega)).trans HX3.out)
      have zg : gm < wr.heap.size := by omega
      have hO := fun ops a => rdStepRS_ok (Pg := Try.prog) (ops := ops) (P := (10000 + 3000 * c.next.length)) (a := a) (R0 := fun w' => w'.heap[w.heap.size]? = some (.cells #[.int .i64 0, .slice none 0 0, .slice none 0 0, .slice none 0 0] 26 (0, 0))) (R1 := fun w' => w'.heap[w.heap.size]? = some (.cells #[.int .i64 c.ins, .slice An c.next.length cn, .slice Ag c.gates.length cg, .slice Ao c.outs.length co] 26 (0, 0))) (d := 7) Hr.out.lt (blk_lt HXr.out) (fun w1 w2 h ho => blk_only h ho (by omega)) (fun w1 w2 h ho => blk_only h ho (by omega))
      refine wp_region_rs (rdStepRS Try.prog _ (w.heap.size + 1) (10000 + 3000 * c.next.length) wr _ w.heap.size _ _ 7) (hO _ _) (by kernel_rfl) (by kernel_rfl) (by kernel_rfl) (Nat.le_of_ble_eq_true rfl) Hr.out HXr.out ?_
      apply rs_eq (hO _ _) (.inl (Nat.ne_of_beq_eq_false rfl))
      · intro ρ w' ho hK
        obtain ⟨h0, -⟩ := hK
        have h0' : ρ (.tmp 5) = .pointer (some ⟨gm, 0, none⟩) := h0
        have q0 := cell_on ho hneM zg q0
        have q1 := cell_on ho hneM zg q1
        have q2 := cell_on ho hneM zg q2
        have q3 := cell_on ho hneM zg q3
        go_simp
        try exact rfl
      refine rs_old (hO _ _) (.inl (Nat.ne_of_beq_eq_false rfl)) _ (.inl rfl) _ rfl rfl ?_
      apply rs_eq (hO _ _) (.inl (Nat.ne_of_beq_eq_false rfl))
      · intro ρ w' ho hK
        obtain ⟨h0, -⟩ := hK
        have h0' : ρ (.tmp 5) = .pointer (some ⟨gm, 0, none⟩) := h0
        go_simp
        try exact rfl
      apply rs_eq (hO _ _) (.inl (Nat.ne_of_beq_eq_false rfl))
      · intro ρ w' ho hK
        obtain ⟨h0, -⟩ := hK
        have h0' : ρ (.tmp 35) = .pointer (some ⟨gm, 0, none⟩) := h0
        have q0 := cell_on ho hneM zg q0
        go_simp
        try exact rfl
      refine rs_pure (hO _ _) (.inl (Nat.ne_of_beq_eq_false rfl)) (TEq (.int .i64 c.ins)) (stb_eq _ _) (fun ρ w hK => by
        obtain ⟨h0, h1, -⟩ := hK
        have h0' : ρ (.const (.int .i64 8)) = .int .i64 8 := h0
        have h1' : ρ (.tmp 36) = .int .i64 c.ins := h1
        have hlt : c.ins < 8 := by omega
        refine ⟨.int .i64 c.ins, ?_, rfl⟩
        go_simp) ?_
      refine rs_pure (hO _ _) (.inl (Nat.ne_of_beq_eq_false rfl)) (fun _ v => ∃ mm : Nat, v = .int .i64 mm ∧ mm ≤ 5) (fun _ _ _ h _ => h) (fun ρ w hK => by
        obtain ⟨h0, h1, -⟩ := hK
        have h0' : ρ (.const (.int .i64 0)) = .int .i64 0 := h0
        have h1' : ρ (.tmp 37) = .int .i64 c.ins := h1
        by_cases hc0 : 0 < c.ins
        · obtain ⟨mm, hmm⟩ := Int.eq_ofNat_of_zero_le (show 0 ≤ c.ins by omega)
          refine ⟨.int .i64 c.ins, ?_, mm, by rw [hmm], by omega⟩
          go_simp
          try (intro hq; simp [hq])
        · refine ⟨.int .i64 0, ?_, 0, rfl, by omega⟩
          go_simp) ?_
      refine rs_drawcall (hO _ _) (.inl (Nat.ne_of_beq_eq_false rfl)) (fun w v => ∃ xss, SSIn bools (From wr.heap.size) w v xss ∧ xss.length ≤ 11) (fun v w1 w2 h ho => by
        obtain ⟨xss, h1, h2⟩ := h
        refine ⟨xss, h1.only ho (fun g hg he => ?_), h2⟩
        have h3 : wr.heap.size ≤ g := hg
        have h4 := blk_lt HXr.out
        have h5 := Hr.out.lt
        rcases he with e | e <;> omega) 92 _ _ rfl (w.heap.size + 1) (10000 + 3000 * c.next.length) rfl (fun k ρ w' hk hr ho hK => by
        obtain ⟨h0, h1, h2, -⟩ := hK
        have h0' : ρ (.func 92) = .func (.func 92) #[] #[] := h0
        have h1' : ρ (.tmp 34) = .pointer (some ⟨w.heap.size + 1, 0, none⟩) := h1
        obtain ⟨mm, h2', hmm⟩ : ∃ mm : Nat, ρ (.tmp 38) = .int .i64 mm ∧ mm ≤ 5 := h2
        have hk' : k < 9 := hk
        have hwr : wr.heap.size ≤ w'.heap.size := ho.size
        refine ⟨#[.pointer (some ⟨w.heap.size + 1, 0, none⟩), .int .i64 (mm : Nat)], ?_, ?_⟩
        · go_simp
        · refine (l20Rows_any _ _ mm w' hr (by omega) (by omega)).mono ?_
          rintro e w4 ⟨v4, xss, rfl, hl4, hx4, hs4, hr4, hg4⟩
          exact ⟨v4, rfl, ⟨xss, hs4.mono (fun g hg => Nat.le_trans hwr hg), hl4⟩, hr4.more (by omega), hg4⟩) ?_
      refine rs_doR rfl rfl (w.heap.size + 1) (10000 + 3000 * c.next.length) rfl (fun ρ w' ho h0 hK => by
        obtain ⟨h1, h2, -⟩ := hK
        have h1' : ρ (.tmp 2) = .pointer (some ⟨w.heap.size, 0, none⟩) := h1
        have h2' : ρ (.tmp 33) = .agg #[.int .i64 c.ins, .slice An c.next.length cn, .slice Ag c.gates.length cg, .slice Ao c.outs.length co] := h2
        have h0' : w'.heap[w.heap.size]? = some (.cells #[.int .i64 0, .slice none 0 0, .slice none 0 0, .slice none 0 0] 26 (0, 0)) := h0
        have o0 := blk_cell h0' 0
        have o1 := blk_cell h0' 1
        have o2 := blk_cell h0' 2
        have o3 := blk_cell h0' 3
        have b0 := blk_free h0' 0
        have b1 := blk_free h0' 1
        have b2 := blk_free h0' 2
        have b3 := blk_free h0' 3
        have zr := blk_lt h0'
        simp at o0 o1 o2 o3
        refine ⟨setR w' w.heap.size (.int .i64 c.ins) (.slice An c.next.length cn) (.slice Ag c.gates.length cg) (.slice Ao c.outs.length co), ?_, setR_box h0', setR_only (.inr rfl), fun Q hQ => rd_only_k hQ (zero_no h0') (by omega) (setR_only rfl)⟩
        unfold setR
        go_simp) ?_
      refine rs_same (hO _ _) (.inl (Nat.ne_of_beq_eq_false rfl)) 39 6 (.inr rfl) rfl (fun w v => ∃ xss, SSIn bools (From wr.heap.size) w v xss ∧ xss.length ≤ 11) rfl ?_
      intro f w9 k9 hk9 hI9 ht9 hcp9
      have E0 : f 0 = _ := ht9 0 (Nat.le_of_ble_eq_true rfl)
      have E1 : f 1 = _ := ht9 1 (Nat.le_of_ble_eq_true rfl)
      have E2 : f 2 = _ := ht9 2 (Nat.le_of_ble_eq_true rfl)
      have E3 : f 3 = _ := ht9 3 (Nat.le_of_ble_eq_true rfl)
      have E4 : f 4 = _ := ht9 4 (Nat.le_of_ble_eq_true rfl)
      have hT6 : (fun w v => ∃ xss, SSIn bools (From wr.heap.size) w v xss ∧ xss.length ≤ 11) w9 (f 6) := ht9 6 (Nat.le_of_ble_eq_true rfl)
      obtain ⟨yss, hy, hyl⟩ := hT6
      have C8 : f 8 = f 6 := (hcp9 8 _ 39 6 rfl rfl rfl rfl).2
      have HE9 : Only (fun g => g = w.heap.size + 1 ∨ g = w.heap.size) wr w9 := hI9.2.1
      have HR9 : w9.heap[w.heap.size]? = some (.cells #[.int .i64 c.ins, .slice An c.next.length cn, .slice Ag c.gates.length cg, .slice Ao c.outs.length co] 26 (0, 0)) := hI9.2.2
      simp only [putAll, E0, E1, E2, E3, E4, C8, Nat.zero_add, Nat.reduceAdd, Act.put, List.setIfInBounds_toArray, List.set_cons_succ, List.set_cons_zero]
      clear E0 E1 E2 E3 E4 hI9 ht9 hcp9 hk9 hO
      clear C8
      generalize f 5 = r5, f 7 = r7 at *
      generalize f 6 = v6 at *
      obtain ⟨A6, c6, e6, -⟩ := hy.at.shape
      subst e6
      have YF := Lib.hid hy.at
      have o0 := blk_cell HR9 0
      have o1 := blk_cell HR9 1
      have o2 := blk_cell HR9 2
      have o3 := blk_cell HR9 3
      have zz := blk_lt HR9
      simp at o0 o1 o2 o3
      have HOF := Lib.hid ((HOC.out.only HE9 (fun g hg => by omega)).mono (show w.heap.size ≤ w1.heap.size by omega))
      have HBr := Lib.hid (Only.below Hb3.out HE.out Hb3.out.size (fun g hg => by
        rcases hg with h | h
        · omega
        · have h1 := (Hn.out.lt _ h).1
          omega))
      have HBF := Lib.hid (Only.below HBr.out HE9 HBr.out.size (fun g hg => by rcases hg with h | h <;> omega))
      clear HE9 HR9 HXr Hr q0 q1 q2 q3 hy HOC HBr Hn HE
      go_wp2_with fail
      refine bodyPost_ret (v := .tuple #[.agg #[.int .i64 c.ins, .slice An c.next.length cn, .slice Ag c.gates.length cg, .slice Ao c.outs.length co], .slice A6 yss.length c6]) (by simp [results, Try.results44, go_sem, o0, o1, o2, o3]) rfl ⟨_, c', _, yss, rfl, HOF.out, YF.out, hyl, HBF.out⟩
end Hv
end Go.Proofs.Ytopimdakpnnbhaa

namespace Go.Proofs.Ytopimdakpnnbhaa
open Go.RowKit
set_option maxRecDepth 100000
/-! Resets, by the program. -/
namespace Cir
def tstep (d : Ci) (st : List Nat) (r : List Bool) : List Nat := tnext d (tvals d st (terns r))
def tst (d : Ci) (rss : List (List Bool)) : List Nat := rss.foldl (tstep d) (List.replicate d.next.length 2)
def resets (c : Cz) (rss : List (List Bool)) : Bool := rowsOk c rss && !memB (tst (nat c) rss) 2
theorem tst_snoc {d : Ci} {rss : List (List Bool)} {k : Nat} {r : List Bool} (h : rss[k]? = some r) : tst d (rss.take (k + 1)) = tstep d (tst d (rss.take k)) r := by
  unfold tst
  rw [List.take_add_one, h, List.foldl_append]
  rfl
/-- States of ternary values. -/
def Tst (d : Ci) (st : List Nat) : Prop := st.length = d.next.length ∧ ∀ x ∈ st, x ≤ 2
theorem Tst.start (d : Ci) : Tst d (List.replicate d.next.length 2) := ⟨by simp, fun x hx => by rw [(List.mem_replicate.1 hx).2]; omega⟩
theorem Tst.step {d : Ci} {st : List Nat} (h : Tst d st) (r : List Bool) : Tst d (tstep d st r) :=
  ⟨by unfold tstep tnext; simp, fun x hx => by
    unfold tstep tnext at hx
    obtain ⟨l, _, rfl⟩ := List.mem_map.1 hx
    exact tlit_le (tvals_le d h.2 (terns_le r)) l⟩
theorem tst_tst (d : Ci) : ∀ (rss : List (List Bool)) {st : List Nat}, Tst d st → Tst d (rss.foldl (tstep d) st)
  | [], _, h => h
  | r :: rss, _, h => tst_tst d rss (h.step r)
end Cir
theorem contains_any (v : Value) (xs : List Nat) (n : Nat) (w : World) (h : NatsAt w v xs) (hn : n ≤ 1000000) :
    Calls Try.prog 94 #[v, .int .i64 n] w fun e w' => e = .returned (.bool (Cir.memB xs n)) ∧ w = w' := by
  have HI := Lib.hid (index_any v xs n w h hn)
  obtain ⟨A, c, rfl, -⟩ := h.shape
  by_cases hm : n ∈ xs
  · obtain ⟨i, e1, -⟩ := idxOf_mem hm
    have HR : Hid (Cir.memB xs n = true) := Lib.hid (Cir.memB_iff.2 hm)
    rw [e1] at HI
    rw [HR.out]
    clear h e1
    go_enter Try.func94, Try.ntmps94
    go_wp2_with fail
    refine HI.out.mono ?_
    rintro e w' ⟨rfl, rfl⟩
    go_wp2_with fail
    go_ret
    exact ⟨rfl, rfl⟩
  · have e1 := idxOf_not hm
    have HR : Hid (Cir.memB xs n = false) := Lib.hid (Bool.eq_false_iff.2 (fun hb => hm (Cir.memB_iff.1 hb)))
    rw [e1] at HI
    rw [HR.out]
    clear h e1
    go_enter Try.func94, Try.ntmps94
    go_wp2_with fail
    refine HI.out.mono ?_
    rintro e w' ⟨rfl, rfl⟩
    go_wp2_with fail
    go_ret
    exact ⟨rfl, rfl⟩
set_option maxHeartbeats 8000000 in
theorem implResets_ok (v vr : Value) (d : Ci) (rss : List (List Bool)) (w : World) (h : CircAt w v (Cir.toCz d)) (hr : SSAt bools w vr rss) (hd : Cir.Ok d) (hok : Cir.rowsOk (Cir.toCz d) rss = true) :
    Calls Try.prog 45 #[v, vr] w fun e w' => e = .returned (.bool (!Cir.memB (Cir.tst d rss) 2)) ∧ Below w.heap.size w w' := by
  have l1 := hd.ins
  have l2 := hd.nexts
  have l3 := hd.gatess
  have HC := Lib.hid h
  obtain ⟨vn, vg, vo, rfl, r1, r2, r3⟩ := h
  obtain ⟨An, cn, rfl, hcn, hcmn⟩ := NatsAt.shape (xs := d.next) r1
  obtain ⟨Ar, cr, rfl, hcr, hcrm⟩ := hr.shape
  unfold maxLen at hcrm hcmn
  have hins : (Cir.toCz d).ins = (d.ins : Int) := rfl
  have HP := Lib.hid (PCirc.boxed (c := Cir.toCz d) 26 r1 r2 r3)
  rw [hins] at HC HP ⊢
  have B0 := Lib.hid (bel_new w (.cells #[.int .i64 d.ins, .slice An d.next.length cn, vg, vo] 26))
  have hsz : (w.alloc (.cells #[.int .i64 d.ins, .slice An d.next.length cn, vg, vo] 26)).heap.size = w.heap.size + 1 := by simp
  have PC := Lib.hid (PCells.boxed w d.ins (.slice An d.next.length cn) vg vo 26)
  have HR := Lib.hid (hr.below B0.out)
  have HRow : Hid (∀ (k : Nat) (x : List Bool), rss[k]? = some x → x.length = d.ins) := Lib.hid fun k x hx => by
    unfold Cir.rowsOk at hok
    simp only [Bool.and_eq_true] at hok
    have := List.all_eq_true.1 hok.2.2 x (List.mem_of_getElem? hx)
    unfold Cir.rowOk at this
    rw [decide_eq_true_eq, hins] at this
    omega
  have hlen : rss.length ≤ 40 := by unfold Cir.rowsOk at hok; simp only [Bool.and_eq_true, decide_eq_true_eq] at hok; exact hok.2.1
  have HF := Lib.hid (rowsFit_any w.heap.size _ _ rss _ HP.out HR.out)
  rw [hok] at HF
  have HN := Lib.hid (show NatsAt w (.slice An d.next.length cn) d.next from r1)
  have Hd := Lib.hid hd
  have hmk := run_make_row' (P := Try.prog) 23 3 (.int .i64 0) 8 Try.underlying23 info_int rfl .i64 .i64 d.next.length (by omega) (by omega)
  clear r1 r2 r3 hd hins hr hok
  obtain ⟨z, p0, p1, p2, p3⟩ := PC.out
  go_enter Try.func45, Try.ntmps45
  go_wp2_with fail
  generalize w.alloc (.cells #[.int .i64 d.ins, .slice An d.next.length cn, vg, vo] 26) = W at *
  refine HF.out.mono ?_
  rintro e w1 ⟨rfl, hb1⟩
  have B1 := Lib.hid (B0.out.trans (hb1.mono B0.out.size))
  have HP1 := Lib.hid (HP.out.below hb1)
  have HR1 := Lib.hid (HR.out.below hb1)
  have PC1 := Lib.hid (PC.out.below hb1)
  have z1 := hb1.size
  clear hb1 p0 p1 p2 p3 z HF HP HR PC
  obtain ⟨z, p0, p1, p2, p3⟩ := PC1.out
  have hown0 : Hid ((w1.alloc (.cells (madeCells #[Value.int .i64 0] d.next.length) 3)).ownsRow w1.heap.size 3 1 (.slice (some ⟨w1.heap.size, 0, none⟩) d.next.length d.next.length) d.next.length ([] ++ List.replicate (d.next.length - 0) (Value.int .i64 0))) := Lib.hid (by
    have := World.ownsRow_lit (base := w1.heap.size) (e := 3) (size := 1) w1 (madeCells #[Value.int .i64 0] d.next.length) d.next.length (Nat.le_refl _) (by unfold maxLen; omega) (by simp [madeCells])
    rw [made_one] at this ⊢
    simpa using this)
  have hb2 := bel_new w1 (.cells (madeCells #[Value.int .i64 0] d.next.length) 3)
  have B2 := Lib.hid hb2
  go_wp2_with fail
  clear hmk
  generalize w1.alloc (.cells (madeCells #[Value.int .i64 0] d.next.length) 3) = w2 at *
  clear hb2
  go_loopw [22] (fun i wr => ∃ k : Nat, k ≤ d.next.length ∧ i = .int .i64 k ∧ Hid (wr.ownsRow w1.heap.size 3 1 (.slice (some ⟨w1.heap.size, 0, none⟩) d.next.length d.next.length) d.next.length (List.replicate k (Value.int .i64 2) ++ List.replicate (d.next.length - k) (Value.int .i64 0))) ∧ Below w1.heap.size w1 wr) (fun i _ => d.next.length - (intOf i).toNat)
  case atStart => exact ⟨0, Nat.zero_le _, rfl, hown0, B2.out⟩
  case round =>
    obtain ⟨k, hk, rfl, Ho, hb⟩ := hrel
    clear hown0 B2
    by_cases hlt : k < d.next.length
    · have Hb := Lib.hid hb
      have hl := Ho.out.1
      obtain ⟨u0, _, hd0, hf0⟩ := own_slot Ho.out (j := k) (by omega)
      have HS : Hid ((List.replicate k (Value.int .i64 2) ++ List.replicate (d.next.length - k) (Value.int .i64 0)).set k (.int .i64 2) = List.replicate (k + 1) (Value.int .i64 2) ++ List.replicate (d.next.length - (k + 1)) (.int .i64 0)) := Lib.hid (by
        rw [set_mid_at _ _ _ _ _ (by simp) (by omega), show d.next.length - k - 1 = d.next.length - (k + 1) from by omega]
        congr 1
        rw [List.replicate_succ'])
      have Hst := Lib.hid (Ho.out.stored k (.int .i64 2))
      clear hb hl
      go_wp2_with fail
      go_roundw
      case rel => exact ⟨k + 1, by omega, by go_num, Lib.hid (by rw [← HS.out]; exact Hst.out.1), Hb.out.grown Hst.out.2 Hb.out.size (fun q hq => by have := Option.some.inj hq; omega)⟩
      case measure => simp [intOf] <;> omega
    · obtain rfl : k = d.next.length := by omega
      have Ho2 : Hid (wr.ownsRow w1.heap.size 3 1 (.slice (some ⟨w1.heap.size, 0, none⟩) d.next.length d.next.length) d.next.length (nints (Cir.tst d (rss.take 0)))) := Lib.hid (by
        have := Ho.out
        rw [Nat.sub_self, List.replicate_zero, List.append_nil] at this
        have e : nints (Cir.tst d (rss.take 0)) = List.replicate d.next.length (Value.int .i64 2) := by
          unfold Cir.tst nints ints nats
          simp
        rw [e]
        exact this)
      have HT0 : Hid (Cir.Tst d (Cir.tst d (rss.take 0))) := Lib.hid (Cir.Tst.start d)
      have Hb := Lib.hid hb
      clear Ho hb
      go_wp2_with fail
      go_loopw [5, 31] (fun v i wr => ∃ (vv : Value) (k : Nat), vv = v ∧ k ≤ rss.length ∧ i = .int .i64 k ∧ Hid (Cir.Tst d (Cir.tst d (rss.take k))) ∧ Hid (wr.ownsRow w1.heap.size 3 1 v d.next.length (nints (Cir.tst d (rss.take k)))) ∧ Below w1.heap.size w1 wr) (fun _ i _ => rss.length - (intOf i).toNat)
      case atStart => exact ⟨_, 0, rfl, Nat.zero_le _, rfl, HT0, Ho2, Hb.out⟩
      case round =>
        obtain ⟨vv, k, hvv, hk, rfl, HT, Ho, hb⟩ := hrel
        subst hvv
        clear Ho2 Hb HT0
        have Hb := Lib.hid hb
        have hzb := hb.size
        by_cases hlt : k < rss.length
        · obtain ⟨x, hx⟩ := at_some hlt
          obtain ⟨b, o, Bx, mx, rfl, hbl, hc1, hm1, hm2, hrx⟩ := ss_open HR1.out hb hx
          have hxl := HRow.out k x hx
          have Hxl := Lib.hid hxl
          have HTs := Lib.hid (HT.out.step x)
          have HSn := Lib.hid (Cir.tst_snoc (d := d) hx)
          have HTo := Lib.hid (ternaryOf_any (.slice Bx x.length mx) x wr hrx (by omega))
          have Hrx := Lib.hid hrx
          obtain ⟨Av, cv, rfl, hcv, hcvm⟩ : ∃ A c, vv = .slice A d.next.length c ∧ d.next.length ≤ c ∧ c ≤ maxLen := by
            obtain ⟨A, c, hv, h1, h2⟩ := (Row.of_own Ho.out).shape
            exact ⟨A, c, hv, h1, h2⟩
          unfold maxLen at hcvm
          clear hb hx hxl hrx
          generalize Cir.tst d (rss.take k) = st at *
          go_wp2_with fail
          refine HTo.out.mono ?_
          rintro e w3 ⟨v3, rfl, hO3, hb3⟩
          have Hb3 := Lib.hid (Hb.out.trans (hb3.mono hzb))
          have hz3 := Nat.le_trans hzb hb3.size
          have Ho3 := Lib.hid (own_below Ho.out hb3)
          have HI3 := Lib.hid (nats_own (xs := Cir.terns x) (v := v3) hO3 (by rw [nats_length]))
          clear hb3 hO3 HTo
          go_wp2_with fail
          refine (evalTernary_any w.heap.size d _ _ st (Cir.terns x) _ (HP1.out.below Hb3.out) Hd.out (nats_own Ho3.out HT.out.1) HI3.out (by rw [Cir.terns_length]; exact Hxl.out) HT.out.1 HT.out.2 (Cir.terns_le x)).mono ?_
          rintro e w4 ⟨v4, rfl, hO4, hb4⟩
          have Hb4 := Lib.hid (Hb3.out.trans (hb4.mono hz3))
          have hz4 := Nat.le_trans hz3 hb4.size
          have HV4 := Lib.hid (own_nats (v := v4) (xs := Cir.tvals d st (Cir.terns x)) (by have := hO4; rwa [nats_length] at this))
          have HVl : Hid ((Cir.tvals d st (Cir.terns x)).length = Cir.nvars d) := Lib.hid (Cir.tvals_length d (by rw [Cir.terns_length]; exact Hxl.out) HT.out.1)
          have HV2 := Lib.hid (Cir.tvals_le d HT.out.2 (Cir.terns_le x))
          have HTe : Hid (Cir.tstep d st x = d.next.map (Cir.tlit (Cir.tvals d st (Cir.terns x)))) := Lib.hid rfl
          clear hb4 hO4 Ho3 HI3
          generalize Cir.tvals d st (Cir.terns x) = V at *
          have hmk := run_make_row' (P := Try.prog) 23 3 (.int .i64 0) 8 Try.underlying23 info_int rfl .i64 .i64 d.next.length (by omega) (by omega)
          have hown5 : Hid ((w4.alloc (.cells (madeCells #[Value.int .i64 0] d.next.length) 3)).ownsRow w1.heap.size 3 1 (.slice (some ⟨w4.heap.size, 0, none⟩) d.next.length d.next.length) d.next.length (nints ((d.next.take 0).map (Cir.tlit V)) ++ List.replicate (d.next.length - 0) (Value.int .i64 0))) := Lib.hid (by
            have := World.ownsRow_lit (base := w1.heap.size) (e := 3) (size := 1) w4 (madeCells #[Value.int .i64 0] d.next.length) d.next.length hz4 (by unfold maxLen; omega) (by simp [madeCells])
            rw [made_one] at this ⊢
            simpa [nints, ints, nats] using this)
          have hb5 := bel_new w4 (.cells (madeCells #[Value.int .i64 0] d.next.length) 3)
          have Hb5 := Lib.hid (Hb4.out.trans (hb5.mono hz4))
          have H45 := Lib.hid hb5
          have PCq := Lib.hid (PC1.out.below Hb5.out)
          have hs5 : (w4.alloc (.cells (madeCells #[Value.int .i64 0] d.next.length) 3)).heap.size = w4.heap.size + 1 := by simp
          have PC4 := PC1.out.below Hb4.out
          obtain ⟨y, y0, y1, y2, y3⟩ := PC4
          obtain ⟨x0, x1, x2, x3, x4⟩ := PCq.out
          go_wp2_with fail
          clear hmk
          generalize w4.alloc (.cells (madeCells #[Value.int .i64 0] d.next.length) 3) = w5 at *
          clear hb5 y y0 y1 y2 y3 x0 x1 x2 x3 x4
          go_loopw [45] (fun i wr => ∃ j : Nat, j ≤ d.next.length ∧ i = .int .i64 j ∧ Hid (wr.ownsRow w1.heap.size 3 1 (.slice (some ⟨w4.heap.size, 0, none⟩) d.next.length d.next.length) d.next.length (nints ((d.next.take j).map (Cir.tlit V)) ++ List.replicate (d.next.length - j) (Value.int .i64 0))) ∧ w4.heap.size < wr.heap.size ∧ Below w4.heap.size w4 wr) (fun i _ => d.next.length - (intOf i).toNat)
          case atStart => exact ⟨0, Nat.zero_le _, rfl, hown5, by omega, H45.out⟩
          case round =>
            obtain ⟨j, hj, rfl, Ho, hz6, hb⟩ := hrel
            have Hbj := Lib.hid (Hb4.out.trans (hb.mono hz4))
            have HVj := Lib.hid (HV4.out.below hb)
            have Hb := Lib.hid hb
            clear hown5 hb
            by_cases hlj : j < d.next.length
            · obtain ⟨b', o', l, rfl, hbl', hx0, hs0⟩ := nats_cell (nats_row HN.out) rfl hlj
              have hl2 := Hd.out.next l (List.mem_of_getElem? hx0.out)
              have hs1 := ((B1.out.trans (Hbj.out.mono B1.out.size)).cell (p := ⟨b', o' + j, none⟩) hbl').trans hs0
              have hnv : Cir.nvars d ≤ 22 := by unfold Cir.nvars Cir.nfirst; omega
              have hlo := Ho.out.1
              obtain ⟨u0, _, hd0, hf0⟩ := own_slot Ho.out (j := j) (by omega)
              have hmt : (List.map (Cir.tlit V) (List.take j d.next)).length = j := by rw [List.length_map, List.length_take]; omega
              have HS : Hid ((nints ((d.next.take j).map (Cir.tlit V)) ++ List.replicate (d.next.length - j) (Value.int .i64 0)).set j (Value.int .i64 (Cir.tlit V l : Nat)) = nints ((d.next.take (j + 1)).map (Cir.tlit V)) ++ List.replicate (d.next.length - (j + 1)) (Value.int .i64 0)) := Lib.hid (by
                rw [set_mid_at _ _ _ _ _ (by rw [nints_length]; exact hmt.symm) (by omega), show d.next.length - j - 1 = d.next.length - (j + 1) from by omega, take_snoc hx0.out, List.map_append]
                congr 1
                rw [List.map_cons, List.map_nil, nints_snoc])
              have Hst := Lib.hid (Ho.out.stored j (Value.int .i64 (Cir.tlit V l : Nat)))
              have hpos : 1 ≤ d.next.length := by omega
              clear hmt hlo
              go_wp2_with fail
              refine (ternaryLit_any _ V l _ HVj.out (by rw [HVl.out]; exact hl2) (by omega) HV2.out).mono ?_
              rintro e w' ⟨rfl, rfl⟩
              go_wp2_with fail
              go_roundw
              case rel => exact ⟨j + 1, by omega, by go_num, Lib.hid (by rw [← HS.out]; exact Hst.out.1), Nat.lt_of_lt_of_le hz6 Hst.out.2.size, Hb.out.grown Hst.out.2 (Nat.le_of_lt hz6) (fun q hq => by have := Option.some.inj hq; omega)⟩
              case measure => simp [intOf] <;> omega
            · obtain rfl : j = d.next.length := by omega
              have HF : Hid (wr.ownsRow w1.heap.size 3 1 (.slice (some ⟨w4.heap.size, 0, none⟩) d.next.length d.next.length) d.next.length (nints (Cir.tst d (rss.take (k + 1))))) := Lib.hid (by
                have := Ho.out
                rw [Nat.sub_self, List.replicate_zero, List.append_nil, List.take_length] at this
                rw [HSn.out, HTe.out]
                exact this)
              have HT2 : Hid (Cir.Tst d (Cir.tst d (rss.take (k + 1)))) := Lib.hid (by rw [HSn.out]; exact HTs.out)
              clear Ho
              go_wp2_with fail
              go_roundw
              case rel => exact ⟨_, k + 1, rfl, by omega, by go_num, HT2, HF, Hbj.out⟩
              case measure => simp [intOf] <;> omega
        · obtain rfl : k = rss.length := by omega
          have Hfin := Lib.hid (own_nats (v := vv) (xs := Cir.tst d rss) (by have := Ho.out; rw [List.take_length] at this; have h := HT.out.1; rw [List.take_length] at h; rw [h]; exact this))
          obtain ⟨Av, cv, rfl, hcv, hcvm⟩ := NatsAt.shape Hfin.out
          unfold maxLen at hcvm
          clear hb
          go_wp2_with fail
          refine (contains_any _ _ 2 _ Hfin.out (by omega)).mono ?_
          rintro e w' ⟨rfl, rfl⟩
          go_wp2_with fail
          go_ret
          exact ⟨rfl, B1.out.trans (Hb.out.mono B1.out.size)⟩
end Go.Proofs.Ytopimdakpnnbhaa

namespace Go.Proofs.Ytopimdakpnnbhaa
open Go.RowKit
set_option maxRecDepth 100000
namespace Cir
/-! Initializing sequences, plainly. -/
theorem tvals_len {c : Ci} {st : List Nat} {r : List Bool} (h1 : st.length = c.next.length) (h2 : r.length = c.ins) : (tvals c st (terns r)).length = nvars c :=
  tvals_length c (by rw [terns_length]; exact h2) h1
theorem terns_get {r : List Bool} {i t : Nat} {b : Bool} (h1 : (terns r)[i]? = some t) (h2 : r[i]? = some b) : t = b.toNat := by
  unfold terns at h1
  rw [List.getElem?_map, h2] at h1
  exact (Option.some.inj h1).symm
/-- One cycle keeps what is known right. -/
theorem rt_step {c : Ci} (hc : Ok c) {st : List Nat} {u r : List Bool} (h : RtAll st u) (h1 : st.length = c.next.length) (h2 : r.length = c.ins) : RtAll (tstep c st r) (lits (vals c u r) c.next) := by
  have hr : RtAll (terns r) r := ⟨terns_length r, fun i t b h1 h2 => .inr (terns_get h1 h2)⟩
  have hv := rt_vals c hc hr h (by rw [terns_length]; exact h2) h1
  refine ⟨by unfold tstep tnext lits; rw [List.length_map, List.length_map], fun i t b ht hb => ?_⟩
  unfold tstep tnext at ht
  unfold lits at hb
  rw [List.getElem?_map] at ht hb
  cases hl : c.next[i]? with
  | none => rw [hl] at ht; cases ht
  | some l =>
    rw [hl] at ht hb
    have e1 := (Option.some.inj ht).symm
    have e2 := (Option.some.inj hb).symm
    subst e1 e2
    refine rt_lit hv.1 hv.2 l ?_
    have := hc.next l (List.mem_of_getElem? hl)
    rw [tvals_len h1 h2]
    omega
theorem tstep_length (c : Ci) (st : List Nat) (r : List Bool) : (tstep c st r).length = c.next.length := by unfold tstep tnext; rw [List.length_map]
theorem rt_run {c : Ci} (hc : Ok c) : ∀ (rss : List (List Bool)) (st : List Nat) (u : List Bool), RtAll st u → st.length = c.next.length → (∀ r ∈ rss, r.length = c.ins) → RtAll (rss.foldl (tstep c) st) (runL c u rss)
  | [], _, _, h, _, _ => h
  | r :: rss, st, u, h, h1, hl => by
    rw [List.foldl_cons, runL]
    exact rt_run hc rss _ _ (rt_step hc h h1 (hl r (by simp))) (tstep_length c st r) fun q hq => hl q (List.mem_cons_of_mem _ hq)
theorem rt_unknown {n : Nat} {u : List Bool} (h : u.length = n) : RtAll (List.replicate n 2) u :=
  ⟨by simp [h], fun i t b h1 _ => by
    rw [List.getElem?_replicate] at h1
    split at h1
    · exact .inl (Option.some.inj h1).symm
    · cases h1⟩
/-- Where nothing is unknown the bits are determined. -/
theorem rt_known {v : List Nat} {u u' : List Bool} (h : RtAll v u) (h' : RtAll v u') (hn : 2 ∉ v) : u = u' := by
  apply List.ext_getElem?
  intro i
  rcases Nat.lt_or_ge i v.length with hi | hi
  · have e1 := List.getElem?_eq_getElem hi
    have e2 : u[i]? = some (u[i]'(by rw [← h.1]; exact hi)) := List.getElem?_eq_getElem _
    have e3 : u'[i]? = some (u'[i]'(by rw [← h'.1]; exact hi)) := List.getElem?_eq_getElem _
    have hne : v[i] ≠ 2 := fun e => hn (e ▸ List.getElem_mem hi)
    have a1 := h.2 i _ _ e1 e2
    have a2 := h'.2 i _ _ e1 e3
    rw [e2, e3]
    generalize u[i]'(by rw [← h.1]; exact hi) = x at a1
    generalize u'[i]'(by rw [← h'.1]; exact hi) = y at a2
    unfold Rt at a1 a2
    rcases a1 with a1 | a1
    · exact absurd a1 hne
    · rcases a2 with a2 | a2
      · exact absurd a2 hne
      · rw [a1] at a2
        cases x <;> cases y <;> simp at a2 <;> rfl
  · rw [List.getElem?_eq_none (by rw [← h.1]; exact hi), List.getElem?_eq_none (by rw [← h'.1]; exact hi)]
/-- All states are led to the same one. -/
theorem resets_same {c : Ci} (hc : Ok c) {rss : List (List Bool)} (hl : ∀ r ∈ rss, r.length = c.ins) (h : memB (tst c rss) 2 = false) {u u' : List Bool} (h1 : u.length = c.next.length) (h2 : u'.length = c.next.length) : runL c u rss = runL c u' rss := by
  have hr : (List.replicate c.next.length 2).length = c.next.length := by simp
  refine rt_known (rt_run hc rss _ _ (rt_unknown h1) hr hl) (rt_run hc rss _ _ (rt_unknown h2) hr hl) fun hm => ?_
  have := memB_iff.2 (show 2 ∈ tst c rss from hm)
  rw [h] at this; cases this
/-! ### The states as numbers -/
theorem bits_getD (x n i : Nat) : (bits x n).getD i false = (decide (i < n) && x.testBit i) := by
  unfold bits
  rw [List.getD_eq_getElem?_getD, List.getElem?_map]
  by_cases h : i < n
  · rw [List.getElem?_range h]; simp [h]
  · rw [List.getElem?_eq_none (by simp; omega)]; simp [h]
theorem num_bits {x n : Nat} (h : x < 2 ^ n) : num (bits x n) = x := by
  apply Nat.eq_of_testBit_eq
  intro i
  rw [num_bit, bits_getD]
  by_cases hi : i < n
  · simp [hi]
  · have : x.testBit i = false := Nat.testBit_lt_two_pow (Nat.lt_of_lt_of_le h (Nat.pow_le_pow_right (by decide) (by omega)))
    simp [hi, this]
theorem runN_lt (c : Ci) : ∀ (xs : List Nat) (s : Nat), s < 2 ^ c.next.length → runN c s xs < 2 ^ c.next.length
  | [], _, h => h
  | x :: xs, s, _ => runN_lt c xs _ (nextOf_lt c s x)
theorem rows_num {n : Nat} : ∀ {rss : List (List Bool)}, (∀ r ∈ rss, r.length = n) → rowsN n (rss.map num) = rss
  | [], _ => rfl
  | r :: rss, h => by
    have := rows_num fun q hq => h q (List.mem_cons_of_mem _ hq)
    unfold rowsN at this ⊢
    rw [List.map_cons, List.map_cons, this, bits_numL (h r (by simp))]
theorem run_mem {c : Ci} (hc : Ok c) {rss : List (List Bool)} (hl : ∀ r ∈ rss, r.length = c.ins) : num (runL c (bits 0 c.next.length) rss) ∈ reach c := by
  rw [← rows_num hl, runL_rows, num_bits (runN_lt c _ 0 (Nat.pow_pos (by decide)))]
  refine run_reach hc _ 0 (reach_zero c) fun x hx => ?_
  obtain ⟨r, hr, rfl⟩ := List.mem_map.1 hx
  rw [← hl r hr]
  exact num_lt r
theorem resets_parts {c : Ci} {rss : List (List Bool)} (h : resets (toCz c) rss = true) : rowsOk (toCz c) rss = true ∧ memB (tst c rss) 2 = false := by
  unfold resets at h
  rw [Bool.and_eq_true, nat_toCz] at h
  exact ⟨h.1, by simpa using h.2⟩
end Cir
theorem lawContains_any (v : Value) (xs : List Nat) (n : Nat) (w : World) (h : NatsAt w v xs) (hn : n ≤ 1000000) :
    Calls Try.prog 60 #[v, .int .i64 n] w fun e w' => e = .returned (.bool (Cir.memB xs n)) ∧ w = w' := by
  obtain ⟨A, c, rfl, hc, hcm⟩ := h.shape
  unfold maxLen at hcm
  have H := Lib.hid h
  have h0 : Hid (Cir.memB xs n = (xs.drop 0).contains n) := Lib.hid rfl
  generalize Cir.memB xs n = res at h0 ⊢
  clear h
  go_enter Try.func60, Try.ntmps60
  go_wp2_with fail
  go_loop [5] (fun i => ∃ k : Nat, k ≤ xs.length ∧ i = .int .i64 k ∧ Hid (res = (xs.drop k).contains n)) (fun i => xs.length - (intOf i).toNat)
  case atStart => exact ⟨0, Nat.zero_le _, rfl, h0⟩
  case round =>
    obtain ⟨k, hk, rfl, hres⟩ := hrel
    clear h0
    by_cases hlt : k < xs.length
    · obtain ⟨b, o, x, rfl, hbl, hx, hs1⟩ := nats_cell (nats_row H.out) rfl hlt
      have Hstep : Hid ((xs.drop k).contains n = (n == x || (xs.drop (k + 1)).contains n)) := Lib.hid (by
        obtain ⟨hk', e⟩ := List.getElem?_eq_some_iff.1 hx.out
        rw [List.drop_eq_getElem_cons hk', e, List.contains_cons])
      by_cases hxn : x = n
      · obtain rfl : res = true := by rw [hres.out, Hstep.out, hxn]; simp
        have hq : ((x : Int) == (n : Int)) = true := by simp [hxn]
        clear hxn
        go_wp2_with fail
        go_ret
        exact ⟨rfl, rfl⟩
      · have Hn : Hid (res = (xs.drop (k + 1)).contains n) := Lib.hid (by rw [hres.out, Hstep.out, show (n == x) = false from by simpa using fun e => hxn e.symm]; rfl)
        have hq : ((x : Int) == (n : Int)) = false := by simp; omega
        clear hxn
        go_wp2_with fail
        go_round
        case rel => exact ⟨k + 1, by omega, by go_num, Hn⟩
        case measure => simp [intOf] <;> omega
    · obtain rfl : res = false := by rw [hres.out, List.drop_eq_nil_of_le (by omega : xs.length ≤ k)]; rfl
      go_wp2_with fail
      go_ret
      exact ⟨rfl, rfl⟩
end Go.Proofs.Ytopimdakpnnbhaa

namespace Go.Proofs.Ytopimdakpnnbhaa
namespace Cir
/-! Known values stay known: an initializing sequence may be repeated. -/
def Kn (v : List Nat) : Prop := ∀ x ∈ v, x ≤ 1
theorem kn_lit {v : List Nat} (h : Kn v) (l : Nat) : tlit v l ≤ 1 := by
  have hx : v.getD (l / 2) 0 ≤ 1 := by
    rw [List.getD_eq_getElem?_getD]
    cases hi : v[l / 2]? with
    | none => simp
    | some x => exact h x (List.mem_of_getElem? hi)
  unfold tlit
  split <;> omega
theorem kn_and {a b : Nat} (h1 : a ≤ 1) (h2 : b ≤ 1) : tand a b ≤ 1 := by
  unfold tand
  split
  · omega
  · split <;> omega
theorem kn_eval : ∀ (gs : List (Nat × Nat)) {v : List Nat}, Kn v → Kn (tevalG gs v)
  | [], v, h => h
  | g :: gs, v, h => by
    have : tevalG (g :: gs) v = tevalG gs (v ++ [tgval v g]) := rfl
    rw [this]
    refine kn_eval gs fun x hx => ?_
    rcases List.mem_append.1 hx with h1 | h1
    · exact h x h1
    · rw [List.mem_singleton.1 h1]; exact kn_and (kn_lit h _) (kn_lit h _)
theorem kn_step {c : Ci} {st : List Nat} (h : Kn st) (r : List Bool) : Kn (tstep c st r) := fun x hx => by
  unfold tstep tnext at hx
  obtain ⟨l, _, rfl⟩ := List.mem_map.1 hx
  refine kn_lit (kn_eval c.gates fun y hy => ?_) l
  rcases List.mem_cons.1 hy with rfl | hy
  · omega
  · rcases List.mem_append.1 hy with h1 | h1
    · unfold terns at h1
      obtain ⟨b, _, rfl⟩ := List.mem_map.1 h1
      cases b <;> simp
    · exact h y h1
theorem kn_run {c : Ci} : ∀ (rss : List (List Bool)) {st : List Nat}, Kn st → Kn (rss.foldl (tstep c) st)
  | [], _, h => h
  | r :: rss, st, h => by rw [List.foldl_cons]; exact kn_run rss (kn_step h r)
theorem tst_le (c : Ci) : ∀ (rss : List (List Bool)) (st : List Nat), (∀ x ∈ st, x ≤ 2) → ∀ x ∈ rss.foldl (tstep c) st, x ≤ 2
  | [], _, h => h
  | r :: rss, st, h => by
    rw [List.foldl_cons]
    refine tst_le c rss _ fun x hx => ?_
    unfold tstep tnext at hx
    obtain ⟨l, _, rfl⟩ := List.mem_map.1 hx
    exact tlit_le (tvals_le c h (terns_le r)) l
theorem resets_twice {c : Ci} {rss : List (List Bool)} (hl : ∀ r ∈ rss, r.length = c.ins) (hn : rss.length ≤ 20) (h : resets (toCz c) rss = true) : resets (toCz c) (rss ++ rss) = true := by
  obtain ⟨h1, h2⟩ := resets_parts h
  have hv : valid (toCz c) = true := by
    unfold rowsOk at h1
    rw [Bool.and_eq_true] at h1
    exact h1.1
  have hk : Kn (tst c rss) := fun x hx => by
    have h3 := tst_le c rss _ (fun y hy => by rw [List.eq_of_mem_replicate hy]; exact Nat.le_refl _) x hx
    have h4 : x ≠ 2 := fun e => by
      have := memB_iff.2 (show 2 ∈ tst c rss from e ▸ hx)
      rw [h2] at this; cases this
    omega
  have h5 : memB (tst c (rss ++ rss)) 2 = false := by
    rw [Bool.eq_false_iff]
    intro h6
    have h7 := memB_iff.1 h6
    unfold tst at h7
    rw [List.foldl_append] at h7
    have := kn_run rss hk 2 h7
    omega
  unfold resets
  rw [Bool.and_eq_true, nat_toCz, h5]
  refine ⟨?_, rfl⟩
  unfold rowsOk
  rw [hv, decide_eq_true (by rw [List.length_append]; omega), Bool.true_and, Bool.true_and, List.all_eq_true]
  intro r hr
  have hr' : r.length = c.ins := by
    rcases List.mem_append.1 hr with h | h <;> exact hl r h
  unfold rowOk
  rw [decide_eq_true_iff, hr']
  rfl
end Cir
end Go.Proofs.Ytopimdakpnnbhaa

namespace Go.Proofs.Ytopimdakpnnbhaa
open Go.RowKit
set_option maxRecDepth 100000
/-! Resets, by the reference. -/
set_option maxHeartbeats 4000000 in
theorem l27Next_any (v vv : Value) (d : Ci) (V : List Nat) (w : World) (h : CircAt w v (Cir.toCz d)) (hd : Cir.Ok d) (hV : NatsAt w vv V) (hVl : V.length = Cir.nvars d) (hV2 : ∀ x ∈ V, x ≤ 2) :
    Calls Try.prog 97 #[v, vv] w (OwnInts (nats (Cir.tnext d V)) w) := by
  have l1 := hd.ins
  have l2 := hd.nexts
  have l3 := hd.gatess
  obtain ⟨vn, vg, vo, rfl, r1, r2, r3⟩ := h
  obtain ⟨An, cn, rfl, hcn, hcmn⟩ := NatsAt.shape (xs := d.next) r1
  unfold maxLen at hcmn
  have hins : (Cir.toCz d).ins = (d.ins : Int) := rfl
  rw [hins]
  have B0 := Lib.hid (bel_new w (.cells #[.int .i64 d.ins, .slice An d.next.length cn, vg, vo] 26))
  have hsz : (w.alloc (.cells #[.int .i64 d.ins, .slice An d.next.length cn, vg, vo] 26)).heap.size = w.heap.size + 1 := by simp
  have PC := Lib.hid (PCells.boxed w d.ins (.slice An d.next.length cn) vg vo 26)
  have HN := Lib.hid (show NatsAt w (.slice An d.next.length cn) d.next from r1)
  have Hd := Lib.hid hd
  have HV := Lib.hid hV
  have HVl := Lib.hid hVl
  have HV2 := Lib.hid hV2
  have hnv : Cir.nvars d ≤ 22 := by unfold Cir.nvars Cir.nfirst; omega
  clear r1 r2 r3 hd hins hV hVl hV2
  go_enter Try.func97, Try.ntmps97
  go_wp2_with fail
  generalize w.alloc (.cells #[.int .i64 d.ins, .slice An d.next.length cn, vg, vo] 26) = W at *
  have hown0 : Hid ((W.alloc (.cells #[] 3)).ownsRow W.heap.size 3 1 (.slice (some ⟨w.heap.size + 1, 0, none⟩) 0 0) 0 []) := Lib.hid (by
    have := World.ownsRow_lit (base := W.heap.size) (e := 3) (size := 1) W #[] 0 (Nat.le_refl _) (by unfold maxLen; omega) rfl
    rw [hsz] at this ⊢
    exact this)
  have hb0 := bel_new W (.cells #[] 3)
  go_loopw [5, 6] (fun v i wr => ∃ (vv : Value) (k : Nat), vv = v ∧ k ≤ d.next.length ∧ i = .int .i64 k ∧ Hid (wr.ownsRow W.heap.size 3 1 v k (nints (Cir.tnext d V |>.take k))) ∧ Below W.heap.size W wr) (fun _ i _ => d.next.length - (intOf i).toNat)
  case atStart => exact ⟨_, 0, rfl, Nat.zero_le _, rfl, hown0, hb0⟩
  case round =>
    obtain ⟨vr, k, hvr, hk, rfl, Ho, hb⟩ := hrel
    subst hvr
    clear hown0 hb0
    have Hb := Lib.hid hb
    have hzb := hb.size
    obtain ⟨z, p0, p1, p2, p3⟩ := PC.out.below hb
    by_cases hlt : k < d.next.length
    · obtain ⟨b', o', l, rfl, hbl', hx0, hs0⟩ := nats_cell (nats_row HN.out) rfl hlt
      have hl2 := Hd.out.next l (List.mem_of_getElem? hx0.out)
      have hs1 := ((B0.out.trans (hb.mono B0.out.size)).cell (p := ⟨b', o' + k, none⟩) hbl').trans hs0
      have HVr := Lib.hid (HV.out.below (B0.out.trans (hb.mono B0.out.size)))
      have HS : Hid (nints ((Cir.tnext d V).take (k + 1)) = nints ((Cir.tnext d V).take k) ++ [.int .i64 (Cir.tlit V l : Nat)]) := Lib.hid (by
        unfold Cir.tnext
        rw [← List.map_take, take_snoc hx0.out, List.map_append, List.map_cons, List.map_nil, nints_snoc, List.map_take])
      clear hb
      go_wp2_with fail
      refine (l27Lit_any _ V l _ HVr.out (by rw [HVl.out]; exact hl2) (by omega) HV2.out).mono ?_
      rintro e w' ⟨rfl, rfl⟩
      generalize Cir.tlit V l = q at *
      have Hlit := Lib.hid (Row.of_own (World.ownsRow_lit (base := wr.heap.size) (e := 3) (size := 1) wr #[.int .i64 q] 1 (Nat.le_refl _) (by unfold maxLen; omega) rfl))
      go_wp2_with (at_builtin; refine append_ints rfl (.tmp 15) (.tmp 23) rfl W.heap.size _ k _ rfl (Ho.out.alloc _) _ 1 [.int .i64 q] rfl Hlit.out (by simp [Value.oneCell']) (by omega) (by simp; omega) ?_; intro v7 w7 hown7 hg7 hat7; have Ho7 := Lib.hid hown7; have Hg7 := Lib.hid hg7; clear hown7 hg7 hat7)
      go_roundw
      case rel => exact ⟨_, k + 1, rfl, by omega, by go_num, Lib.hid (by rw [HS.out]; exact Ho7.out), (Hb.out.alloc hzb _).grown Hg7.out (Hb.out.alloc hzb _).size (own_ge0 Ho.out)⟩
      case measure => simp [intOf] <;> omega
    · obtain rfl : k = d.next.length := by omega
      have hl : (Cir.tnext d V).length = d.next.length := by unfold Cir.tnext; simp
      have HF := Lib.hid (show wr.ownsRow w.heap.size 3 1 vr (nats (Cir.tnext d V)).length (ints (nats (Cir.tnext d V))) by
        rw [nats_length, hl]
        have := Ho.out
        rw [← hl, List.take_length] at this
        rw [hl] at this
        exact own_mono this (by omega))
      clear hl
      go_wp2_with fail
      go_ret
      exact ⟨_, rfl, HF.out, B0.out.trans (Hb.out.mono B0.out.size)⟩
theorem resets_no {c : Cz} {rss : List (List Bool)} (h : Cir.rowsOk c rss = false) : Cir.resets c rss = false := by unfold Cir.resets; rw [h]; rfl
theorem resets_ok {c : Cz} {rss : List (List Bool)} (h : Cir.rowsOk c rss = true) : Cir.resets c rss = !Cir.memB (Cir.tst (Cir.nat c) rss) 2 := by unfold Cir.resets; rw [h]; rfl
theorem implResets_any (v vr : Value) (c : Cz) (rss : List (List Bool)) (w : World) (h : CircAt w v c) (hr : SSAt bools w vr rss) :
    Calls Try.prog 45 #[v, vr] w fun e w' => e = .returned (.bool (Cir.resets c rss)) ∧ Below w.heap.size w w' := by
  cases hok : Cir.rowsOk c rss
  · rw [resets_no hok]
    obtain ⟨vn, vg, vo, rfl, r1, r2, r3⟩ := h
    obtain ⟨Ar, cr, rfl, hcr, hcrm⟩ := hr.shape
    have HP := PCirc.boxed (c := c) 26 r1 r2 r3
    have B0 := Lib.hid (bel_new w (.cells #[.int .i64 c.ins, vn, vg, vo] 26))
    have HF := Lib.hid (rowsFit_any w.heap.size _ _ rss _ HP (hr.below B0.out))
    rw [hok] at HF
    clear r1 r2 r3 hr HP hok
    go_enter Try.func45, Try.ntmps45
    go_wp2_with fail
    refine HF.out.mono ?_
    rintro e w1 ⟨rfl, hb1⟩
    have B := Lib.hid (B0.out.trans (hb1.mono B0.out.size))
    clear hb1
    go_wp2_with fail
    go_ret
    exact ⟨rfl, B.out⟩
  · rw [resets_ok hok]
    have hv : Cir.valid c = true := by unfold Cir.rowsOk at hok; simp only [Bool.and_eq_true] at hok; exact hok.1
    obtain ⟨d1, d2⟩ := Cir.nat_ok hv
    exact implResets_ok v vr (Cir.nat c) rss w (by rw [← d1]; exact h) hr d2 (by rw [← d1]; exact hok)
set_option maxHeartbeats 8000000 in
theorem specResets_ok (v vr : Value) (d : Ci) (rss : List (List Bool)) (w : World) (h : CircAt w v (Cir.toCz d)) (hr : SSAt bools w vr rss) (hd : Cir.Ok d) (hok : Cir.rowsOk (Cir.toCz d) rss = true) :
    Calls Try.prog 46 #[v, vr] w fun e w' => e = .returned (.bool (!Cir.memB (Cir.tst d rss) 2)) ∧ Below w.heap.size w w' := by
  have l1 := hd.ins
  have l2 := hd.nexts
  have l3 := hd.gatess
  have HC := Lib.hid h
  obtain ⟨vn, vg, vo, rfl, r1, r2, r3⟩ := h
  obtain ⟨An, cn, rfl, hcn, hcmn⟩ := NatsAt.shape (xs := d.next) r1
  obtain ⟨Ar, cr, rfl, hcr, hcrm⟩ := hr.shape
  unfold maxLen at hcrm hcmn
  have hins : (Cir.toCz d).ins = (d.ins : Int) := rfl
  rw [hins] at HC ⊢
  have B0 := Lib.hid (bel_new w (.cells #[.int .i64 d.ins, .slice An d.next.length cn, vg, vo] 26))
  have hsz : (w.alloc (.cells #[.int .i64 d.ins, .slice An d.next.length cn, vg, vo] 26)).heap.size = w.heap.size + 1 := by simp
  have PC := Lib.hid (PCells.boxed w d.ins (.slice An d.next.length cn) vg vo 26)
  have HR := Lib.hid (hr.below B0.out)
  have HRow : Hid (∀ (k : Nat) (x : List Bool), rss[k]? = some x → x.length = d.ins) := Lib.hid fun k x hx => by
    unfold Cir.rowsOk at hok
    simp only [Bool.and_eq_true] at hok
    have := List.all_eq_true.1 hok.2.2 x (List.mem_of_getElem? hx)
    unfold Cir.rowOk at this
    rw [decide_eq_true_eq, hins] at this
    omega
  have hlen : rss.length ≤ 40 := by unfold Cir.rowsOk at hok; simp only [Bool.and_eq_true, decide_eq_true_eq] at hok; exact hok.2.1
  have hvalid : Cir.valid (Cir.toCz d) = true := by unfold Cir.rowsOk at hok; simp only [Bool.and_eq_true] at hok; exact hok.1
  have Hvalid := Lib.hid hvalid
  have HC0 := Lib.hid (HC.out.below B0.out)
  have HVal := Lib.hid (specValid_any _ _ _ HC0.out)
  rw [hvalid] at HVal
  have HIn : Hid (∀ w', SSAt bools w' (.slice Ar rss.length cr) rss → Calls Try.prog 95 #[.slice Ar rss.length cr, .int .i64 d.ins] w' fun e w'' => e = .returned (.bool true) ∧ w' = w'') := Lib.hid fun w' h => by
    have := l2Inputs_any _ (d.ins : Int) rss w' h
    unfold Cir.rowsOk at hok
    simp only [Bool.and_eq_true] at hok
    rw [show (decide (rss.length ≤ 40) && rss.all (Cir.rowOk (d.ins : Int))) = true from by rw [Bool.and_eq_true]; exact hok.2] at this
    exact this
  have Hd := Lib.hid hd
  clear r1 r2 r3 hd hins hr hok hvalid
  obtain ⟨z, p0, p1, p2, p3⟩ := PC.out
  go_enter Try.func46, Try.ntmps46
  go_wp2_with fail
  generalize w.alloc (.cells #[.int .i64 d.ins, .slice An d.next.length cn, vg, vo] 26) = W at *
  refine HVal.out.mono ?_
  rintro e w1 ⟨rfl, hb1⟩
  have B1 := Lib.hid (B0.out.trans (hb1.mono B0.out.size))
  have HR1 := Lib.hid (HR.out.below hb1)
  have PC1 := Lib.hid (PC.out.below hb1)
  have HC1 := Lib.hid (HC0.out.below hb1)
  have z1 := hb1.size
  clear hb1 p0 p1 p2 p3 z HR PC HC0 HVal
  obtain ⟨z, p0, p1, p2, p3⟩ := PC1.out
  go_wp2_with fail
  refine (HIn.out _ HR1.out).mono ?_
  rintro e w' ⟨rfl, rfl⟩
  have hown0 := World.ownsRow_lit (base := w1.heap.size) (e := 3) (size := 1) w1 #[] 0 (Nat.le_refl _) (by unfold maxLen; omega) rfl
  have hb0 := bel_new w1 (.cells #[] 3)
  clear HIn
  go_wp2_with fail
  go_loopw [5, 6] (fun v i wr => ∃ (vv : Value) (k : Nat), vv = v ∧ k ≤ d.next.length ∧ i = .int .i64 k ∧ Hid (wr.ownsRow w1.heap.size 3 1 v k (nints (List.replicate k 2))) ∧ Below w1.heap.size w1 wr) (fun _ i _ => d.next.length - (intOf i).toNat)
  case atStart => exact ⟨_, 0, rfl, Nat.zero_le _, rfl, Lib.hid hown0, hb0⟩
  case round =>
    obtain ⟨vv, k, hvv, hk, rfl, Ho, hb⟩ := hrel
    subst hvv
    clear hown0 hb0 z p0 p1 p2 p3
    have Hb := Lib.hid hb
    have hzb := hb.size
    obtain ⟨z, p0, p1, p2, p3⟩ := PC1.out.below hb
    by_cases hlt : k < d.next.length
    · have HS : Hid (nints (List.replicate (k + 1) 2) = nints (List.replicate k 2) ++ [.int .i64 2]) := Lib.hid (by rw [List.replicate_succ', nints_snoc]; rfl)
      have Hlit := Lib.hid (Row.of_own (World.ownsRow_lit (base := wr.heap.size) (e := 3) (size := 1) wr #[.int .i64 2] 1 (Nat.le_refl _) (by unfold maxLen; omega) rfl))
      clear hb
      go_wp2_with (at_builtin; refine append_ints rfl (.tmp 29) (.tmp 30) rfl w1.heap.size _ k _ rfl (Ho.out.alloc _) _ 1 [.int .i64 2] rfl Hlit.out (by simp [Value.oneCell']) (by omega) (by simp; omega) ?_; intro v7 w7 hown7 hg7 hat7; have Ho7 := Lib.hid hown7; have Hg7 := Lib.hid hg7; clear hown7 hg7 hat7)
      go_roundw
      case rel => exact ⟨_, k + 1, rfl, by omega, by go_num, Lib.hid (by rw [HS.out]; exact Ho7.out), (Hb.out.alloc hzb _).grown Hg7.out (Hb.out.alloc hzb _).size (own_ge0 Ho.out)⟩
      case measure => simp [intOf] <;> omega
    · obtain rfl : k = d.next.length := by omega
      have Ho2 : Hid (NatsAt wr vv (Cir.tst d (rss.take 0))) := Lib.hid (by
        have e : Cir.tst d (rss.take 0) = List.replicate d.next.length 2 := rfl
        rw [e]
        exact nats_own Ho.out (by simp))
      have HT0 : Hid (Cir.Tst d (Cir.tst d (rss.take 0))) := Lib.hid (Cir.Tst.start d)
      clear Ho hb
      go_wp2_with fail
      go_loopw [5, 7] (fun v i wr => ∃ (vv : Value) (k : Nat), vv = v ∧ k ≤ rss.length ∧ i = .int .i64 k ∧ Hid (Cir.Tst d (Cir.tst d (rss.take k))) ∧ Hid (NatsAt wr v (Cir.tst d (rss.take k))) ∧ Below w1.heap.size w1 wr) (fun _ i _ => rss.length - (intOf i).toNat)
      case atStart => exact ⟨_, 0, rfl, Nat.zero_le _, rfl, HT0, Ho2, Hb.out⟩
      case round =>
        obtain ⟨vv, k, hvv, hk, rfl, HT, Ho, hb⟩ := hrel
        subst hvv
        clear Ho2 Hb HT0 z p0 p1 p2 p3
        have Hb := Lib.hid hb
        have hzb := hb.size
        by_cases hlt : k < rss.length
        · obtain ⟨x, hx⟩ := at_some hlt
          obtain ⟨b, o, Bx, mx, rfl, hbl, hc1, hm1, hm2, hrx⟩ := ss_open HR1.out (Below.refl _ _) hx
          have hxl := HRow.out k x hx
          have Hxl := Lib.hid hxl
          have HTs := Lib.hid (HT.out.step x)
          have HSn := Lib.hid (Cir.tst_snoc (d := d) hx)
          have Hrx := Lib.hid hrx
          have HT2 : Hid (Cir.Tst d (Cir.tst d (rss.take (k + 1)))) := Lib.hid (by rw [HSn.out]; exact HTs.out)
          have hx4 : x.length ≤ 4 := by omega
          unfold maxLen at hm2
          have K : ∀ w', Below w1.heap.size w1 w' → w'.cell? ⟨b, o + k, none⟩ = some (.slice Bx x.length mx) := fun w' h => (h.cell (p := ⟨b, o + k, none⟩) hbl).trans hc1
          have HK := Lib.hid K
          have Hwk := Lib.hid (bel_new wr (.cells #[] 3))
          have hown0 : Hid ((wr.alloc (.cells #[] 3)).ownsRow wr.heap.size 3 1 (.slice (some ⟨wr.heap.size, 0, none⟩) 0 0) 0 []) := Lib.hid (World.ownsRow_lit (base := wr.heap.size) (e := 3) (size := 1) wr #[] 0 (Nat.le_refl _) (by unfold maxLen; omega) rfl)
          clear hb hx hxl hrx K hc1
          generalize Cir.tst d (rss.take k) = st at *
          go_wp2_with fail
          obtain ⟨wk, hwk⟩ : ∃ wk, wk = wr := ⟨_, rfl⟩
          subst hwk
          go_loopw [8, 9] (fun v i wr => ∃ (uu : Value) (j : Nat), uu = v ∧ j ≤ x.length ∧ i = .int .i64 j ∧ Hid (wr.ownsRow wk.heap.size 3 1 v j (nints (Cir.terns (x.take j)))) ∧ Below wk.heap.size wk wr) (fun _ i _ => x.length - (intOf i).toNat)
          case atStart => exact ⟨_, 0, rfl, Nat.zero_le _, rfl, hown0, Hwk.out⟩
          case round =>
            obtain ⟨uu, j, huu, hj, rfl, Hu, hb⟩ := hrel
            subst huu
            clear hown0 Hwk
            have Hbk := Lib.hid hb
            have hzk := hb.size
            have Hb1 := Lib.hid (Hb.out.trans (hb.mono hzb))
            have c1 := HK.out wr Hb1.out
            by_cases hlj : j < x.length
            · obtain ⟨b', o', u, rfl, hbl', hx0, hs0⟩ := bools_open Hrx.out Hb1.out rfl hlj
              have HS : Hid (nints (Cir.terns (x.take (j + 1))) = nints (Cir.terns (x.take j)) ++ [.int .i64 (u.toNat : Nat)]) := Lib.hid (by rw [Cir.terns_snoc hx0.out, nints_snoc])
              have Hlit := Lib.hid (Row.of_own (World.ownsRow_lit (base := wr.heap.size) (e := 3) (size := 1) wr #[.int .i64 (u.toNat : Nat)] 1 (Nat.le_refl _) (by unfold maxLen; omega) rfl))
              clear hb
              go_wp2_with fail
              refine (l9Bit_any u _).mono ?_
              rintro e w' ⟨rfl, rfl⟩
              generalize u.toNat = un at *
              go_wp2_with (at_builtin; refine append_ints rfl (.tmp 48) (.tmp 57) rfl wk.heap.size _ j _ rfl (Hu.out.alloc _) _ 1 [.int .i64 un] rfl Hlit.out (by simp [Value.oneCell']) (by omega) (by simp; omega) ?_; intro v7 w7 hown7 hg7 hat7; have Ho7 := Lib.hid hown7; have Hg7 := Lib.hid hg7; clear hown7 hg7 hat7)
              go_roundw
              case rel => exact ⟨_, j + 1, rfl, by omega, by go_num, Lib.hid (by rw [HS.out]; exact Ho7.out), (Hbk.out.alloc hzk _).grown Hg7.out (Hbk.out.alloc hzk _).size (own_ge0 Hu.out)⟩
              case measure => simp [intOf] <;> omega
            · obtain rfl : j = x.length := by omega
              have HI : Hid (NatsAt wr uu (Cir.terns x)) := Lib.hid (nats_own (by have := Hu.out; rwa [List.take_length] at this) (Cir.terns_length x))
              have Ho5 := Lib.hid (Ho.out.below hb)
              have HC5 := Lib.hid (HC1.out.below Hb1.out)
              obtain ⟨z, p0, p1, p2, p3⟩ := PC1.out.below Hb1.out
              have hz1 : w1.heap.size ≤ wr.heap.size := Nat.le_trans hzb hzk
              have HTl : Hid ((Cir.terns x).length = d.ins) := Lib.hid (by rw [Cir.terns_length]; exact Hxl.out)
              clear hb Hu Ho
              obtain ⟨w5, hw5⟩ : ∃ w5, w5 = wr := ⟨_, rfl⟩
              subst hw5
              go_wp2_with fail
              refine wp_region_rs (quietRS Try.prog _ w5 _) quietRS_ok (by kernel_rfl) (by kernel_rfl) (by kernel_rfl) (Nat.le_of_ble_eq_true rfl) trivial trivial ?_
              apply rs_eq quietRS_ok quiet_any
              · intro ρ w' ho hK
                have ho : Only _ w5 w' := ho
                obtain ⟨h0, -⟩ := hK
                have h0' : ρ (.tmp 2) = _ := h0
                have hb := only_below ho
                have q0 := (hb.cell (p := ⟨w.heap.size, 0, none⟩) z).trans p0
                have q1 := (hb.cell (p := ⟨w.heap.size, 1, none⟩) z).trans p1
                have q2 := (hb.cell (p := ⟨w.heap.size, 2, none⟩) z).trans p2
                have q3 := (hb.cell (p := ⟨w.heap.size, 3, none⟩) z).trans p3
                go_simp
                try exact rfl
              apply rs_eq quietRS_ok quiet_any
              · intro ρ w' ho hK
                have ho : Only _ w5 w' := ho
                obtain ⟨h0, -⟩ := hK
                have h0' : ρ (.tmp 2) = _ := h0
                have hb := only_below ho
                have q0 := (hb.cell (p := ⟨w.heap.size, 0, none⟩) z).trans p0
                have q1 := (hb.cell (p := ⟨w.heap.size, 1, none⟩) z).trans p1
                have q2 := (hb.cell (p := ⟨w.heap.size, 2, none⟩) z).trans p2
                have q3 := (hb.cell (p := ⟨w.heap.size, 3, none⟩) z).trans p3
                go_simp
                try exact rfl
              refine rs_old quietRS_ok quiet_any _ (.inl rfl) _ rfl rfl ?_
              refine rs_old quietRS_ok quiet_any _ (.inl rfl) _ rfl rfl ?_
              refine rs_call quietRS_ok quiet_any (TInts (nats (Cir.tvals d st (Cir.terns x)))) (stb_ints _) 18 _ _ rfl (fun ρ w' ho hK => by
                have ho : Only _ w5 w' := ho
                obtain ⟨h0, h1, h2, h3, -⟩ := hK
                have h0' : ρ (.func 18) = .func (.func 18) #[] #[] := h0
                have h1' : ρ (.tmp 60) = _ := h1
                have h2' : ρ (.tmp 61) = _ := h2
                have h3' : ρ (.tmp 62) = _ := h3
                refine ⟨#[ρ (.tmp 60), ρ (.tmp 61), ρ (.tmp 62)], ?_, ?_⟩
                · go_simp
                · rw [h1', h2', h3']
                  refine (specEvalT_ok _ _ _ d st (Cir.terns x) w' (HC5.out.below (only_below ho)) Hd.out Hvalid.out (Ho5.out.below (only_below ho)) (HI.out.below (only_below ho)) HTl.out HT.out.1 HT.out.2 (Cir.terns_le x)).mono ?_
                  rintro e w2 ⟨v2, rfl, hO, hb⟩
                  exact ⟨v2, rfl, Row.of_own hO, hb⟩) ?_
              refine rs_call quietRS_ok quiet_any (TInts (nats (Cir.tnext d (Cir.tvals d st (Cir.terns x))))) (stb_ints _) 97 _ _ rfl (fun ρ w' ho hK => by
                have ho : Only _ w5 w' := ho
                obtain ⟨h0, h1, h2, -⟩ := hK
                have h0' : ρ (.func 97) = .func (.func 97) #[] #[] := h0
                have h1' : ρ (.tmp 59) = _ := h1
                have h2' : (TInts (nats (Cir.tvals d st (Cir.terns x)))) w' (ρ (.tmp 63)) := h2
                refine ⟨#[ρ (.tmp 59), ρ (.tmp 63)], ?_, ?_⟩
                · go_simp
                · rw [h1']
                  refine (l27Next_any _ _ d _ w' (HC5.out.below (only_below ho)) Hd.out h2' (Cir.tvals_length d HTl.out HT.out.1) (Cir.tvals_le d HT.out.2 (Cir.terns_le x))).mono ?_
                  rintro e w2 ⟨v2, rfl, hO, hb⟩
                  exact ⟨v2, rfl, Row.of_own hO, hb⟩) ?_
              refine rs_same quietRS_ok quiet_any 64 5 (.inr rfl) rfl _ rfl ?_
              intro f w9 k9 hk9 hI9 ht9 hcp9
              have E0 : f 0 = _ := ht9 0 (Nat.le_of_ble_eq_true rfl)
              have E1 : f 1 = _ := ht9 1 (Nat.le_of_ble_eq_true rfl)
              have E2 : f 2 = _ := ht9 2 (Nat.le_of_ble_eq_true rfl)
              conv at E2 => rhs; whnf
              have E3 : f 3 = _ := ht9 3 (Nat.le_of_ble_eq_true rfl)
              conv at E3 => rhs; whnf
              have E4 : (TInts (nats (Cir.tvals d st (Cir.terns x)))) w9 (f 4) := ht9 4 (Nat.le_of_ble_eq_true rfl)
              have E5 : (TInts (nats (Cir.tnext d (Cir.tvals d st (Cir.terns x))))) w9 (f 5) := ht9 5 (Nat.le_of_ble_eq_true rfl)
              have E6 : (TInts (nats (Cir.tnext d (Cir.tvals d st (Cir.terns x))))) w9 (f 6) := ht9 6 (Nat.le_of_ble_eq_true rfl)
              have Ho9 : Only _ w5 w9 := hI9.2.1
              have C6 : f 6 = f 5 := (hcp9 6 _ 64 5 rfl rfl rfl rfl).2
              simp only [putAll, E0, E1, E2, E3, C6, Nat.zero_add, Nat.reduceAdd, Act.put, List.setIfInBounds_toArray, List.set_cons_succ, List.set_cons_zero]
              clear E0 E1 E2 E3
              clear hI9 ht9 hcp9 hk9
              generalize f 4 = r4 at *
              generalize f 5 = r5 at *
              have hb9 := only_below Ho9
              have B9 := Lib.hid (Hb1.out.trans (hb9.mono hz1))
              have HF : Hid (NatsAt w9 r5 (Cir.tst d (rss.take (k + 1)))) := Lib.hid (by rw [HSn.out]; exact E5)
              clear Ho9 hb9 E4 E5 E6 p0 p1 p2 p3 z
              go_wp2_with fail
              go_roundw
              case rel => exact ⟨_, k + 1, rfl, by omega, by go_num, HT2, HF, B9.out⟩
              case measure => simp [intOf] <;> omega
        · obtain rfl : k = rss.length := by omega
          have Hfin : Hid (NatsAt wr vv (Cir.tst d rss)) := Lib.hid (by have := Ho.out; rwa [List.take_length] at this)
          clear hb Ho
          obtain ⟨Av, cv, rfl, hcv, hcvm⟩ := NatsAt.shape Hfin.out
          unfold maxLen at hcvm
          obtain ⟨res, hR⟩ : ∃ res, Cir.memB (Cir.tst d rss) 2 = res := ⟨_, rfl⟩
          have h0 : Hid (res = ((Cir.tst d rss).drop 0).contains 2) := Lib.hid (by rw [← hR]; rfl)
          have HRs := Lib.hid hR
          clear hR
          generalize hst : Cir.tst d rss = st at *
          have Hst := Lib.hid hst
          clear hst
          go_wp2_with fail
          go_loop [10] (fun i => ∃ k : Nat, k ≤ st.length ∧ i = .int .i64 k ∧ Hid (res = (st.drop k).contains 2)) (fun i => st.length - (intOf i).toNat)
          case atStart => exact ⟨0, Nat.zero_le _, rfl, h0⟩
          case round =>
            obtain ⟨k, hk, rfl, hres⟩ := hrel
            clear h0
            by_cases hlt : k < st.length
            · obtain ⟨b, o, x, rfl, hbl, hx, hs1⟩ := nats_cell (nats_row Hfin.out) rfl hlt
              have Hstep : Hid ((st.drop k).contains 2 = (2 == x || (st.drop (k + 1)).contains 2)) := Lib.hid (by
                obtain ⟨hk', e⟩ := List.getElem?_eq_some_iff.1 hx.out
                rw [List.drop_eq_getElem_cons hk', e, List.contains_cons])
              by_cases hxn : x = 2
              · obtain rfl : res = true := by rw [hres.out, Hstep.out, hxn]; rfl
                have hq : ((x : Int) == 2) = true := by simp [hxn]
                clear hxn
                go_wp2_with fail
                go_ret
                exact ⟨ret_bool (by first | (rw [HRs.out]; rfl) | (rw [Hst.out, HRs.out]; rfl)), B1.out.trans (Hb.out.mono B1.out.size)⟩
              · have Hn : Hid (res = (st.drop (k + 1)).contains 2) := Lib.hid (by rw [hres.out, Hstep.out, show (2 == x) = false from by simpa using fun e => hxn e.symm]; rfl)
                have hq : ((x : Int) == 2) = false := by simp; omega
                clear hxn
                go_wp2_with fail
                go_round
                case rel => exact ⟨k + 1, by omega, by go_num, Hn⟩
                case measure => simp [intOf] <;> omega
            · obtain rfl : res = false := by rw [hres.out, List.drop_eq_nil_of_le (by omega : st.length ≤ k)]; rfl
              go_wp2_with fail
              go_ret
              exact ⟨ret_bool (by first | (rw [HRs.out]; rfl) | (rw [Hst.out, HRs.out]; rfl)), B1.out.trans (Hb.out.mono B1.out.size)⟩
theorem specResets_any (v vr : Value) (c : Cz) (rss : List (List Bool)) (w : World) (h : CircAt w v c) (hr : SSAt bools w vr rss) :
    Calls Try.prog 46 #[v, vr] w fun e w' => e = .returned (.bool (Cir.resets c rss)) ∧ Below w.heap.size w w' := by
  cases hok : Cir.rowsOk c rss
  · rw [resets_no hok]
    have HC := Lib.hid h
    obtain ⟨vn, vg, vo, rfl, -⟩ := h
    obtain ⟨Ar, cr, rfl, hcr, hcrm⟩ := hr.shape
    have B0 := Lib.hid (bel_new w (.cells #[.int .i64 c.ins, vn, vg, vo] 26))
    obtain ⟨z, p0, p1, p2, p3⟩ := PCells.boxed w c.ins vn vg vo 26
    have HR := Lib.hid (hr.below B0.out)
    have HV := Lib.hid (specValid_any _ _ _ (HC.out.below B0.out))
    cases hv : Cir.valid c
    · rw [hv] at HV
      clear hr HC hok hv
      go_enter Try.func46, Try.ntmps46
      go_wp2_with fail
      refine HV.out.mono ?_
      rintro e w1 ⟨rfl, hb1⟩
      have B := Lib.hid (B0.out.trans (hb1.mono B0.out.size))
      clear hb1
      go_wp2_with fail
      go_ret
      exact ⟨rfl, B.out⟩
    · rw [hv] at HV
      have hI : (decide (rss.length ≤ 40) && rss.all (Cir.rowOk c.ins)) = false := by unfold Cir.rowsOk at hok; rw [hv, Bool.true_and] at hok; exact hok
      have HI := Lib.hid fun w' h => l2Inputs_any (.slice Ar rss.length cr) c.ins rss w' h
      rw [hI] at HI
      generalize hW : w.alloc (.cells #[.int .i64 c.ins, vn, vg, vo] 26) = W at *
      clear hr HC hok hv hI
      go_enter Try.func46, Try.ntmps46
      go_wp2_with fail
      refine HV.out.mono ?_
      rintro e w1 ⟨rfl, hb1⟩
      have B := Lib.hid (B0.out.trans (hb1.mono B0.out.size))
      have q0 := (hb1.cell (p := ⟨w.heap.size, 0, none⟩) z).trans p0
      have HR1 := Lib.hid (HR.out.below hb1)
      clear hb1 hW
      go_wp2_with fail
      refine (HI.out _ HR1.out).mono ?_
      rintro e w' ⟨rfl, rfl⟩
      go_wp2_with fail
      go_ret
      exact ⟨rfl, B.out⟩
  · rw [resets_ok hok]
    have hv : Cir.valid c = true := by unfold Cir.rowsOk at hok; simp only [Bool.and_eq_true] at hok; exact hok.1
    obtain ⟨d1, d2⟩ := Cir.nat_ok hv
    exact specResets_ok v vr (Cir.nat c) rss w (by rw [← d1]; exact h) hr d2 (by rw [← d1]; exact hok)
end Go.Proofs.Ytopimdakpnnbhaa
