/-
  FnSignatureZero: The program's Signature is the reference's at the drawn words; two leading zero words do not change it, no word at all gives 0, and one further word combines the next state with it.
  Conditions: none. For every input that the row reads, the Go function laws.FnSignatureZero returns true and leaves its arguments as they were.
-/
import Derived.Test.YtpbgfhlhpinkeaaRegG
import Derived.Test.YtpbgfhlhpinkeaaRegS
import Derived.Test.YtpbgfhlhpinkeaaAlive
import Derived.Test.YtpbgfhlhpinkeaaRows
import Derived.WalkKit
import Derived.ProofKit
import Derived.OpenShut
import Derived.ShutString
import Derived.ChangeOld
import Derived.Below
namespace Go.Proofs.Ytpbgfhlhpinkeaa.fnSignatureZero
open Go.ChangeShapes Go.WideShapes Go.ChangeAt Go.RowKit
open Go.ChangeMaps (open_string shut_string)
set_option linter.unusedVariables false

open Reg
theorem own : ownKnob Try.prog.godebug = none := by kernel_rfl
theorem laidOut : laidOutB Try.prog = true := by kernel_rfl

/-- A slice of integers that came in: nil, or a row of cells. -/
def IsRow (k : IntKind) (w : World) (a : Option Addr) (len cap : Nat) (zs : List Int) : Prop :=
  (a = none ∧ len = 0 ∧ cap = 0 ∧ zs = []) ∨
  ∃ x, a = some x ∧ len ≤ cap ∧ cap ≤ maxLen ∧ zs.length = cap ∧ (∀ i, i < zs.length → w.cell? (x.add i) = some (.int k (zs.getD i 0))) ∧ ∀ n ∈ zs, (Lit.int k n).wf = true

/-- Behind the first append. -/
theorem zero_step1 {w3 w4 : World} {v4 vv : Value} {ys : List Int} (hown : w4.ownsRow w3.heap.size 3 1 v4 (2 + ys.length) ([.int .i64 0, .int .i64 0] ++ ints ys))
    (hg : (w3.alloc (.cells #[.int .i64 0, .int .i64 0] 3)).grownBy w4 (some w3.heap.size)) (hr : IntsAt w3 vv ys) :
    Hid (w4.ownsRow w3.heap.size 3 1 v4 ([0, 0] ++ ys).length (ints ([0, 0] ++ ys))) ∧ Hid (Below w3.heap.size w3 w4) ∧ Hid (IntsAt w4 vv ys) ∧ Hid ((w4.alloc (.cells #[] 3)).ownsRow w4.heap.size 3 1 (.slice (some ⟨w4.heap.size, 0, none⟩) 0 0) 0 []) := by
  have hb : Below w3.heap.size w3 w4 := ((Below.refl _ _).alloc (Nat.le_refl _) _).grown hg (by simp) (fun k hk => by cases hk; exact Nat.le_refl _)
  have e : ([0, 0] ++ ys).length = 2 + ys.length := by simp; omega
  refine ⟨Lib.hid ?_, Lib.hid hb, Lib.hid (hr.below hb), Lib.hid (World.ownsRow_lit (base := w4.heap.size) (e := 3) (size := 1) w4 #[] 0 (Nat.le_refl _) (by unfold maxLen; omega) rfl)⟩
  rw [e]
  exact hown
/-- Behind the second append. -/
theorem zero_step2 {w4 w5 : World} {v5 : Value} {ys : List Int} (hown : w5.ownsRow w4.heap.size 3 1 v5 (0 + ys.length) ([] ++ ints ys))
    (hg : (w4.alloc (.cells #[] 3)).grownBy w5 (some w4.heap.size)) :
    Hid (w5.ownsRow w4.heap.size 3 1 v5 (0 + ys.length) (ints ys)) ∧ Hid (Below w4.heap.size w4 w5) ∧
      Hid (IntsAt (w5.alloc (.cells #[.int .i64 1] 3)) (.slice (some ⟨w5.heap.size, 0, none⟩) 1 1) [1]) := by
  have hb : Below w4.heap.size w4 w5 := ((Below.refl _ _).alloc (Nat.le_refl _) _).grown hg (by simp) (fun k hk => by cases hk; exact Nat.le_refl _)
  refine ⟨Lib.hid hown, Lib.hid hb, Lib.hid ?_⟩
  exact Row.of_own (World.ownsRow_lit (base := w5.heap.size) (e := 3) (size := 1) w5 #[.int .i64 1] 1 (Nat.le_refl _) (by unfold maxLen; omega) rfl)
/-- Behind the third append. -/
theorem zero_step3 {w3 w4 w5 w6 : World} {v4 v5 v6 : Value} {ys : List Int} (hown : w6.ownsRow w4.heap.size 3 1 v6 (0 + ys.length + [(1 : Int)].length) (ints ys ++ ints [1]))
    (hg : (w5.alloc (.cells #[.int .i64 1] 3)).grownBy w6 v5.ownBlock) (h4 : w4.ownsRow w3.heap.size 3 1 v4 ([0, 0] ++ ys).length (ints ([0, 0] ++ ys))) (h5 : w5.ownsRow w4.heap.size 3 1 v5 (0 + ys.length) (ints ys)) (hb : Below w4.heap.size w4 w5) :
    Hid (IntsAt w6 v6 (ys ++ [1])) ∧ Hid (IntsAt w6 v4 ([0, 0] ++ ys)) ∧ Hid (Below w4.heap.size w4 w6) := by
  have hb6 : Below w4.heap.size w4 w6 := (hb.alloc hb.size _).grown hg (by have := hb.size; simp; omega) (fun k hk => (h5.lt k hk).1)
  refine ⟨Lib.hid ?_, Lib.hid (Row.of_own (own_below h4 hb6)), Lib.hid hb6⟩
  have e : (ys ++ [1]).length = 0 + ys.length + [(1 : Int)].length := by simp
  have e2 : ints (ys ++ [1]) = ints ys ++ ints [1] := by simp [ints]
  unfold IntsAt
  rw [e, e2]
  exact Row.of_own hown
set_option maxHeartbeats 4000000 in
/-- The walk: the Go text returns true. -/
theorem walk (a0 : Option Addr) (len0 cap0 : Nat) (z0 : List Int) (w : World) (w0 : IsRow .u8 w a0 len0 cap0 z0) :
    Calls Try.prog 11 #[.slice a0 len0 cap0] w fun e w' => e = .returned (.bool true) ∧ Below w.heap.size w w' := by
  obtain ⟨bs, rfl, hwf, hr⟩ := Row.given w0
  clear w0
  by_cases hl : bs.length ≤ 1048576
  · have Hr := Lib.hid hr
    clear hr
    go_enter Try.func11, Try.ntmps11
    go_wp2_with fail
    refine (drawSignature_any _ bs w Hr.out hwf hl).mono ?_
    rintro e w1 ⟨n, t, vv, ws, rfl, hn0, hn1, ht0, ht1, hwl, hws, hown, hb1⟩
    have Hb := Lib.hid hb1
    have Hrow := Lib.hid (show IntsAt w1 vv ws from Row.of_own hown)
    clear hb1 Hr hwf hws hown
    go_wp2_with fail
    refine (implSignature_any n t vv ws _ Hrow.out).mono ?_
    rintro e w2 ⟨rfl, hd2⟩
    have Hd2 := Lib.hid hd2
    have Hrow2 := Lib.hid (Hrow.out.drew hd2)
    clear hd2
    go_wp2_with fail
    refine (specSignature_any n t vv ws _ Hrow2.out).mono ?_
    rintro e w3 ⟨rfl, hd3⟩
    have Hd3 := Lib.hid hd3
    have Hrow3 := Lib.hid (Hrow2.out.drew hd3)
    have Hb3 : Hid (Below w.heap.size w w3) := Lib.hid ((Hb.out.trans (Hd2.out.below _)).trans (hd3.below _))
    clear hd3 Hrow Hrow2 Hd2 Hd3 Hb
    by_cases hneg : signature n t ws < 0
    · go_wp2_with fail
      refine (alive_any _).mono ?_
      rintro e w4 ⟨rfl, hb4⟩
      go_wp2_with fail
      go_ret
      exact ⟨rfl, Hb3.out.trans (hb4.mono Hb3.out.size)⟩
    · -- the words are natural numbers, and the register is one
      obtain ⟨N, T, wn, rfl, rfl, rfl, h1, h2, h3, hwn, hsig⟩ : ∃ (N T : Nat) (wn : List Nat), n = N ∧ t = T ∧ ws = nats wn ∧ 1 ≤ N ∧ N ≤ 10 ∧ T < 2 ^ N ∧ (∀ x ∈ wn, x < 2 ^ N) ∧ signature n t ws = (sgN N T 0 wn : Int) := by
        have hfit : fits n t 0 = true := by
          rcases hf : fits n t 0 with _ | _
          · rw [signature_unfit hf] at hneg; omega
          · rfl
        obtain ⟨N, T, S, rfl, rfl, _, h1, h2, h3, h4⟩ := fits_nat hfit
        have hs := signature_fit (ws := ws) hfit (by omega)
        cases hres : sigFold N T 0 ws with
        | none => rw [hs, hres] at hneg; simp [sigOut] at hneg
        | some r =>
          obtain ⟨wn, rfl, hwn, rfl⟩ := sigFold_some hres
          exact ⟨N, T, wn, rfl, rfl, rfl, h1, h2, h3, hwn, by rw [hs, hres]; rfl⟩
      have hfit : fits N T 0 = true := fits_mk h1 h2 h3 (S := 0) (Nat.two_pow_pos N)
      have hlen : (nats wn).length = wn.length := by simp [nats]
      have hS := sg_lt h3 wn 0 (Nat.two_pow_pos N) hwn
      have hone : 1 < 2 ^ N := Nat.one_lt_two_pow (by omega)
      -- the three further signatures
      have s1 : signature N T ([0, 0] ++ nats wn) = (sgN N T 0 wn : Int) := by
        rw [signature_fit hfit (by simp; omega), show ([0, 0] ++ nats wn : List Int) = nats (0 :: 0 :: wn) from rfl, sigFold_nats _ _ (by
          intro x hx
          have hp := Nat.two_pow_pos N
          rcases List.mem_cons.1 hx with e | hx
          · omega
          · rcases List.mem_cons.1 hx with e | hx
            · omega
            · exact hwn x hx)]
        simp [sigOut, sgN, nextN_zero]
      have s2 : signature N T [] = 0 := by
        rw [signature_fit hfit (by simp)]; rfl
      have s3 : signature N T (nats wn ++ [1]) = ((nextN N T (sgN N T 0 wn) ^^^ 1 : Nat) : Int) := by
        rw [signature_fit hfit (by simp; omega), show (nats wn ++ [1] : List Int) = nats (wn ++ [1]) from by simp [nats], sigFold_nats _ _ (by
          intro x hx
          rcases List.mem_append.1 hx with hx | hx
          · exact hwn x hx
          · obtain rfl := List.mem_singleton.1 hx; exact hone), sg_append]
        rfl
      have hxor : bits .xor .i64 ((nextN N T (sgN N T 0 wn) : Nat) : Int) 1 = ((nextN N T (sgN N T 0 wn) ^^^ 1 : Nat) : Int) := by
        have hp := pow_le_nat h2
        have := nextN_lt N T (sgN N T 0 wn) h3
        exact i64_xor_nat _ 1 (by omega) (by omega)
      have hz3 : w.heap.size ≤ w3.heap.size := Hb3.out.size
      have hown0 := World.ownsRow_lit (base := w3.heap.size) (e := 3) (size := 1) w3 #[.int .i64 0, .int .i64 0] 2 (Nat.le_refl _) (by unfold maxLen; omega) rfl
      have Hown0 := Lib.hid hown0
      have Hs3 := Lib.hid s3
      have Hs1 := Lib.hid s1
      have Hs2 := Lib.hid s2
      have Hxor := Lib.hid hxor
      have HS := Lib.hid hS
      have H3 := Lib.hid h3
      rw [hsig]
      clear hsig hown0 s1 s2 s3 hxor hS h3 hwn hlen hfit hneg
      generalize hG : sgN N T 0 wn = S at *
      clear hG
      have hwn30 : (nats wn).length ≤ 30 := hwl
      go_wp2_with (first
        | (at_builtin; refine append_ints rfl (.tmp 31) (.tmp 32) rfl w3.heap.size _ 2 _ rfl Hown0.out _ (nats wn) rfl (Hrow3.out.alloc _) (by omega) (by simp) ?_; intro v4 w4 hown4 hg4; obtain ⟨Hown4, Hb34, Hrow4, Hlit4⟩ := zero_step1 hown4 hg4 Hrow3.out; clear hown4 hg4)
        | (at_builtin; refine append_ints rfl (.tmp 34) (.tmp 35) rfl w4.heap.size _ 0 _ rfl Hlit4.out _ (nats wn) rfl (Hrow4.out.alloc _) (by omega) (by simp) ?_; intro v5 w5 hown5 hg5; obtain ⟨Hown5, Hb45, Hlit5⟩ := zero_step2 hown5 hg5; clear hown5 hg5)
        | (at_builtin; refine append_ints rfl (.tmp 36) (.tmp 37) rfl w4.heap.size _ (0 + (nats wn).length) _ rfl (Hown5.out.alloc _) _ [1] rfl Hlit5.out (by simp; omega) (by have := Hb45.out.size; simp; omega) ?_; intro v6 w6 hown6 hg6; obtain ⟨Hlast, Hmore, Hb46⟩ := zero_step3 hown6 hg6 Hown4.out Hown5.out Hb45.out; clear hown6 hg6)
        | fail)
      refine (implSignature_any N T v4 ([0, 0] ++ nats wn) _ Hmore.out).mono ?_
      rintro e w7 ⟨rfl, hd7⟩
      rw [Hs1.out]
      have Hd7 := Lib.hid hd7
      have Hlast7 := Lib.hid (Hlast.out.drew hd7)
      clear hd7 Hown0 Hlit4 Hown4 Hrow4 Hlit5 Hown5 Hmore
      have d1 : ((S : Int) == (S : Int)) = true := beq_self_eq_true _
      go_wp2_with fail
      refine (implSignature_any N T _ [] _ (Row.of_own (World.ownsRow_lit (base := w7.heap.size) (e := 3) (size := 1) w7 #[] 0 (Nat.le_refl _) (by unfold maxLen; omega) rfl))).mono ?_
      rintro e w8 ⟨rfl, hd8⟩
      rw [Hs2.out]
      have Hlast8 := Lib.hid ((Hlast7.out.alloc (.cells #[] 3)).drew hd8)
      have Hd8 := Lib.hid hd8
      clear hd8 Hlast7
      go_wp2_with fail
      refine (implSignature_any N T v6 (nats wn ++ [1]) _ Hlast8.out).mono ?_
      rintro e w9 ⟨rfl, hd9⟩
      rw [Hs3.out]
      have Hd9 := Lib.hid hd9
      clear hd9 Hlast8
      go_wp2_with fail
      refine (implNext_nat N T S _ h1 h2 H3.out HS.out).mono ?_
      rintro e w' ⟨rfl, rfl⟩
      have hx := Hxor.out
      have d2 : (((nextN N T S ^^^ 1 : Nat) : Int) == ((nextN N T S ^^^ 1 : Nat) : Int)) = true := beq_self_eq_true _
      go_wp2_with fail
      go_ret
      refine ⟨rfl, ?_⟩
      have z34 := Hb34.out.size
      have z46 := Hb46.out.size
      have z7 := Hd7.out.size
      have b6 : Below w.heap.size w w6 := (Hb3.out.trans (Hb34.out.mono hz3)).trans (Hb46.out.mono (by omega))
      exact (((b6.trans (Hd7.out.below _)).alloc (by omega) _).trans (Hd8.out.below _)).trans (Hd9.out.below _)
  · go_enter Try.func11, Try.ntmps11
    go_wp2
    go_ret
    exact ⟨rfl, Below.refl _ _⟩

/-! The step from the walk to the row. -/
set_option maxRecDepth 100000 in
theorem lifted (os : Os) (started : os.Started) (H : Type) (enc : TypeId × Value → H) :
    ReturnsInHanded {} Try.checked os 11 .any (Rows.fnSignatureZeroSpec.pre6 enc Try.prog Try.f11 Rows.fnSignatureZeroRow.domain false) (Rows.fnSignatureZeroSpec.post enc Try.prog Try.f11 false true false false) := by
  refine returnsInHanded_of_change (C := Try.checked) own started (by kernel_rfl) Try.func11
    (ChangeSpec.witness6 (enc := enc) (C := Try.checked) false ⟨#[], #[.slice none 0 0], []⟩ 8 (by kernel_rfl) (by kernel_rfl) (by kernel_rfl) (by kernel_rfl)) ?_
  intro W base args ds gs before hval0 hW hcnd _
  have hval : ∀ (j : Nat) t v, Try.f11.params[j]? = some t → args[j]? = some v → Value.okWide Try.prog W .any base t v := hval0
  have hW' := hW
  obtain ⟨p, q, hA0, hV, rfl, hfz, hnd⟩ := hW
  have hA : DataW.TrodAll enc Try.prog W 0 (fun _ => true) true Try.f11.params.toList args.toList ds p := hA0
  rw [Try.params11] at hA hval
  obtain ⟨v0, vs0, d0, ds0, p0, q0, hargs, rfl, rfl, h0, r0⟩ := trodAll_cons hA
  obtain ⟨rfl, rfl, rfl⟩ := trodAll_nil r0
  obtain rfl : args = #[v0] := by cases args; simp_all
  obtain ⟨rfl, rfl⟩ := trodVars_none hV
  obtain ⟨a0, len0, cap0, rfl⟩ := okWide_slice Try.underlying22 (hval 0 22 v0 rfl rfl)
  have k0 := h0
  have lt0 : ∀ x ∈ p0, x.block < W.heap.size := by obtain ⟨m, hm⟩ := k0; exact DataW.trod_lt m _ _ _ hm
  obtain ⟨z0, w0⟩ : ∃ zs, IsRow .u8 W a0 len0 cap0 zs := by
    obtain ⟨fuel, hf⟩ := h0
    rcases open_ints Try.underlying22 Try.underlying5 (by kernel_rfl) hf with ⟨hcs, _⟩ | ⟨x, l, c, zs, hcs, _, hl, hm, hz, _, hcell, hwz⟩
    · simp [Value.cells] at hcs
      obtain ⟨rfl, rfl, rfl⟩ := hcs
      exact ⟨[], .inl ⟨rfl, rfl, rfl, rfl⟩⟩
    · simp [Value.cells] at hcs
      obtain ⟨rfl, rfl, rfl⟩ := hcs
      exact ⟨zs, .inr ⟨_, rfl, hl, hm, by simpa using hz, hcell, hwz⟩⟩
  clear hA0 hval0
  refine (walk a0 len0 cap0 z0 W w0).mono fun e W' ⟨he, bel⟩ => ?_
  subst he
  exact ⟨_, rfl, _, _, _, [], _, [], hW', trodAll_mk1 (shut_bool Try.underlying4 _), (trodAll_cons_mk (Below.trod laidOut (by kernel_rfl) (of_decide_eq_true (by kernel_rfl)) k0 bel lt0) trodAll_mk0), rfl, bel.frame _, fun h => by cases h⟩

theorem over : Rows.fnSignatureZeroRow.holds Try.pinned (OpenSpec.ofChange Rows.fnSignatureZeroSpec) :=
  OpenClaim.holds_of_wide 11 Try.f11 rfl rfl rfl rfl rfl rfl rfl ⟨rfl, rfl, rfl, rfl, rfl⟩ rfl rfl rfl rfl rfl (by kernel_rfl) Try.func11 (by kernel_rfl)
    (of_decide_eq_true (by kernel_rfl)) (by unfold Func.isWrapper; first | (rw [if_pos (by decide +kernel)]; kernel_rfl) | (rw [if_neg (by decide +kernel)]; exact ⟨rfl, rfl⟩))
    (fun os started H enc _ => lifted os started H enc)

/-- The statement. -/
theorem proved : Rows.FnSignatureZeroSaid := over
#print axioms proved
end Go.Proofs.Ytpbgfhlhpinkeaa.fnSignatureZero
