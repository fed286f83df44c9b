/-
  FnSignature: The program's Signature is the reference's at the drawn words; one changed word changes the signature by that of the change alone, which is not 0 where the taps are odd.
  Conditions: none. For every input that the row reads, the Go function laws.FnSignature returns true and leaves its arguments as they were.
-/
import Derived.Test.YtpbgfhlhpinkeaaRegG
import Derived.Test.YtpbgfhlhpinkeaaRegS
import Derived.Test.YtpbgfhlhpinkeaaAlive
import Derived.Test.YtpbgfhlhpinkeaaRows
import Derived.WalkKit
import Derived.ProofKit
import Derived.OpenShut
import Derived.ShutString
import Derived.ChangeOld
import Derived.Below
namespace Go.Proofs.Ytpbgfhlhpinkeaa.fnSignature
open Go.ChangeShapes Go.WideShapes Go.ChangeAt Go.RowKit
open Go.ChangeMaps (open_string shut_string)
set_option linter.unusedVariables false

open Reg
theorem own : ownKnob Try.prog.godebug = none := by kernel_rfl
theorem laidOut : laidOutB Try.prog = true := by kernel_rfl

/-- A slice of integers that came in: nil, or a row of cells. -/
def IsRow (k : IntKind) (w : World) (a : Option Addr) (len cap : Nat) (zs : List Int) : Prop :=
  (a = none ∧ len = 0 ∧ cap = 0 ∧ zs = []) ∨
  ∃ x, a = some x ∧ len ≤ cap ∧ cap ≤ maxLen ∧ zs.length = cap ∧ (∀ i, i < zs.length → w.cell? (x.add i) = some (.int k (zs.getD i 0))) ∧ ∀ n ∈ zs, (Lit.int k n).wf = true

/-- The copy of the words, and the rows that come behind it. -/
theorem sig_step1 {w3 w4 : World} {v4 : Value} {ys : List Int} (hown : w4.ownsRow w3.heap.size 3 1 v4 (0 + ys.length) ([] ++ ints ys))
    (hg : (w3.alloc (.cells #[] 3)).grownBy w4 (some w3.heap.size)) (hy : 0 < ys.length) {wn : List Nat} {i X : Nat} (hX : wn[i]? = some X) (e : ys = nats wn := by rfl) :
    ∃ g c, v4 = .slice (some ⟨g, 0, none⟩) ys.length c ∧ w3.heap.size ≤ g ∧ g < w4.heap.size ∧ ys.length ≤ c ∧ c ≤ maxLen ∧ Hid (w4.ownsRow w3.heap.size 3 1 (.slice (some ⟨g, 0, none⟩) ys.length c) ys.length (ints ys)) ∧ Hid (Below w3.heap.size w3 w4) ∧ w4.cell? ⟨g, i, none⟩ = some (.int .i64 (X : Int)) ∧ w4.frozen? ⟨g, i, none⟩ = false := by
  have hb : Below w3.heap.size w3 w4 := ((Below.refl _ _).alloc (Nat.le_refl _) _).grown hg (by simp) (fun k hk => by cases hk; exact Nat.le_refl _)
  rw [Nat.zero_add, List.nil_append] at hown
  obtain ⟨g, c, rfl, h1, h2, h3, h4⟩ := own_open hown hy
  subst e
  have hi : i < wn.length := (List.getElem?_eq_some_iff.1 hX).1
  obtain ⟨u, hu, hc, hf⟩ := own_slot hown (j := i) (by simp [nats]; omega)
  have e2 : (ints (nats wn))[i]? = some (.int .i64 (X : Int)) := by simp [ints, nats, hX]
  rw [e2] at hu
  obtain rfl := Option.some.inj hu
  exact ⟨g, c, rfl, h1, h2, h3, h4, Lib.hid hown, Lib.hid hb, hc, hf⟩
theorem ints_set (xs : List Int) (i : Nat) (x : Int) : (ints xs).set i (.int .i64 x) = ints (xs.set i x) := by simp [ints, List.map_set]
theorem nats_set (xs : List Nat) (i x : Nat) : (nats xs).set i (x : Int) = nats (xs.set i x) := by simp [nats, List.map_set]
theorem nats_length (xs : List Nat) : (nats xs).length = xs.length := by simp [nats]
theorem nats_get {xs : List Nat} {i x : Nat} (h : xs[i]? = some x) : (nats xs)[i]? = some (x : Int) := by simp [nats, h]
theorem made_nats (n : Nat) : (madeCells #[Value.int .i64 0] n).toList = ints (nats (List.replicate n 0)) := by
  rw [toList_madeCells_one]
  simp [ints, nats]
set_option maxRecDepth 100000 in
set_option maxHeartbeats 4000000 in
/-- The walk: the Go text returns true. -/
theorem walk (a0 : Option Addr) (len0 cap0 : Nat) (z0 : List Int) (a1 : Option Addr) (len1 cap1 : Nat) (z1 : List Int) (w : World) (w0 : IsRow .u8 w a0 len0 cap0 z0) (w1 : IsRow .u8 w a1 len1 cap1 z1) :
    Calls Try.prog 10 #[.slice a0 len0 cap0, .slice a1 len1 cap1] w fun e w' => e = .returned (.bool true) ∧ Below w.heap.size w w' := by
  obtain ⟨bs, rfl, hwf, hr⟩ := Row.given w0
  obtain ⟨more, rfl, hmwf, hmr⟩ := Row.given w1
  clear w0 w1
  by_cases hl : bs.length ≤ 1048576
  · by_cases hl2 : more.length ≤ 1048576
    · have Hr := Lib.hid hr
      have Hmr := Lib.hid hmr
      have Hmwf := Lib.hid hmwf
      clear hr hmr hmwf
      go_enter Try.func10, Try.ntmps10
      go_wp2_with fail
      refine (drawSignature_any _ bs w Hr.out hwf hl).mono ?_
      rintro e w1 ⟨n, t, vv, ws, rfl, hn0, hn1, ht0, ht1, hwl, hws, hown, hb1⟩
      have Hb := Lib.hid hb1
      have Hrow := Lib.hid (show IntsAt w1 vv ws from Row.of_own hown)
      clear hb1 Hr hwf hws hown
      go_wp2_with fail
      refine (implSignature_any n t vv ws _ Hrow.out).mono ?_
      rintro e w2 ⟨rfl, hd2⟩
      have Hd2 := Lib.hid hd2
      have Hrow2 := Lib.hid (Hrow.out.drew hd2)
      clear hd2
      go_wp2_with fail
      refine (specSignature_any n t vv ws _ Hrow2.out).mono ?_
      rintro e w3 ⟨rfl, hd3⟩
      have Hrow3 := Lib.hid (Hrow2.out.drew hd3)
      have Hb3 : Hid (Below w.heap.size w w3) := Lib.hid ((Hb.out.trans (Hd2.out.below _)).trans (hd3.below _))
      have Hmr3 := Lib.hid (Hmr.out.below Hb3.out)
      clear hd3 Hrow Hrow2 Hd2 Hb Hmr
      obtain ⟨A, c, hvv, hc1, hc2⟩ := Hrow3.out.shape
      subst hvv
      by_cases hneg : signature n t ws < 0
      · go_wp2_with fail
        refine (alive_any _).mono ?_
        rintro e w4 ⟨rfl, hb4⟩
        go_wp2_with fail
        go_ret
        exact ⟨rfl, Hb3.out.trans (hb4.mono Hb3.out.size)⟩
      · by_cases hz : ws.length = 0
        · have d1 : ((ws.length : Int) == 0) = true := by rw [beq_iff_eq]; omega
          have Hz := Lib.hid hz
          clear hz
          go_wp2_with fail
          refine (alive_any _).mono ?_
          rintro e w4 ⟨rfl, hb4⟩
          go_wp2_with fail
          go_ret
          exact ⟨rfl, Hb3.out.trans (hb4.mono Hb3.out.size)⟩
        · have d1 : ((ws.length : Int) == 0) = false := by rw [beq_eq_false_iff_ne]; omega
          obtain ⟨N, T, wn, rfl, rfl, rfl, h1, h2, h3, hwn, hsig⟩ : ∃ (N T : Nat) (wn : List Nat), n = N ∧ t = T ∧ ws = nats wn ∧ 1 ≤ N ∧ N ≤ 10 ∧ T < 2 ^ N ∧ (∀ x ∈ wn, x < 2 ^ N) ∧ signature n t ws = (sgN N T 0 wn : Int) := by
            have hfit : fits n t 0 = true := by
              rcases hf : fits n t 0 with _ | _
              · rw [signature_unfit hf] at hneg; omega
              · rfl
            obtain ⟨N, T, S, rfl, rfl, _, h1, h2, h3, h4⟩ := fits_nat hfit
            have hs := signature_fit (ws := ws) hfit (by omega)
            cases hres : sigFold N T 0 ws with
            | none => rw [hs, hres] at hneg; simp [sigOut] at hneg
            | some r =>
              obtain ⟨wn, rfl, hwn, rfl⟩ := sigFold_some hres
              exact ⟨N, T, wn, rfl, rfl, rfl, h1, h2, h3, hwn, by rw [hs, hres]; rfl⟩
          obtain ⟨M, hM, e, hp, hp0⟩ : ∃ M : Nat, Hid (2 ^ N = M) ∧ (2 : Int) ^ N = (M : Int) ∧ M ≤ 1024 ∧ 2 ≤ M := ⟨2 ^ N, Lib.hid rfl, two_pow N, pow_le_nat h2, Nat.one_lt_two_pow (by omega)⟩
          have H3 := Lib.hid h3
          have Hwn := Lib.hid hwn
          have hS := sg_lt h3 wn 0 (Nat.two_pow_pos N) hwn
          have hSM : sgN N T 0 wn < M := by rw [← hM.out]; exact hS
          have HS := Lib.hid hS
          rw [hsig]
          clear hsig hS h3 hwn hneg
          go_upto_if 53 with fail
          go_cut [10] (fun s10 wx => ∃ d : Nat, s10 = .int .i64 d ∧ 1 ≤ d ∧ d < M ∧ Hid (Drew w3 wx))
          case first =>
            by_cases hm : 0 < more.length
            · obtain ⟨b, o, cm, hv, hcm1, hcm2, hbl, hcell⟩ := Hmr3.out.open hm
              obtain ⟨x, hx⟩ : ∃ x, more[0]? = some x := ⟨_, List.getElem?_eq_getElem hm⟩
              have hw := Go.bounds_u8 (Hmwf.out x (List.mem_of_getElem? hx))
              have hsrc : w3.cell? ⟨b, o, none⟩ = some (.int .u8 x) := hcell 0 _ (by simp [hx])
              injection hv with hA _ hC
              subst hA hC
              obtain ⟨hw0, hw1⟩ := hw
              have Hx := Lib.hid hx
              clear hx hcell
              go_wp2_with fail
              have x1 : IntKind.i64.wrap (M : Int) = M := IntWalk.i64_in _ (by omega)
              have x2 : IntKind.i64.wrap ((M : Int) - 1) = M - 1 := IntWalk.i64_in _ (by omega)
              have x3 : ¬ ((M : Int) - 1 = 0) := by omega
              go_quiet (fail)
              clear x1 x2 x3
              go_wp2_with fail
              go_meet
              have y1 : 0 ≤ x % ((M : Int) - 1) := Int.emod_nonneg _ (by omega)
              have y2 : x % ((M : Int) - 1) < (M : Int) - 1 := Int.emod_lt_of_pos _ (by omega)
              exact ⟨(1 + x % ((M : Int) - 1)).toNat, by rw [IntWalk.wrap64_in _ (by omega)]; congr 1; omega, by omega, by omega, Lib.hid (Drew.by _ _)⟩
            · go_wp2_with fail
              go_meet
              exact ⟨1, rfl, by omega, by omega, Lib.hid (Drew.refl _)⟩
          case rest =>
            obtain ⟨d, rfl, hd1, hd2, Hd⟩ := hcut
            obtain ⟨i, hi, hil⟩ : ∃ i : Nat, (more.length : Int) % ((nats wn).length : Int) = (i : Int) ∧ i < (nats wn).length := ⟨more.length % (nats wn).length, rfl, Nat.mod_lt _ (by omega)⟩
            obtain ⟨X, hX⟩ : ∃ X, wn[i]? = some X := ⟨_, List.getElem?_eq_getElem (by rw [nats_length] at hil; exact hil)⟩
            have hXM : X < M := by rw [← hM.out]; exact Hwn.out X (List.mem_of_getElem? hX)
            have HX := Lib.hid hX
            have hxor : bits .xor .i64 (X : Int) (d : Int) = ((X ^^^ d : Nat) : Int) := i64_xor_nat _ _ (by omega) (by omega)
            have hrowc := Hrow3.out.drew Hd.out
            have Hrowc := Lib.hid (show IntsAt _ _ (nats wn) from hrowc)
            clear hX hrowc
            go_upto_region 15 with (at_builtin; refine append_ints rfl (.tmp 63) (.tmp 64) rfl wc.heap.size _ 0 _ rfl (World.ownsRow_lit (base := wc.heap.size) (e := 3) (size := 1) wc #[] 0 (Nat.le_refl _) (by unfold maxLen; omega) rfl) _ (nats wn) rfl (Hrowc.out.alloc _) (by omega) (by simp) ?_; intro v4 w4 hown4 hg4; obtain ⟨g, c4, rfl, hgw, hg4', hc4, hc4', Hown4, Hb4, hcg, hfg⟩ := sig_step1 hown4 hg4 (by omega) HX.out; clear hown4 hg4)
            have hst := (Hown4.out.stored i (.int .i64 ((X ^^^ d : Nat) : Int))).1
            rw [ints_set, nats_set] at hst
            have hb5 : Below w.heap.size w (w4.setCell ⟨g, i, none⟩ (.int .i64 ((X ^^^ d : Nat) : Int))) := (((Hb3.out.trans (Hd.out.below _)).trans (Hb4.out.mono (by rw [Hd.out.size]; exact Hb3.out.size)))).setCell (by have := Hb3.out.size; have := Hd.out.size; simp; omega) _
            have hz5 : (w4.setCell ⟨g, i, none⟩ (.int .i64 ((X ^^^ d : Nat) : Int))).heap.size = w4.heap.size := by simp
            have Hst := Lib.hid hst
            have Hb5 := Lib.hid hb5
            have Hz5 := Lib.hid hz5
            clear hst hb5 hz5 hcg hfg Hb4
            generalize w4.setCell ⟨g, i, none⟩ (.int .i64 ((X ^^^ d : Nat) : Int)) = w5 at *
            have hmk := run_make_row' (P := Try.prog) 23 3 (.int .i64 0) 8 Try.underlying23 info_int rfl .i64 .i64 (nats wn).length (by omega) (by omega)
            go_upto_region 16 with fail
            clear hmk
            have hown6 := World.ownsRow_lit (base := w5.heap.size) (e := 3) (size := 1) w5 (madeCells #[Value.int .i64 0] (nats wn).length) (nats wn).length (Nat.le_refl _) (by unfold maxLen; omega) (by simp [madeCells])
            rw [made_nats] at hown6
            have Hbad := Lib.hid (own_below Hst.out ((Below.refl _ _).alloc (Nat.le_refl _) (.cells (madeCells #[Value.int .i64 0] (nats wn).length) 3)))
            have Hb6 := Lib.hid (Hb5.out.alloc Hb5.out.size (.cells (madeCells #[Value.int .i64 0] (nats wn).length) 3))
            have Hz6 : Hid ((w5.alloc (.cells (madeCells #[Value.int .i64 0] (nats wn).length) 3)).heap.size = w5.heap.size + 1) := Lib.hid (by simp)
            obtain ⟨u, hu, hcu, hfu⟩ := own_slot hown6 (j := i) (by simpa using hil)
            have Hown6 := Lib.hid hown6
            have Hu := Lib.hid hu
            clear hown6 hu Hst
            generalize w5.alloc (.cells (madeCells #[Value.int .i64 0] (nats wn).length) 3) = w6 at *
            go_upto_region 17 with fail
            obtain ⟨hst7, hgr7⟩ := Hown6.out.stored i (.int .i64 (d : Int))
            rw [ints_set, nats_set] at hst7
            have hbad7 := Hbad.out.kept hgr7 (.inr (by simp [Value.ownBlock]; have := Hz5.out; omega))
            have hb7 : Below w.heap.size w (w6.setCell ⟨w5.heap.size, i, none⟩ (.int .i64 (d : Int))) := Hb6.out.setCell Hb5.out.size _
            have Hst7 := Lib.hid (show IntsAt _ _ (nats ((List.replicate (nats wn).length 0).set i d)) from by
              have h := Row.of_own hst7
              unfold IntsAt
              rw [show (nats ((List.replicate (nats wn).length 0).set i d)).length = (nats wn).length from by simp [nats]]
              exact h)
            have Hbad7 := Lib.hid (show IntsAt _ _ (nats (wn.set i (X ^^^ d))) from by
              have h := Row.of_own hbad7
              unfold IntsAt
              rw [show (nats (wn.set i (X ^^^ d))).length = (nats wn).length from by simp [nats]]
              exact h)
            have Hb7 := Lib.hid hb7
            clear hst7 hgr7 hbad7 hb7 Hown6 Hbad Hb6 Hb5 hcu hfu Hu
            generalize w6.setCell ⟨w5.heap.size, i, none⟩ (.int .i64 (d : Int)) = w7 at *
            -- the signatures
            have hfit : fits N T 0 = true := fits_mk h1 h2 H3.out (S := 0) (Nat.two_pow_pos N)
            have hlen30 : wn.length ≤ 30 := by rw [nats_length] at hwl; exact hwl
            have hd2N : d < 2 ^ N := by rw [hM.out]; exact hd2
            have hXN : X < 2 ^ N := by rw [hM.out]; exact hXM
            obtain ⟨hch, hchz⟩ := sg_change (n := N) (t := T) (d := d) HX.out
            obtain ⟨Z, hZ⟩ : ∃ Z, sgN N T 0 ((List.replicate wn.length 0).set i d) = Z := ⟨_, rfl⟩
            rw [hZ] at hch hchz
            have hZlt : Z < 2 ^ N := by
              rw [← hZ]
              refine sg_lt H3.out _ _ (Nat.two_pow_pos N) fun x hx => ?_
              rcases List.mem_or_eq_of_mem_set hx with hx | hx
              · have := List.eq_of_mem_replicate hx
                have := Nat.two_pow_pos N
                omega
              · omega
            have s1 : signature N T (nats (wn.set i (X ^^^ d))) = ((sgN N T 0 wn ^^^ Z : Nat) : Int) := by
              rw [signature_fit hfit (by simp [nats]; omega), sigFold_nats _ _ (by
                intro x hx
                rcases List.mem_or_eq_of_mem_set hx with hx | hx
                · exact Hwn.out x hx
                · rw [hx]; exact Nat.xor_lt_two_pow hXN hd2N), hch]
              rfl
            have s2 : signature N T (nats ((List.replicate (nats wn).length 0).set i d)) = (Z : Int) := by
              rw [signature_fit hfit (by simp [nats]; omega), sigFold_nats _ _ (by
                intro x hx
                rcases List.mem_or_eq_of_mem_set hx with hx | hx
                · have := List.eq_of_mem_replicate hx
                  have := Nat.two_pow_pos N
                  omega
                · omega), nats_length, hZ]
              rfl
            have hx2 : bits .xor .i64 ((sgN N T 0 wn : Nat) : Int) (Z : Int) = ((sgN N T 0 wn ^^^ Z : Nat) : Int) := i64_xor_nat _ _ (by omega) (by have := hM.out; omega)
            have hlt : sgN N T 0 wn ^^^ Z < M := by rw [← hM.out]; exact Nat.xor_lt_two_pow HS.out hZlt
            have hodd : T % 2 = 1 → sgN N T 0 wn ^^^ Z ≠ sgN N T 0 wn := fun ho he => by
              have hz0 : Z ≠ 0 := by
                rw [hchz]
                exact sg_ne h1 ho H3.out _ _ hd2N (by omega)
              apply hz0
              have h5 := congrArg (sgN N T 0 wn ^^^ ·) he
              simp only [← Nat.xor_assoc, Nat.xor_self, Nat.zero_xor] at h5
              exact h5
            have Hs1 := Lib.hid s1
            have Hs2 := Lib.hid s2
            have Hodd := Lib.hid hodd
            clear s1 s2 hodd hZlt hch hchz hZ hfit hxor Hz5 Hz6 Hrowc Hrow3 hi Hd
            generalize sgN N T 0 wn = S at *
            generalize hR : S ^^^ Z = R at *
            have HR := Lib.hid hR
            clear hR
            have d3 : (((R : Nat) : Int) == ((R : Nat) : Int)) = true := beq_self_eq_true _
            go_wp2_with fail
            refine (implSignature_any N T _ (nats (wn.set i (X ^^^ d))) _ Hbad7.out).mono ?_
            rintro e w8 ⟨rfl, hd8⟩
            rw [Hs1.out]
            have Hst8 := Lib.hid (Hst7.out.drew hd8)
            have Hd8 := Lib.hid hd8
            clear hd8
            by_cases ht : T % 2 = 1
            · have t1 : (((T : Int) % 2) == 0) = false := by rw [beq_eq_false_iff_ne]; omega
              have t2 : ((R : Int) != (S : Int)) = true := by
                rw [bne_iff_ne]
                intro he
                exact Hodd.out ht (Int.ofNat.inj he)
              have Ht := Lib.hid ht
              clear ht
              go_wp2_with fail
              refine (implSignature_any N T _ (nats ((List.replicate (nats wn).length 0).set i d)) _ Hst8.out).mono ?_
              rintro e w9 ⟨rfl, hd9⟩
              rw [Hs2.out]
              have Hd9 := Lib.hid hd9
              clear hd9
              go_wp2_with fail
              go_ret
              exact ⟨ret_bool (by simp), (Hb7.out.trans (Hd8.out.below _)).trans (Hd9.out.below _)⟩
            · have t1 : (((T : Int) % 2) == 0) = true := by rw [beq_iff_eq]; omega
              have Ht := Lib.hid ht
              clear ht
              go_wp2_with fail
              refine (implSignature_any N T _ (nats ((List.replicate (nats wn).length 0).set i d)) _ Hst8.out).mono ?_
              rintro e w9 ⟨rfl, hd9⟩
              rw [Hs2.out]
              have Hd9 := Lib.hid hd9
              clear hd9
              go_wp2_with fail
              go_ret
              exact ⟨ret_bool (by simp), (Hb7.out.trans (Hd8.out.below _)).trans (Hd9.out.below _)⟩
    · go_enter Try.func10, Try.ntmps10
      go_wp2
      go_ret
      exact ⟨rfl, Below.refl _ _⟩
  · go_enter Try.func10, Try.ntmps10
    go_wp2
    go_ret
    exact ⟨rfl, Below.refl _ _⟩

/-! The step from the walk to the row. -/
set_option maxRecDepth 100000 in
theorem lifted (os : Os) (started : os.Started) (H : Type) (enc : TypeId × Value → H) :
    ReturnsInHanded {} Try.checked os 10 .any (Rows.fnSignatureSpec.pre6 enc Try.prog Try.f10 Rows.fnSignatureRow.domain false) (Rows.fnSignatureSpec.post enc Try.prog Try.f10 false true false false) := by
  refine returnsInHanded_of_change (C := Try.checked) own started (by kernel_rfl) Try.func10
    (ChangeSpec.witness6 (enc := enc) (C := Try.checked) false ⟨#[], #[.slice none 0 0, .slice none 0 0], []⟩ 8 (by kernel_rfl) (by kernel_rfl) (by kernel_rfl) (by kernel_rfl)) ?_
  intro W base args ds gs before hval0 hW hcnd _
  have hval : ∀ (j : Nat) t v, Try.f10.params[j]? = some t → args[j]? = some v → Value.okWide Try.prog W .any base t v := hval0
  have hW' := hW
  obtain ⟨p, q, hA0, hV, rfl, hfz, hnd⟩ := hW
  have hA : DataW.TrodAll enc Try.prog W 0 (fun _ => true) true Try.f10.params.toList args.toList ds p := hA0
  rw [Try.params10] at hA hval
  obtain ⟨v0, vs0, d0, ds0, p0, q0, hargs, rfl, rfl, h0, r0⟩ := trodAll_cons hA
  obtain ⟨v1, vs1, d1, ds1, p1, q1, rfl, rfl, rfl, h1, r1⟩ := trodAll_cons r0
  obtain ⟨rfl, rfl, rfl⟩ := trodAll_nil r1
  obtain rfl : args = #[v0, v1] := by cases args; simp_all
  obtain ⟨rfl, rfl⟩ := trodVars_none hV
  obtain ⟨a0, len0, cap0, rfl⟩ := okWide_slice Try.underlying22 (hval 0 22 v0 rfl rfl)
  have k0 := h0
  have lt0 : ∀ x ∈ p0, x.block < W.heap.size := by obtain ⟨m, hm⟩ := k0; exact DataW.trod_lt m _ _ _ hm
  obtain ⟨z0, w0⟩ : ∃ zs, IsRow .u8 W a0 len0 cap0 zs := by
    obtain ⟨fuel, hf⟩ := h0
    rcases open_ints Try.underlying22 Try.underlying5 (by kernel_rfl) hf with ⟨hcs, _⟩ | ⟨x, l, c, zs, hcs, _, hl, hm, hz, _, hcell, hwz⟩
    · simp [Value.cells] at hcs
      obtain ⟨rfl, rfl, rfl⟩ := hcs
      exact ⟨[], .inl ⟨rfl, rfl, rfl, rfl⟩⟩
    · simp [Value.cells] at hcs
      obtain ⟨rfl, rfl, rfl⟩ := hcs
      exact ⟨zs, .inr ⟨_, rfl, hl, hm, by simpa using hz, hcell, hwz⟩⟩
  obtain ⟨a1, len1, cap1, rfl⟩ := okWide_slice Try.underlying22 (hval 1 22 v1 rfl rfl)
  have k1 := h1
  have lt1 : ∀ x ∈ p1, x.block < W.heap.size := by obtain ⟨m, hm⟩ := k1; exact DataW.trod_lt m _ _ _ hm
  obtain ⟨z1, w1⟩ : ∃ zs, IsRow .u8 W a1 len1 cap1 zs := by
    obtain ⟨fuel, hf⟩ := h1
    rcases open_ints Try.underlying22 Try.underlying5 (by kernel_rfl) hf with ⟨hcs, _⟩ | ⟨x, l, c, zs, hcs, _, hl, hm, hz, _, hcell, hwz⟩
    · simp [Value.cells] at hcs
      obtain ⟨rfl, rfl, rfl⟩ := hcs
      exact ⟨[], .inl ⟨rfl, rfl, rfl, rfl⟩⟩
    · simp [Value.cells] at hcs
      obtain ⟨rfl, rfl, rfl⟩ := hcs
      exact ⟨zs, .inr ⟨_, rfl, hl, hm, by simpa using hz, hcell, hwz⟩⟩
  clear hA0 hval0
  refine (walk a0 len0 cap0 z0 a1 len1 cap1 z1 W w0 w1).mono fun e W' ⟨he, bel⟩ => ?_
  subst he
  exact ⟨_, rfl, _, _, _, [], _, [], hW', trodAll_mk1 (shut_bool Try.underlying4 _), (trodAll_cons_mk (Below.trod laidOut (by kernel_rfl) (of_decide_eq_true (by kernel_rfl)) k0 bel lt0) (trodAll_cons_mk (Below.trod laidOut (by kernel_rfl) (of_decide_eq_true (by kernel_rfl)) k1 bel lt1) trodAll_mk0)), rfl, bel.frame _, fun h => by cases h⟩

theorem over : Rows.fnSignatureRow.holds Try.pinned (OpenSpec.ofChange Rows.fnSignatureSpec) :=
  OpenClaim.holds_of_wide 10 Try.f10 rfl rfl rfl rfl rfl rfl rfl ⟨rfl, rfl, rfl, rfl, rfl⟩ rfl rfl rfl rfl rfl (by kernel_rfl) Try.func10 (by kernel_rfl)
    (of_decide_eq_true (by kernel_rfl)) (by unfold Func.isWrapper; first | (rw [if_pos (by decide +kernel)]; kernel_rfl) | (rw [if_neg (by decide +kernel)]; exact ⟨rfl, rfl⟩))
    (fun os started H enc _ => lifted os started H enc)

/-- The statement. -/
theorem proved : Rows.FnSignatureSaid := over
#print axioms proved
end Go.Proofs.Ytpbgfhlhpinkeaa.fnSignature
