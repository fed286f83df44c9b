import Derived.Test.YtkkkjbinfdohpaaS06
import Derived.Test.YtkkkjbinfdohpaaS04
import Derived.Test.YtkkkjbinfdohpaaS01
import Derived.Test.YtkkkjbinfdohpaaS03
import Derived.Test.YtkkkjbinfdohpaaS02
import Derived.Test.YtkkkjbinfdohpaaS05
set_option linter.unusedVariables false
set_option linter.unusedSimpArgs false
set_option maxRecDepth 100000
set_option maxHeartbeats 16000000
namespace Go.Proofs.Ytkkkjbinfdohpaa
open Go.RowKit
theorem cycle_any (g : Nat) (d : Ci) (s x : Nat) (w : World) (h : PCirc w g (Cir.toCz d)) (hd : Cir.Ok d) (hs : s ≤ 1000) (hx : x ≤ 1000) :
  Calls Try.prog 78 #[.pointer (some ⟨g, 0, none⟩), .int .i64 s, .int .i64 x] w fun e w' => e = .returned (.tuple #[.int .i64 (Cir.nextOf d s x : Nat), .int .i64 (Cir.num (Cir.outsOf d s x) : Nat)]) ∧ Below w.heap.size w w' := by
 have l1 := hd.ins
 have l2 := hd.nexts
 have l3 := hd.outss
 have HN := Lib.hid hd.next
 have HO := Lib.hid hd.out
 have HP := Lib.hid h
 obtain ⟨vn, vg, vo, hg, c0, c1, c2, c3, r1, r2, r3⟩ := h
 obtain ⟨An, cn, rfl, hcn, hcmn⟩ := NatsAt.shape (xs := d.next) r1
 obtain ⟨Ao, co, rfl, hco, hcmo⟩ := NatsAt.shape (xs := d.outs) r3
 have R1 : Hid (NatsAt w (.slice An d.next.length cn) d.next) := Lib.hid r1
 have R3 : Hid (NatsAt w (.slice Ao d.outs.length co) d.outs) := Lib.hid r3
 have C0 : Hid (w.cell? ⟨g, 0, none⟩ = some (.int .i64 d.ins)) := Lib.hid c0
 have C1 := Lib.hid c1
 have C3 := Lib.hid c3
 have HL : Hid ((Cir.vals d (Cir.bits s d.next.length) (Cir.bits x d.ins)).length = Cir.nvars d) := Lib.hid (Cir.vals_length d (Cir.bits_length _ _) (Cir.bits_length _ _))
 have hnv : Cir.nvars d ≤ 22 := by have := hd.gatess; unfold Cir.nvars Cir.nfirst; omega
 have Hd := Lib.hid hd
 clear r1 r2 r3 c0 c1 c2 c3 hd
 go_enter Try.func78, Try.ntmps78
 go_wp2_with fail
 refine wp_region_rs (quietRS Try.prog _ w _) quietRS_ok (by kernel_rfl) (by kernel_rfl) (by kernel_rfl) (nlb rfl) trivial trivial ?_
 refine rs_old quietRS_ok quiet_any _ (.inl rfl) _ rfl rfl ?_
 refine rs_old quietRS_ok quiet_any _ (.inl rfl) _ rfl rfl ?_
 refine rs_old quietRS_ok quiet_any _ (.inl rfl) _ rfl rfl ?_
 apply rs_eq quietRS_ok quiet_any
 ·intro ρ w' ho hK
  have ho : Only _ w w' := ho
  obtain ⟨h0, -⟩ := hK
  have h0' : ρ (.tmp 11) = _ := h0
  go_simp
  try exact rfl
 apply rs_eq quietRS_ok quiet_any
 ·intro ρ w' ho hK
  have ho : Only _ w w' := ho
  obtain ⟨h0, -⟩ := hK
  have h0' : ρ (.tmp 12) = _ := h0
  go_simp
  try exact rfl
 apply rs_eq quietRS_ok quiet_any
 ·intro ρ w' ho hK
  have ho : Only _ w w' := ho
  obtain ⟨h0, -⟩ := hK
  have h0' : ρ (.tmp 13) = _ := h0
  have hb := only_below ho
  have q0 := (hb.cell (p := ⟨g, 0, none⟩) hg).trans C0.out
  have q1 := (hb.cell (p := ⟨g, 1, none⟩) hg).trans C1.out
  go_simp
  try exact rfl
 apply rs_eq quietRS_ok quiet_any
 ·intro ρ w' ho hK
  have ho : Only _ w w' := ho
  obtain ⟨h0, -⟩ := hK
  have h0' : ρ (.tmp 14) = _ := h0
  go_simp
  try exact rfl
 refine rs_call quietRS_ok quiet_any (TBools (Cir.bits s d.next.length)) (stb_bools _) 112 _ _ rfl (fun ρ w' ho hK => by
  have ho : Only _ w w' := ho
  obtain ⟨h0, h1, h2, -⟩ := hK
  have h0' : ρ (.func 112) = .func (.func 112) #[] #[] := h0
  have h1' : ρ (.tmp 10) = _ := h1
  have h2' : ρ (.tmp 15) = _ := h2
  refine ⟨#[ρ (.tmp 10), ρ (.tmp 15)], ?_, ?_⟩
  ·go_simp
  ·rw [h1', h2']
   refine (bitsOf_any s d.next.length w' (by omega) (by omega)).mono ?_
   rintro e w2 ⟨v2, rfl, hO, hb⟩
   exact ⟨v2, rfl, Row.of_own hO, hb⟩) ?_
 refine rs_old quietRS_ok quiet_any _ (.inl rfl) _ rfl rfl ?_
 refine rs_old quietRS_ok quiet_any _ (.inl rfl) _ rfl rfl ?_
 apply rs_eq quietRS_ok quiet_any
 ·intro ρ w' ho hK
  have ho : Only _ w w' := ho
  obtain ⟨h0, -⟩ := hK
  have h0' : ρ (.tmp 18) = _ := h0
  go_simp
  try exact rfl
 apply rs_eq quietRS_ok quiet_any
 ·intro ρ w' ho hK
  have ho : Only _ w w' := ho
  obtain ⟨h0, -⟩ := hK
  have h0' : ρ (.tmp 19) = _ := h0
  go_simp
  try exact rfl
 apply rs_eq quietRS_ok quiet_any
 ·intro ρ w' ho hK
  have ho : Only _ w w' := ho
  obtain ⟨h0, -⟩ := hK
  have h0' : ρ (.tmp 20) = _ := h0
  have hb := only_below ho
  have q0 := (hb.cell (p := ⟨g, 0, none⟩) hg).trans C0.out
  have q1 := (hb.cell (p := ⟨g, 1, none⟩) hg).trans C1.out
  go_simp
  try exact rfl
 refine rs_call quietRS_ok quiet_any (TBools (Cir.bits x d.ins)) (stb_bools _) 112 _ _ rfl (fun ρ w' ho hK => by
  have ho : Only _ w w' := ho
  obtain ⟨h0, h1, h2, -⟩ := hK
  have h0' : ρ (.func 112) = .func (.func 112) #[] #[] := h0
  have h1' : ρ (.tmp 17) = _ := h1
  have h2' : ρ (.tmp 21) = _ := h2
  refine ⟨#[ρ (.tmp 17), ρ (.tmp 21)], ?_, ?_⟩
  ·go_simp
  ·rw [h1', h2']
   refine (bitsOf_any x d.ins w' (by omega) (by omega)).mono ?_
   rintro e w2 ⟨v2, rfl, hO, hb⟩
   exact ⟨v2, rfl, Row.of_own hO, hb⟩) ?_
 refine rs_call quietRS_ok quiet_any (TBools (Cir.vals d (Cir.bits s d.next.length) (Cir.bits x d.ins))) (stb_bools _) 85 _ _ rfl (fun ρ w' ho hK => by
  have ho : Only _ w w' := ho
  obtain ⟨h0, h1, h2, h3, h4, h5, -⟩ := hK
  have h0' : ρ (.func 85) = .func (.func 85) #[] #[] := h0
  have h1' : ρ (.tmp 9) = _ := h1
  have h2' : (TBools (Cir.bits s d.next.length)) w' (ρ (.tmp 16)) := h2
  have h3' : (TBools (Cir.bits x d.ins)) w' (ρ (.tmp 22)) := h3
  have h4' : ρ (.const (Value.int IntKind.i64 (-1))) = (Value.int IntKind.i64 (-1)) := h4
  have h5' : ρ (.const (Value.bool false)) = (Value.bool false) := h5
  refine ⟨#[ρ (.tmp 9), ρ (.tmp 16), ρ (.tmp 22), ρ (.const (Value.int IntKind.i64 (-1))), ρ (.const (Value.bool false))], ?_, ?_⟩
  ·go_simp
  ·rw [h1', h4', h5']
   refine (evaluate_any g d _ _ _ _ w' (HP.out.below (only_below ho)) Hd.out h2' h3' (Cir.bits_length _ _) (Cir.bits_length _ _)).mono ?_
   rintro e w2 ⟨v2, rfl, hO, hb⟩
   exact ⟨v2, rfl, Row.of_own hO, hb⟩) ?_
 refine rs_same quietRS_ok quiet_any 23 14 (.inr rfl) rfl _ rfl ?_
 intro f w9 k9 hk9 hI9 ht9 hcp9
 have E0 : f 0 = _ := ht9 0 (nlb rfl)
 conv at E0 => rhs; whnf
 have E1 : f 1 = _ := ht9 1 (nlb rfl)
 conv at E1 => rhs; whnf
 have E2 : f 2 = _ := ht9 2 (nlb rfl)
 conv at E2 => rhs; whnf
 have E3 : f 3 = _ := ht9 3 (nlb rfl)
 have E4 : f 4 = _ := ht9 4 (nlb rfl)
 have E5 : f 5 = _ := ht9 5 (nlb rfl)
 have E6 : f 6 = _ := ht9 6 (nlb rfl)
 have E7 : (TBools (Cir.bits s d.next.length)) w9 (f 7) := ht9 7 (nlb rfl)
 have E8 : f 8 = _ := ht9 8 (nlb rfl)
 conv at E8 => rhs; whnf
 have E9 : f 9 = _ := ht9 9 (nlb rfl)
 conv at E9 => rhs; whnf
 have E10 : f 10 = _ := ht9 10 (nlb rfl)
 have E11 : f 11 = _ := ht9 11 (nlb rfl)
 have E12 : f 12 = _ := ht9 12 (nlb rfl)
 have E13 : (TBools (Cir.bits x d.ins)) w9 (f 13) := ht9 13 (nlb rfl)
 have E14 : (TBools (Cir.vals d (Cir.bits s d.next.length) (Cir.bits x d.ins))) w9 (f 14) := ht9 14 (nlb rfl)
 have E15 : (TBools (Cir.vals d (Cir.bits s d.next.length) (Cir.bits x d.ins))) w9 (f 15) := ht9 15 (nlb rfl)
 have Ho9 : Only _ w w9 := hI9.2.1
 have C15 : f 15 = f 14 := (hcp9 15 _ 23 14 rfl rfl rfl rfl).2
 simp only [putAll, E0, E1, E2, E3, E4, E5, E6, E8, E9, E10, E11, E12, C15, Nat.zero_add, Nat.reduceAdd, Act.put, List.setIfInBounds_toArray, List.set_cons_succ, List.set_cons_zero]
 clear E0 E1 E2 E3 E4 E5 E6 E8 E9 E10 E11 E12
 clear hI9 ht9 hcp9 hk9
 generalize f 7 = r7 at *
 generalize f 13 = r13 at *
 generalize f 14 = r14 at *
 have hb9 := only_below Ho9
 have HV9 := Lib.hid E14
 have C1 := Lib.hid ((hb9.cell (p := ⟨g, 1, none⟩) hg).trans C1.out)
 have C3 := Lib.hid ((hb9.cell (p := ⟨g, 3, none⟩) hg).trans C3.out)
 have R1 := Lib.hid (R1.out.below hb9)
 have R3 := Lib.hid (R3.out.below hb9)
 have B9 := Lib.hid hb9
 have hg9 : g < w9.heap.size := Nat.lt_of_lt_of_le hg hb9.size
 clear hb9 E7 E13 E14 Ho9 HP Hd C0
 go_wp2_with fail
 obtain ⟨w1, hw1⟩ : ∃ w1, w1 = w9 := ⟨_, rfl⟩
 subst hw1
 obtain ⟨u, hu⟩ : ∃ u, u = r14 := ⟨_, rfl⟩
 subst hu
 have HN2 : Hid (Cir.nextOf d s x = Cir.num (Cir.lits (Cir.vals d (Cir.bits s d.next.length) (Cir.bits x d.ins)) d.next)) := Lib.hid rfl
 have HO2 : Hid (Cir.num (Cir.outsOf d s x) = Cir.num (Cir.lits (Cir.vals d (Cir.bits s d.next.length) (Cir.bits x d.ins)) d.outs)) := Lib.hid rfl
 generalize Cir.vals d (Cir.bits s d.next.length) (Cir.bits x d.ins) = V at *
 refine wp_region_rs (quietRS Try.prog _ w1 _) quietRS_ok (by kernel_rfl) (by kernel_rfl) (by kernel_rfl) (nlb rfl) trivial trivial ?_
 refine rs_old quietRS_ok quiet_any _ (.inl rfl) _ rfl rfl ?_
 refine rs_old quietRS_ok quiet_any _ (.inl rfl) _ rfl rfl ?_
 apply rs_eq quietRS_ok quiet_any
 ·intro ρ w' ho hK
  have ho : Only _ w1 w' := ho
  obtain ⟨h0, -⟩ := hK
  have h0' : ρ (.tmp 25) = _ := h0
  go_simp
  try exact rfl
 apply rs_eq quietRS_ok quiet_any
 ·intro ρ w' ho hK
  have ho : Only _ w1 w' := ho
  obtain ⟨h0, -⟩ := hK
  have h0' : ρ (.tmp 26) = _ := h0
  go_simp
  try exact rfl
 apply rs_eq quietRS_ok quiet_any
 ·intro ρ w' ho hK
  have ho : Only _ w1 w' := ho
  obtain ⟨h0, -⟩ := hK
  have h0' : ρ (.tmp 27) = _ := h0
  have hb := only_below ho
  have q0 := (hb.cell (p := ⟨g, 1, none⟩) hg9).trans C1.out
  have q1 := (hb.cell (p := ⟨g, 3, none⟩) hg9).trans C3.out
  go_simp
  try exact rfl
 refine rs_call quietRS_ok quiet_any (TBools (Cir.lits V d.next)) (stb_bools _) 114 _ _ rfl (fun ρ w' ho hK => by
  have ho : Only _ w1 w' := ho
  obtain ⟨h0, h1, h2, -⟩ := hK
  have h0' : ρ (.func 114) = .func (.func 114) #[] #[] := h0
  have h1' : ρ (.tmp 24) = _ := h1
  have h2' : ρ (.tmp 28) = _ := h2
  refine ⟨#[ρ (.tmp 24), ρ (.tmp 28)], ?_, ?_⟩
  ·go_simp
  ·rw [h1', h2']
   refine (litValues_any _ _ V d.next w' (Row.below HV9.out (only_below ho)) (R1.out.below (only_below ho)) (by rw [HL.out]; exact HN.out) (by omega) (by rw [HL.out]; omega)).mono ?_
   rintro e w2 ⟨v2, rfl, hO, hb⟩
   exact ⟨v2, rfl, Row.of_own hO, hb⟩) ?_
 refine rs_call quietRS_ok quiet_any (TEq (.int .i64 (Cir.num (Cir.lits V d.next) : Nat))) (stb_eq _ _) 113 _ _ rfl (fun ρ w' ho hK => by
  have ho : Only _ w1 w' := ho
  obtain ⟨h0, h1, -⟩ := hK
  have h0' : ρ (.func 113) = .func (.func 113) #[] #[] := h0
  have h1' : (TBools (Cir.lits V d.next)) w' (ρ (.tmp 29)) := h1
  refine ⟨#[ρ (.tmp 29)], ?_, ?_⟩
  ·go_simp
  ·skip
   refine (number_any _ _ w' h1' (by rw [lits_length]; omega)).mono ?_
   rintro e w2 ⟨rfl, rfl⟩
   exact ⟨_, rfl, rfl, Below.refl _ _⟩) ?_
 refine rs_old quietRS_ok quiet_any _ (.inl rfl) _ rfl rfl ?_
 refine rs_old quietRS_ok quiet_any _ (.inl rfl) _ rfl rfl ?_
 apply rs_eq quietRS_ok quiet_any
 ·intro ρ w' ho hK
  have ho : Only _ w1 w' := ho
  obtain ⟨h0, -⟩ := hK
  have h0' : ρ (.tmp 32) = _ := h0
  go_simp
  try exact rfl
 apply rs_eq quietRS_ok quiet_any
 ·intro ρ w' ho hK
  have ho : Only _ w1 w' := ho
  obtain ⟨h0, -⟩ := hK
  have h0' : ρ (.tmp 33) = _ := h0
  go_simp
  try exact rfl
 apply rs_eq quietRS_ok quiet_any
 ·intro ρ w' ho hK
  have ho : Only _ w1 w' := ho
  obtain ⟨h0, -⟩ := hK
  have h0' : ρ (.tmp 34) = _ := h0
  have hb := only_below ho
  have q0 := (hb.cell (p := ⟨g, 1, none⟩) hg9).trans C1.out
  have q1 := (hb.cell (p := ⟨g, 3, none⟩) hg9).trans C3.out
  go_simp
  try exact rfl
 refine rs_call quietRS_ok quiet_any (TBools (Cir.lits V d.outs)) (stb_bools _) 114 _ _ rfl (fun ρ w' ho hK => by
  have ho : Only _ w1 w' := ho
  obtain ⟨h0, h1, h2, -⟩ := hK
  have h0' : ρ (.func 114) = .func (.func 114) #[] #[] := h0
  have h1' : ρ (.tmp 31) = _ := h1
  have h2' : ρ (.tmp 35) = _ := h2
  refine ⟨#[ρ (.tmp 31), ρ (.tmp 35)], ?_, ?_⟩
  ·go_simp
  ·rw [h1', h2']
   refine (litValues_any _ _ V d.outs w' (Row.below HV9.out (only_below ho)) (R3.out.below (only_below ho)) (by rw [HL.out]; exact HO.out) (by omega) (by rw [HL.out]; omega)).mono ?_
   rintro e w2 ⟨v2, rfl, hO, hb⟩
   exact ⟨v2, rfl, Row.of_own hO, hb⟩) ?_
 refine rs_call quietRS_ok quiet_any (TEq (.int .i64 (Cir.num (Cir.lits V d.outs) : Nat))) (stb_eq _ _) 113 _ _ rfl (fun ρ w' ho hK => by
  have ho : Only _ w1 w' := ho
  obtain ⟨h0, h1, -⟩ := hK
  have h0' : ρ (.func 113) = .func (.func 113) #[] #[] := h0
  have h1' : (TBools (Cir.lits V d.outs)) w' (ρ (.tmp 36)) := h1
  refine ⟨#[ρ (.tmp 36)], ?_, ?_⟩
  ·go_simp
  ·skip
   refine (number_any _ _ w' h1' (by rw [lits_length]; omega)).mono ?_
   rintro e w2 ⟨rfl, rfl⟩
   exact ⟨_, rfl, rfl, Below.refl _ _⟩) ?_
 refine rs_same quietRS_ok quiet_any 30 6 (.inr rfl) rfl _ rfl ?_
 refine rs_same quietRS_ok quiet_any 37 13 (.inr rfl) rfl _ rfl ?_
 intro f w9 k9 hk9 hI9 ht9 hcp9
 have E0 : f 0 = _ := ht9 0 (nlb rfl)
 conv at E0 => rhs; whnf
 have E1 : f 1 = _ := ht9 1 (nlb rfl)
 conv at E1 => rhs; whnf
 have E2 : f 2 = _ := ht9 2 (nlb rfl)
 have E3 : f 3 = _ := ht9 3 (nlb rfl)
 have E4 : f 4 = _ := ht9 4 (nlb rfl)
 have E5 : (TBools (Cir.lits V d.next)) w9 (f 5) := ht9 5 (nlb rfl)
 have E6 : f 6 = _ := ht9 6 (nlb rfl)
 have E7 : f 7 = _ := ht9 7 (nlb rfl)
 conv at E7 => rhs; whnf
 have E8 : f 8 = _ := ht9 8 (nlb rfl)
 conv at E8 => rhs; whnf
 have E9 : f 9 = _ := ht9 9 (nlb rfl)
 have E10 : f 10 = _ := ht9 10 (nlb rfl)
 have E11 : f 11 = _ := ht9 11 (nlb rfl)
 have E12 : (TBools (Cir.lits V d.outs)) w9 (f 12) := ht9 12 (nlb rfl)
 have E13 : f 13 = _ := ht9 13 (nlb rfl)
 have E14 : f 14 = _ := ht9 14 (nlb rfl)
 have E15 : f 15 = _ := ht9 15 (nlb rfl)
 have Ho9 : Only _ w1 w9 := hI9.2.1
 simp only [putAll, E0, E1, E2, E3, E4, E6, E7, E8, E9, E10, E11, E13, E14, E15, Nat.zero_add, Nat.reduceAdd, Act.put, List.setIfInBounds_toArray, List.set_cons_succ, List.set_cons_zero]
 clear E0 E1 E2 E3 E4 E6 E7 E8 E9 E10 E11 E13 E14 E15
 clear hI9 ht9 hcp9 hk9
 generalize f 5 = r5 at *
 generalize f 12 = r12 at *
 have B := Lib.hid (B9.out.trans ((only_below Ho9).mono B9.out.size))
 clear Ho9 E5 E12 HV9 B9
 go_wp2_with fail
 exact bodyPost_ret (v := .tuple #[.int .i64 (Cir.num (Cir.lits V d.next) : Nat), .int .i64 (Cir.num (Cir.lits V d.outs) : Nat)]) (by simp [results, Try.results78, go_sem]) rfl ⟨by rw [HN2.out, HO2.out], B.out⟩
end Go.Proofs.Ytkkkjbinfdohpaa
namespace Go.Proofs.Ytkkkjbinfdohpaa
open Go.RowKit
def OwnStep (so st : List Bool) (w : World) (e : Ending) (w' : World) : Prop := ∃ a b, e = .returned (.agg #[a, b]) ∧ w'.ownsRow w.heap.size 4 1 a so.length (bools so) ∧ w'.ownsRow w.heap.size 4 1 b st.length (bools st) ∧ Below w.heap.size w w'
def R1Step (g0 : Nat) (so st : List Bool) (w : World) : Prop := ∃ a b, g0 + 1 < w.heap.size ∧ w.cell? ⟨g0 + 1, 0, none⟩ = some a ∧ w.cell? ⟨g0 + 1, 1, none⟩ = some b ∧ w.ownsRow (g0 + 2) 4 1 a so.length (bools so) ∧ w.ownsRow (g0 + 2) 4 1 b st.length (bools st)
theorem R1Step.below {g0 : Nat} {so st : List Bool} {w w' : World} (h : R1Step g0 so st w) (hb : Below w.heap.size w w') : R1Step g0 so st w' := by
 obtain ⟨a, b, hg, c0, c1, o0, o1⟩ := h
 exact ⟨a, b, Nat.lt_of_lt_of_le hg hb.size, (hb.cell (p := ⟨g0 + 1, 0, none⟩) hg).trans c0, (hb.cell (p := ⟨g0 + 1, 1, none⟩) hg).trans c1, own_below o0 hb, own_below o1 hb⟩
theorem l2Step_any (v vs vi : Value) (d : Ci) (st inp : List Bool) (w : World) (h : CircAt w v (Cir.toCz d)) (hd : Cir.Ok d) (hs : BoolsAt w vs st) (hi : BoolsAt w vi inp) (h1 : inp.length = d.ins) (h2 : st.length = d.next.length) :
  Calls Try.prog 111 #[v, vs, vi] w (OwnStep (Cir.lits (Cir.vals d st inp) d.outs) (Cir.lits (Cir.vals d st inp) d.next) w) := by
 have l2 := hd.nexts
 have l3 := hd.outss
 have HN := Lib.hid hd.next
 have HO := Lib.hid hd.out
 have HC := Lib.hid h
 obtain ⟨vn, vg, vo, rfl, r1, r2, r3⟩ := h
 obtain ⟨An, cn, rfl, hcn, hcmn⟩ := NatsAt.shape (xs := d.next) r1
 obtain ⟨Ao, co, rfl, hco, hcmo⟩ := NatsAt.shape (xs := d.outs) r3
 have hins : (Cir.toCz d).ins = (d.ins : Int) := rfl
 rw [hins] at HC ⊢
 obtain ⟨ag, hag⟩ : ∃ ag, ag = Obj.cells #[.int .i64 d.ins, .slice An d.next.length cn, vg, .slice Ao d.outs.length co] 26 := ⟨_, rfl⟩
 have hbz := bel_new w ag
 obtain ⟨z, p0, p1, p2, p3⟩ := PCells.boxed w d.ins (.slice An d.next.length cn) vg (.slice Ao d.outs.length co) 26
 rw [← hag] at z p0 p1 p2 p3
 have HL : Hid ((Cir.vals d st inp).length = Cir.nvars d) := Lib.hid (Cir.vals_length d h1 h2)
 have hnv : Cir.nvars d ≤ 22 := by have := hd.gatess; have := hd.ins; unfold Cir.nvars Cir.nfirst; omega
 have hb1 := bel_new (w.alloc ag) (.cells #[.slice none 0 0, .slice none 0 0] 138)
 have B0 := Lib.hid (hbz.trans (hb1.mono hbz.size))
 have P0 := Lib.hid (PCells.below ⟨z, p0, p1, p2, p3⟩ hb1)
 have R1 : Hid (NatsAt w (.slice An d.next.length cn) d.next) := Lib.hid r1
 have R3 : Hid (NatsAt w (.slice Ao d.outs.length co) d.outs) := Lib.hid r3
 have HW : Hid (((w.alloc ag).alloc (.cells #[.slice none 0 0, .slice none 0 0] 138)).heap[w.heap.size + 1]? = some (.cells #[.slice none 0 0, .slice none 0 0] 138 (0, 0))) := Lib.hid (by
  have := heap_alloc_new (w.alloc ag) (.cells #[.slice none 0 0, .slice none 0 0] 138)
  rwa [World.size_alloc] at this)
 have HV := Lib.hid (l2Values_any _ _ _ d st inp _ (HC.out.below B0.out) hd (Row.below hs B0.out) (Row.below hi B0.out) h1 h2)
 have hsz : ((w.alloc ag).alloc (.cells #[.slice none 0 0, .slice none 0 0] 138)).heap.size = w.heap.size + 2 := by simp
 clear r1 r2 r3 z p0 p1 p2 p3 hbz hb1 hs hi h1 h2 HC hd hins
 go_enter Try.func111, Try.ntmps111
 obtain ⟨z, p0, p1, p2, p3⟩ := P0.out
 go_wp2_with fail
 rw [← hag]
 clear hag
 generalize (w.alloc ag).alloc (.cells #[.slice none 0 0, .slice none 0 0] 138) = W at *
 generalize Cir.vals d st inp = V at *
 refine HV.out.mono ?_
 rintro e w1 ⟨v1, rfl, hO1, hb1⟩
 have B1 := Lib.hid (B0.out.trans (hb1.mono B0.out.size))
 have HW1 := Lib.hid ((hb1.block _ (by omega)).trans HW.out)
 have HV1 := Lib.hid (own_mono hO1 (show w.heap.size + 2 ≤ W.heap.size by omega))
 have P1 := Lib.hid (P0.out.below hb1)
 have z1 := hb1.size
 clear hb1 hO1 P0 HW HV p0 p1 p2 p3 z B0
 obtain ⟨z, p0, p1, p2, p3⟩ := P1.out
 go_wp2_with fail
 obtain ⟨G, hG⟩ : ∃ G, G = w.heap.size + 1 := ⟨_, rfl⟩
 have hO := fun ops a => stepRS_ok (Pg := Try.prog) (ops := ops) (w := w1) (a := a) (E := fun g => g = w.heap.size + 1) (R0 := fun w' => w'.heap[w.heap.size + 1]? = some (.cells #[.slice none 0 0, .slice none 0 0] 138 (0, 0)))
  (R1 := R1Step w.heap.size (Cir.lits V d.outs) (Cir.lits V d.next)) (d := 9) (fun g hg => by have h : g = w.heap.size + 1 := hg; omega) (fun w1 w2 h hb => (hb.block _ (heap_lt h)).trans h) (fun _ _ => R1Step.below)
 have HBw : ∀ w', Only (fun g => g = w.heap.size + 1) w1 w' → Below w.heap.size w w' := fun w' ho => Only.below B1.out ho B1.out.size (fun g hg => by have h : g = w.heap.size + 1 := hg; omega)
 have HVw : ∀ w', Only (fun g => g = w.heap.size + 1) w1 w' → BoolsAt w' v1 V := fun w' ho => ownBools_at (own_only HV1.out ho (fun g hg he => by have h1 := (HV1.out.lt g hg).1; have h : g = w.heap.size + 1 := he; omega))
 refine wp_region_rs (stepRS Try.prog _ w1 _ (fun g => g = w.heap.size + 1) (fun w' => w'.heap[w.heap.size + 1]? = some (.cells #[.slice none 0 0, .slice none 0 0] 138 (0, 0))) (R1Step w.heap.size (Cir.lits V d.outs) (Cir.lits V d.next)) 9) (hO _ _) (by kernel_rfl) (by kernel_rfl) (by kernel_rfl) (nlb rfl) trivial HW1.out ?_
 refine rs_old (hO _ _) (.inl (nnb rfl)) _ (.inl rfl) _ rfl rfl ?_
 apply rs_eq (hO _ _) (.inl (nnb rfl))
 ·intro ρ w' ho hK
  have ho : Only _ w1 w' := ho
  obtain ⟨h0, -⟩ := hK
  have h0' : ρ (.tmp 3) = _ := h0
  go_simp
  try exact rfl
 apply rs_eq (hO _ _) (.inl (nnb rfl))
 ·intro ρ w' ho hK
  have ho : Only _ w1 w' := ho
  obtain ⟨h0, -⟩ := hK
  have h0' : ρ (.tmp 13) = _ := h0
  have q1 := cell_on ho (by omega) z p1
  have q3 := cell_on ho (by omega) z p3
  go_simp
  try exact rfl
 refine rs_call (hO _ _) (.inl (nnb rfl)) (TOwn (w.heap.size + 2) 4 1 (Cir.lits V d.outs).length (bools (Cir.lits V d.outs))) (stb_own (fun g hg => by have h : g = w.heap.size + 1 := hg; omega) _ _ _ _) 127 _ _ rfl (fun ρ w' ho hK => by
  have ho : Only _ w1 w' := ho
  obtain ⟨h0, h1, h2, -⟩ := hK
  have h0' : ρ (.func 127) = .func (.func 127) #[] #[] := h0
  have h1' : ρ (.tmp 12) = _ := h1
  have h2' : ρ (.tmp 14) = _ := h2
  refine ⟨#[ρ (.tmp 12), ρ (.tmp 14)], ?_, ?_⟩
  ·go_simp
  ·rw [h1', h2']
   refine (l2Lits_any _ _ V d.outs w' (HVw _ ho) (R3.out.below (HBw _ ho)) (by rw [HL.out]; exact HO.out) (by omega) (by rw [HL.out]; omega)).mono ?_
   rintro e w2 ⟨v2, rfl, hO2, hb2⟩
   exact ⟨v2, rfl, own_mono hO2 (by have := ho.size; omega), hb2⟩) ?_
 refine rs_old (hO _ _) (.inl (nnb rfl)) _ (.inl rfl) _ rfl rfl ?_
 apply rs_eq (hO _ _) (.inl (nnb rfl))
 ·intro ρ w' ho hK
  have ho : Only _ w1 w' := ho
  obtain ⟨h0, -⟩ := hK
  have h0' : ρ (.tmp 3) = _ := h0
  go_simp
  try exact rfl
 apply rs_eq (hO _ _) (.inl (nnb rfl))
 ·intro ρ w' ho hK
  have ho : Only _ w1 w' := ho
  obtain ⟨h0, -⟩ := hK
  have h0' : ρ (.tmp 17) = _ := h0
  have q1 := cell_on ho (by omega) z p1
  have q3 := cell_on ho (by omega) z p3
  go_simp
  try exact rfl
 refine rs_call (hO _ _) (.inl (nnb rfl)) (TOwn (w.heap.size + 2) 4 1 (Cir.lits V d.next).length (bools (Cir.lits V d.next))) (stb_own (fun g hg => by have h : g = w.heap.size + 1 := hg; omega) _ _ _ _) 127 _ _ rfl (fun ρ w' ho hK => by
  have ho : Only _ w1 w' := ho
  obtain ⟨h0, h1, h2, -⟩ := hK
  have h0' : ρ (.func 127) = .func (.func 127) #[] #[] := h0
  have h1' : ρ (.tmp 16) = _ := h1
  have h2' : ρ (.tmp 18) = _ := h2
  refine ⟨#[ρ (.tmp 16), ρ (.tmp 18)], ?_, ?_⟩
  ·go_simp
  ·rw [h1', h2']
   refine (l2Lits_any _ _ V d.next w' (HVw _ ho) (R1.out.below (HBw _ ho)) (by rw [HL.out]; exact HN.out) (by omega) (by rw [HL.out]; omega)).mono ?_
   rintro e w2 ⟨v2, rfl, hO2, hb2⟩
   exact ⟨v2, rfl, own_mono hO2 (by have := ho.size; omega), hb2⟩) ?_
 refine rs_look (hO _ _) (.inl (nnb rfl)) (TOwn2 (w.heap.size + 2) 4 (Cir.lits V d.outs).length (bools (Cir.lits V d.outs)) 4 (Cir.lits V d.next).length (bools (Cir.lits V d.next))) (stb_own2 (fun g hg => by have h : g = w.heap.size + 1 := hg; omega) _ _ _ _ _ _) (fun ρ w' ho hK => by
  have ho : Only _ w1 w' := ho
  obtain ⟨h1, h2, -⟩ := hK
  have h1' : w'.ownsRow (w.heap.size + 2) 4 1 (ρ (.tmp 15)) (Cir.lits V d.outs).length (bools (Cir.lits V d.outs)) := h1
  have h2' : w'.ownsRow (w.heap.size + 2) 4 1 (ρ (.tmp 19)) (Cir.lits V d.next).length (bools (Cir.lits V d.next)) := h2
  obtain ⟨A1, c1, e1⟩ := slice_of_own h1'
  obtain ⟨A2, c2, e2⟩ := slice_of_own h2'
  refine ⟨.agg #[ρ (.tmp 15), ρ (.tmp 19)], ?_, ⟨_, _, rfl, h1', h2'⟩⟩
  go_simp) ?_
 refine rs_do rfl rfl rfl (fun ρ w' ho h0 hK => by
  have ho : Only _ w1 w' := ho
  obtain ⟨h1, h2, -⟩ := hK
  have h1' : ρ (.tmp 6) = .pointer (some ⟨w.heap.size + 1, 0, none⟩) := h1
  obtain ⟨a, b, e2, oa, ob⟩ : (TOwn2 (w.heap.size + 2) 4 (Cir.lits V d.outs).length (bools (Cir.lits V d.outs)) 4 (Cir.lits V d.next).length (bools (Cir.lits V d.next))) w' (ρ (.tmp 20)) := h2
  obtain ⟨A1, c1, rfl⟩ := slice_of_own oa
  obtain ⟨A2, c2, rfl⟩ := slice_of_own ob
  have hl := heap_lt h0
  have k0 := blk_cell h0 0
  have k1 := blk_cell h0 1
  have f0 := blk_free h0 0
  have f1 := blk_free h0 1
  simp at k0 k1
  have s1 := heap_setCell_same w' (w.heap.size + 1) 0 _ _ (.slice A1 (Cir.lits V d.outs).length c1) h0
  have s2 := heap_setCell_same _ (w.heap.size + 1) 1 _ _ (.slice A2 (Cir.lits V d.next).length c2) s1
  refine ⟨(w'.setCell ⟨w.heap.size + 1, 0, none⟩ (.slice A1 (Cir.lits V d.outs).length c1)).setCell ⟨w.heap.size + 1, 1, none⟩ (.slice A2 (Cir.lits V d.next).length c2), ?_, ⟨_, _, heap_lt s2, blk_cell s2 0, blk_cell s2 1, ?_, ?_⟩, ?_⟩
  ·clear s1 s2
   go_simp
  ·exact own_set (own_set oa (by omega)) (by omega)
  ·exact own_set (own_set ob (by omega)) (by omega)
  ·exact (Only.grown (set_grown w' (w.heap.size + 1) 0 _) (fun q hq => (Option.some.inj hq).symm)).trans (Only.grown (set_grown _ (w.heap.size + 1) 1 _) (fun q hq => (Option.some.inj hq).symm))) ?_
 intro f w9 k9 hk9 hI9 ht9 hcp9
 have E0 : f 0 = _ := ht9 0 (nlb rfl)
 conv at E0 => rhs; whnf
 have E1 : f 1 = _ := ht9 1 (nlb rfl)
 have E2 : f 2 = _ := ht9 2 (nlb rfl)
 have E3 : (TOwn (w.heap.size + 2) 4 1 (Cir.lits V d.outs).length (bools (Cir.lits V d.outs))) w9 (f 3) := ht9 3 (nlb rfl)
 have E4 : f 4 = _ := ht9 4 (nlb rfl)
 conv at E4 => rhs; whnf
 have E5 : f 5 = _ := ht9 5 (nlb rfl)
 have E6 : f 6 = _ := ht9 6 (nlb rfl)
 have E7 : (TOwn (w.heap.size + 2) 4 1 (Cir.lits V d.next).length (bools (Cir.lits V d.next))) w9 (f 7) := ht9 7 (nlb rfl)
 have E8 : (TOwn2 (w.heap.size + 2) 4 (Cir.lits V d.outs).length (bools (Cir.lits V d.outs)) 4 (Cir.lits V d.next).length (bools (Cir.lits V d.next))) w9 (f 8) := ht9 8 (nlb rfl)
 have E9 : (TAny) w9 (f 9) := ht9 9 (nlb rfl)
 have Ho9 : Only _ w1 w9 := hI9.2.1
 have HJ9 := hI9.2.2
 simp only [putAll, E0, E1, E2, E4, E5, E6, Nat.zero_add, Nat.reduceAdd, Act.put, List.setIfInBounds_toArray, List.set_cons_succ, List.set_cons_zero]
 clear E0 E1 E2 E4 E5 E6
 clear hI9 ht9 hcp9 hk9
 generalize f 3 = r3 at *
 generalize f 7 = r7 at *
 generalize f 8 = r8 at *
 generalize f 9 = r9 at *
 have hR : R1Step w.heap.size (Cir.lits V d.outs) (Cir.lits V d.next) w9 := HJ9
 have B := Lib.hid (HBw _ Ho9)
 obtain ⟨a, b, hg, c0, c1, oa, ob⟩ := hR
 have Oa := Lib.hid oa
 have Ob := Lib.hid ob
 clear E3 E7 E8 E9 HJ9 Ho9 oa ob HBw HVw hO p0 p1 p2 p3
 go_wp2_with fail
 exact bodyPost_ret (v := .agg #[a, b]) (by simp [results, Try.results111, go_sem, c0, c1]) rfl ⟨_, _, rfl, own_mono Oa.out (by omega), own_mono Ob.out (by omega), B.out⟩
end Go.Proofs.Ytkkkjbinfdohpaa
namespace Go.Proofs.Ytkkkjbinfdohpaa
open Go.RowKit Go.Op Go.Instr
theorem sameInts_same (v v2 : Value) (xs : List Int) (w : World) (h : IntsAt w v xs) (h2 : IntsAt w v2 xs) :
  Calls Try.prog 109 #[v, v2] w
   fun e w' => e = .returned (.bool true) ∧ Below w.heap.size w w' := by
 obtain ⟨A, c, hv, hc, hcm⟩ := h.shape
 obtain ⟨A2, c2, hv2, hc2, hcm2⟩ := h2.shape
 subst hv hv2
 unfold maxLen at hcm hcm2
 have he1 : ((xs.length : Int) != (xs.length : Int)) = false := by simp
 go_enter Try.func109, Try.ntmps109
 go_wp2
 go_loopw [5] (fun i wr => ∃ (k : Nat), k ≤ xs.length ∧ i = .int .i64 k ∧ Below w.heap.size w wr)
  (fun i _ => xs.length - (intOf i).toNat)
 case atStart => exact ⟨0, Nat.zero_le _, rfl, Below.refl _ _⟩
 case round =>
  obtain ⟨k, hk, rfl, hd⟩ := hrel
  by_cases hlt : k < xs.length
  ·obtain ⟨b, o, x, rfl, hbl, hx, hs1⟩ := ints_open h hd rfl hlt
   obtain ⟨b2, o2, y, rfl, hbl2, hy, ht1⟩ := ints_open h2 hd rfl hlt
   obtain rfl : x = y := Option.some.inj (hx.out.symm.trans hy.out)
   have Hd := Lib.hid hd
   have hz := hd.size
   have g1 := gw_cell hs1 (by simp only; omega)
   have g3 := gw_cell ht1 (by simp only; omega)
   have hne : (x != x) = false := by simp
   clear h h2 hd hs1 ht1 hx hy
   go_wp2
   refine wp_region_grow (by kernel_rfl) (by kernel_rfl) ?_
   repeat (go_big_quiet_step ((fail)))
   refine wpQuiet_nil ?_
   intro _ hw'
   obtain ⟨nq, hw''⟩ := hw'
   subst hw''
   have hgq := gw_below nq
   generalize gw nq = wq at *
   clear nq
   clear hne g1 g3
   go_wp2_with fail
   go_roundw
   case rel => exact ⟨k + 1, by omega, by go_num, Hd.out.trans (hgq.mono hz)⟩
   case measure => simp [intOf] <;> omega
  ·go_wp2
   go_ret
   exact ⟨rfl, hd⟩
theorem own_set' {w : World} {base n size : Nat} {e : TypeId} {v : Value} {xs : List Value} {g i : Nat} {u : Value} (h : w.ownsRow base e size v n xs) (hg : g < base) : (w.setCell ⟨g, i, none⟩ u).ownsRow base e size v n xs :=
 own_kept h (set_grown w g i u) fun k hk e => by have := (h.lt k hk).1; have := Option.some.inj e; omega
end Go.Proofs.Ytkkkjbinfdohpaa
namespace Go.Proofs.Ytkkkjbinfdohpaa
open Go.RowKit
theorem Only.aft {E F : Nat → Prop} {a b c : World} (h : Only E a b) (h' : Only F b c) (hF : ∀ g, F g → a.heap.size ≤ g ∨ E g) : Only E a c :=
 ⟨h'.os.trans h.os, h'.tape.trans h.tape, h'.output.trans h.output, Nat.le_trans h.size h'.size, fun k hk hn => (h'.block k (Nat.lt_of_lt_of_le hk h.size) (fun hf => by
  rcases hF k hf with h1 | h1
  ·omega
  ·exact hn h1)).trans (h.block k hk hn)⟩
theorem odd_every (n : Int) (R P : Nat) (w : World) (h : Rd w R P) (hP : P ≤ 1000000) (h1 : 0 ≤ n) (h2 : n ≤ 1000000) :
  Calls Try.prog 80 #[.pointer (some ⟨R, 0, none⟩), .int .i64 n] w (Odd R P w) := by
 by_cases hn : n = 0
 ·subst hn
  refine (odd_zero R P w h).mono ?_
  rintro e w' ⟨rfl, rfl⟩
  exact ⟨false, rfl, h.more (by omega), World.grownBy.refl w _⟩
 ·exact odd_any n R P w h hP (by omega) h2
theorem ix_drawn : IxOk Try.prog 23 := by
 intro w g n j h1 h2
 have : (j : Int) < (n : Int) := by omega
 simp [Instr.indexAt, go_sem, Try.underlying23, Result.andThen, h1]
theorem fn_draw : FnOk Try.prog 36 := by
 intro args w
 kernel_rfl
theorem ag_drawn : ∀ w, (isAgg 3).run Try.prog w = .ok false w := by
 intro w
 kernel_rfl
theorem pick_upto (n : Int) (hi : Nat) (R P : Nat) (w : World) (h : Rd w R P) (hP : P ≤ 1000000) (h1 : 1 ≤ n) (h2 : n ≤ hi + 1) (h3 : hi ≤ 999999) :
  Calls Try.prog 36 #[.pointer (some ⟨R, 0, none⟩), .int .i64 n] w fun e w' => ∃ x : Int, 0 ≤ x ∧ x ≤ hi ∧ e = .returned (.int .i64 x) ∧ Rd w' R (P + 1) ∧ w.grownBy w' (some R) :=
 (pick_any n R P w h hP h1 (by omega)).mono fun _ _ ⟨x, h4, h5, h6⟩ => ⟨x, h4, by omega, h6⟩
structure CB (gm : Nat) (c : Cz) (vN vG vO : Value) (w : World) : Prop where
  box : w.heap[gm]? = some (.cells #[.int .i64 c.ins, vN, vG, vO] 26 (0, 0))
  n : w.ownsRow (gm + 1) 3 1 vN c.next.length (ints c.next)
  g : w.ownsRow (gm + 1) 64 2 vG c.gates.length (cubes c.gates)
  o : w.ownsRow (gm + 1) 3 1 vO c.outs.length (ints c.outs)
  ng : Apart vN vG
  no : Apart vN vO
  go : Apart vG vO
theorem ints_app4 (xs : List Int) (a b c d : Int) : ints (xs ++ [a, b, c, d]) = ints xs ++ [.int .i64 a, .int .i64 b, .int .i64 c, .int .i64 d] := by simp [ints]
theorem blk_lt {w : World} {g : Nat} {o : Obj} (h : w.heap[g]? = some o) : g < w.heap.size := by
 rcases Nat.lt_or_ge g w.heap.size with hl | hl
 ·exact hl
 ·rw [Array.getElem?_eq_none hl] at h
  cases h
theorem CB.start {ins : Int} {w : World} (_ : True) : CB w.heap.size ⟨ins, [], [], []⟩ (.slice none 0 0) (.slice none 0 0) (.slice none 0 0) (w.alloc (.cells #[.int .i64 ins, .slice none 0 0, .slice none 0 0, .slice none 0 0] 26)) :=
 ⟨heap_alloc_new _ _, World.ownsRow_nil _ _ _ _, World.ownsRow_nil _ _ _ _, World.ownsRow_nil _ _ _ _, fun _ h => by simp [Value.ownBlock] at h, fun _ h => by simp [Value.ownBlock] at h, fun _ h => by simp [Value.ownBlock] at h⟩
section
variable {gm : Nat} {c : Cz} {vN vG vO : Value} {w w' : World}
theorem CB.only {E : Nat → Prop} (h : CB gm c vN vG vO w) (ho : Only E w w') (hE : ∀ g, gm ≤ g → ¬ E g) : CB gm c vN vG vO w' :=
 ⟨(ho.block gm (blk_lt h.box) (hE gm (Nat.le_refl _))).trans h.box, own_only h.n ho (fun g hg => hE g (by have := (h.n.lt g hg).1; omega)), own_only h.g ho (fun g hg => hE g (by have := (h.g.lt g hg).1; omega)), own_only h.o ho (fun g hg => hE g (by have := (h.o.lt g hg).1; omega)), h.ng, h.no, h.go⟩
theorem CB.drawn {R : Nat} (h : CB gm c vN vG vO w) (hg : w.grownBy w' (some R)) (hR : R < gm) : CB gm c vN vG vO w' :=
 h.only (E := (· = R)) (Only.grown hg fun k hk => (Option.some.inj hk).symm) fun g hg e => by subst e; omega
theorem CB.below (h : CB gm c vN vG vO w) (hb : Below w.heap.size w w') : CB gm c vN vG vO w' :=
 h.only (E := fun _ => False) (Only.of_below _ hb) fun _ _ e => e
theorem CB.cells (h : CB gm c vN vG vO w) : gm < w.heap.size ∧ w.cell? ⟨gm, 0, none⟩ = some (.int .i64 c.ins) ∧ w.cell? ⟨gm, 1, none⟩ = some vN ∧ w.cell? ⟨gm, 2, none⟩ = some vG ∧ w.cell? ⟨gm, 3, none⟩ = some vO :=
 ⟨blk_lt h.box, blk_cell h.box 0, blk_cell h.box 1, blk_cell h.box 2, blk_cell h.box 3⟩
theorem CB.free (h : CB gm c vN vG vO w) : w.frozen? ⟨gm, 0, none⟩ = false ∧ w.frozen? ⟨gm, 1, none⟩ = false ∧ w.frozen? ⟨gm, 2, none⟩ = false ∧ w.frozen? ⟨gm, 3, none⟩ = false :=
 ⟨blk_free h.box 0, blk_free h.box 1, blk_free h.box 2, blk_free h.box 3⟩
theorem CB.setIns (h : CB gm c vN vG vO w) (x : Int) : CB gm { c with ins := x } vN vG vO (w.setCell ⟨gm, 0, none⟩ (.int .i64 x)) :=
 ⟨heap_setCell_same w gm 0 _ _ _ h.box, own_set' h.n (Nat.lt_succ_self _), own_set' h.g (Nat.lt_succ_self _), own_set' h.o (Nat.lt_succ_self _), h.ng, h.no, h.go⟩
theorem apart_at {v v' u : Value} (h : Apart v u) (hat : ∀ g, v'.ownBlock = some g → v.ownBlock = some g ∨ w.heap.size ≤ g) (hu : ∀ g, u.ownBlock = some g → g < w.heap.size) : Apart v' u := fun g hg e => by
 rcases hat g hg with h1 | h1
 ·exact h g h1 e
 ·have := hu g e; omega
theorem at_of {v v' : Value} (hat : v'.ownBlock = v.ownBlock ∨ v'.ownBlock = some w.heap.size) : ∀ g, v'.ownBlock = some g → v.ownBlock = some g ∨ w.heap.size ≤ g := fun g hg => by
 rcases hat with h | h
 ·exact .inl (h ▸ hg)
 ·rw [h] at hg; exact .inr (by have := Option.some.inj hg; omega)
theorem CB.addN {w1 : World} {E : Nat → Prop} {v' : Value} {xs : List Int} (h : CB gm c vN vG vO w) (ho : Only E w w1) (hE : ∀ g, gm ≤ g → vN.ownBlock ≠ some g → ¬ E g) (hown : w1.ownsRow (gm + 1) 3 1 v' xs.length (ints xs)) (hat : ∀ g, v'.ownBlock = some g → vN.ownBlock = some g ∨ w.heap.size ≤ g) :
  CB gm { c with next := xs } v' vG vO (w1.setCell ⟨gm, 1, none⟩ v') := by
 have hgm : vN.ownBlock ≠ some gm := fun e => by have := (h.n.lt gm e).1; omega
 have hbox := (ho.block gm (blk_lt h.box) (hE gm (Nat.le_refl _) hgm)).trans h.box
 exact ⟨heap_setCell_same w1 gm 1 _ _ _ hbox, own_set' hown (Nat.lt_succ_self _), own_set' (own_only h.g ho fun g hg => hE g (by have := (h.g.lt g hg).1; omega) fun e => h.ng g e hg) (Nat.lt_succ_self _), own_set' (own_only h.o ho fun g hg => hE g (by have := (h.o.lt g hg).1; omega) fun e => h.no g e hg) (Nat.lt_succ_self _), apart_at h.ng hat fun g hg => (h.g.lt g hg).2, apart_at h.no hat fun g hg => (h.o.lt g hg).2, h.go⟩
theorem CB.addG {w1 : World} {E : Nat → Prop} {v' : Value} {xs : List (Int × Int)} (h : CB gm c vN vG vO w) (ho : Only E w w1) (hE : ∀ g, gm ≤ g → vG.ownBlock ≠ some g → ¬ E g) (hown : w1.ownsRow (gm + 1) 64 2 v' xs.length (cubes xs)) (hat : ∀ g, v'.ownBlock = some g → vG.ownBlock = some g ∨ w.heap.size ≤ g) :
  CB gm { c with gates := xs } vN v' vO (w1.setCell ⟨gm, 2, none⟩ v') := by
 have hgm : vG.ownBlock ≠ some gm := fun e => by have := (h.g.lt gm e).1; omega
 have hbox := (ho.block gm (blk_lt h.box) (hE gm (Nat.le_refl _) hgm)).trans h.box
 exact ⟨heap_setCell_same w1 gm 2 _ _ _ hbox, own_set' (own_only h.n ho fun g hg => hE g (by have := (h.n.lt g hg).1; omega) fun e => h.ng g hg e) (Nat.lt_succ_self _), own_set' hown (Nat.lt_succ_self _), own_set' (own_only h.o ho fun g hg => hE g (by have := (h.o.lt g hg).1; omega) fun e => h.go g e hg) (Nat.lt_succ_self _), (apart_at h.ng.symm hat fun g hg => (h.n.lt g hg).2).symm, h.no, apart_at h.go hat fun g hg => (h.o.lt g hg).2⟩
theorem CB.addO {w1 : World} {E : Nat → Prop} {v' : Value} {xs : List Int} (h : CB gm c vN vG vO w) (ho : Only E w w1) (hE : ∀ g, gm ≤ g → vO.ownBlock ≠ some g → ¬ E g) (hown : w1.ownsRow (gm + 1) 3 1 v' xs.length (ints xs)) (hat : ∀ g, v'.ownBlock = some g → vO.ownBlock = some g ∨ w.heap.size ≤ g) :
  CB gm { c with outs := xs } vN vG v' (w1.setCell ⟨gm, 3, none⟩ v') := by
 have hgm : vO.ownBlock ≠ some gm := fun e => by have := (h.o.lt gm e).1; omega
 have hbox := (ho.block gm (blk_lt h.box) (hE gm (Nat.le_refl _) hgm)).trans h.box
 exact ⟨heap_setCell_same w1 gm 3 _ _ _ hbox, own_set' (own_only h.n ho fun g hg => hE g (by have := (h.n.lt g hg).1; omega) fun e => h.no g hg e) (Nat.lt_succ_self _), own_set' (own_only h.g ho fun g hg => hE g (by have := (h.g.lt g hg).1; omega) fun e => h.go g hg e) (Nat.lt_succ_self _), own_set' hown (Nat.lt_succ_self _), h.ng, (apart_at h.no.symm hat fun g hg => (h.n.lt g hg).2).symm, (apart_at h.go.symm hat fun g hg => (h.g.lt g hg).2).symm⟩
end
theorem info_gate' : (Try.prog.info? 64).map (fun i => (i.zero, i.size, i.bytes)) = some (some (.agg #[.int .i64 0, .int .i64 0]), 2, 16) := by kernel_rfl
theorem append_gates {w : World} {ops : Array Oper} {rest : List Oper} {o : Oper} {a : Act} {Q : Exit → Act → World → Prop} (hgd : o.guard = none) (s x : Operand)
  (ho : o.op = .call { callee := .builtin .append, args := #[s, x], argTypes := #[24, 24] })
  (base : Nat) (v : Value) (n : Nat) (xs : List Value) (hs : a.eval s = v) (hown : w.ownsRow base 64 2 v n xs) (sv : Value) (m : Nat) (news : List Value) (hx : a.eval x = sv) (hr : Row w 2 sv m news) (h1 : ∀ u ∈ news, u.oneCell' = true)
  (h63 : n + m ≤ 1000000) (hbase : base ≤ w.heap.size)
  (h : ∀ v' w', w'.ownsRow base 64 2 v' (n + m) (xs ++ news) → w.grownBy w' v.ownBlock → (v'.ownBlock = v.ownBlock ∨ v'.ownBlock = some w.heap.size) → wpList Try.prog ops Q rest (a.put o.dst v') w') : wpList Try.prog ops Q (o :: rest) a w := by
 obtain ⟨i, hi, hz0, hz1, hz2⟩ := info_parts info_gate'
 exact wpList_append_at hgd s x 24 ho base 64 i _ 2 16 Try.underlying24 hi hz0 hz1 hz2 rfl (by decide) v n xs hs hown sv m news hx hr h1 (by unfold maxLen; omega) (by omega) hbase h
theorem app_only {w w' : World} {o : Obj} {v : Value} (hg : (w.alloc o).grownBy w' v.ownBlock) : Only (fun g => v.ownBlock = some g) w w' :=
 (Only.of_below _ (bel_new w o)).trans (Only.grown hg fun _ hk => hk)
theorem app_at {w : World} {o : Obj} {v v' : Value} (hat : v'.ownBlock = v.ownBlock ∨ v'.ownBlock = some (w.alloc o).heap.size) : ∀ g, v'.ownBlock = some g → v.ownBlock = some g ∨ w.heap.size ≤ g := fun g hg =>
 (at_of hat g hg).imp id fun h => by rw [World.size_alloc] at h; omega
theorem app_rd {w w' : World} {o : Obj} {v : Value} {R P B n size : Nat} {e : TypeId} {xs : List Value} (h : Rd w R P) (hg : (w.alloc o).grownBy w' v.ownBlock) (hown : w.ownsRow B e size v n xs) (hB : R < B) : Rd w' R P :=
 (h.alloc o).grown hg fun k hk => by have := (hown.lt k hk).1; omega
def gsLen (gm : Nat) (w : World) : Nat := match w.cell? ⟨gm, 2, none⟩ with
  | some (.slice _ n _) => n
  | _ => 0
theorem gsLen_is {gm : Nat} {c : Cz} {vN vG vO : Value} {w : World} (h : CB gm c vN vG vO w) : gsLen gm w = c.gates.length := by
 obtain ⟨A, k, e⟩ := slice_of_own h.g
 subst e
 obtain ⟨_, _, _, h2, _⟩ := h.cells
 unfold gsLen
 rw [h2]
def OwnC (B : Nat) (v : Value) (c : Cz) (w : World) : Prop := ∃ vN vG vO, v = .agg #[.int .i64 c.ins, vN, vG, vO] ∧ w.ownsRow B 3 1 vN c.next.length (ints c.next) ∧ w.ownsRow B 64 2 vG c.gates.length (cubes c.gates) ∧ w.ownsRow B 3 1 vO c.outs.length (ints c.outs) ∧ Apart vN vG ∧ Apart vN vO ∧ Apart vG vO
def LitS (x : Int) : Prop := -100 ≤ x ∧ x ≤ 1000
structure Small (c : Cz) : Prop where
  i1 : -1 ≤ c.ins
  i2 : c.ins ≤ 5
  n : c.next.length ≤ 4
  g : c.gates.length ≤ 15
  o : c.outs.length ≤ 7
  ln : ∀ x ∈ c.next, LitS x
  lg : ∀ x ∈ c.gates, LitS x.1 ∧ LitS x.2
  lo : ∀ x ∈ c.outs, LitS x
def DrewC (R P : Nat) (w : World) (e : Ending) (w' : World) : Prop := ∃ v c, e = .returned v ∧ OwnC w.heap.size v c w' ∧ Small c ∧ Rd w' R (P + 10000) ∧ w.grownBy w' (some R)
theorem only_drawn {E : Nat → Prop} {a b c : World} {R : Nat} (h : Only E a b) (hg : b.grownBy c (some R)) (hR : a.heap.size ≤ R ∨ E R) : Only E a c :=
 h.aft (F := (· = R)) (Only.grown hg fun k hk => (Option.some.inj hk).symm) fun g hg => by subst hg; exact hR
theorem only_alloc {E : Nat → Prop} {a b : World} (h : Only E a b) (o : Obj) : Only E a (b.alloc o) :=
 h.trans (Only.of_below _ (bel_new b o))
theorem only_set {E : Nat → Prop} {a b : World} {g i : Nat} {v : Value} (h : Only E a b) (hg : a.heap.size ≤ g) : Only E a (b.setCell ⟨g, i, none⟩ v) :=
 h.aft (F := (· = g)) (Only.grown (set_grown b g i v) fun k hk => (Option.some.inj hk).symm) fun k hk => by subst hk; exact .inl hg
theorem rd_set {w : World} {R P g i : Nat} {v : Value} (h : Rd w R P) (hg : R < g) : Rd (w.setCell ⟨g, i, none⟩ v) R P :=
 h.grown (set_grown w g i v) fun k hk => by have := Option.some.inj hk; omega
theorem res_set {w : World} {g k i : Nat} {o : Obj} {v : Value} (h : w.heap[k]? = some o) (hg : k ≠ g) : (w.setCell ⟨g, i, none⟩ v).heap[k]? = some o :=
 ((set_grown w g i v).block k (blk_lt h) (fun e => hg (Option.some.inj e))).trans h
theorem res_grown {w w' : World} {k : Nat} {r : Option Nat} {o : Obj} (h : w.heap[k]? = some o) (hg : w.grownBy w' r) (hr : r ≠ some k) : w'.heap[k]? = some o :=
 (hg.block k (blk_lt h) (fun e => hr e.symm)).trans h
theorem cb_set {gm : Nat} {c : Cz} {vN vG vO : Value} {w : World} (h : CB gm c vN vG vO w) {k i : Nat} (u : Value) (hk : k < gm) : CB gm c vN vG vO (w.setCell ⟨k, i, none⟩ u) :=
 h.only (E := (· = k)) (Only.grown (set_grown w k i u) fun g hg => (Option.some.inj hg).symm) fun g hg e => by subst e; omega
theorem finC {gm : Nat} {c : Cz} {vN vG vO : Value} {w0 w : World} {R P Q : Nat} (HC : CB gm c vN vG vO w) (HO : Only (· = R) w0 w) (Hr : Rd w R Q) (hk : w0.heap.size < gm) (hR : R < w0.heap.size) (hQ : Q ≤ P + 10000) (hs : Small c) (a b d e : Value) :
  DrewC R P w0 (.returned (.agg #[.int .i64 c.ins, vN, vG, vO])) ((((w.setCell ⟨w0.heap.size, 0, none⟩ a).setCell ⟨w0.heap.size, 1, none⟩ b).setCell ⟨w0.heap.size, 2, none⟩ d).setCell ⟨w0.heap.size, 3, none⟩ e) := by
 have H := cb_set (i := 3) (cb_set (i := 2) (cb_set (i := 1) (cb_set (i := 0) HC a hk) b hk) d hk) e hk
 exact ⟨_, c, rfl, ⟨vN, vG, vO, rfl, own_mono H.n (by omega), own_mono H.g (by omega), own_mono H.o (by omega), H.ng, H.no, H.go⟩, hs, (rd_set (rd_set (rd_set (rd_set Hr hR) hR) hR) hR).more hQ, (only_set (only_set (only_set (only_set HO (Nat.le_refl _)) (Nat.le_refl _)) (Nat.le_refl _)) (Nat.le_refl _)).grownBy⟩
end Go.Proofs.Ytkkkjbinfdohpaa
namespace Go.Proofs.Ytkkkjbinfdohpaa
open Go.RowKit
theorem l20Circuit_any (R P : Nat) (n : Int) (w : World) (h : Rd w R P) (hP : P ≤ 100000) (h0 : 0 ≤ n) (h1 : n ≤ 1000) :
  Calls Try.prog 35 #[.pointer (some ⟨R, 0, none⟩), .int .i64 n] w (DrewC R P w) := by
 have Hr := Lib.hid h
 have zR := h.lt
 clear h
 go_enter Try.func35, Try.ntmps35
 go_wp2_with fail
 refine (pick_any 5 _ P _ (Hr.out.alloc _) (by omega) (by omega) (by omega)).mono ?_
 rintro e w1 ⟨x, hx0, hx1, rfl, hr1, hg1⟩
 have Hr1 := Lib.hid hr1
 have HO1 := Lib.hid (only_drawn (only_alloc (Only.refl (· = R) w) _) hg1 (.inr rfl))
 have HX1 := Lib.hid (res_grown (heap_alloc_new w _) hg1 (fun e => by have := Option.some.inj e; omega))
 have z1 := hg1.size
 rw [World.size_alloc] at z1
 clear hr1 hg1 Hr
 go_wp2_with fail
 have hb2 := bel_new w1 (.cells #[.int .i64 x, .slice none 0 0, .slice none 0 0, .slice none 0 0] 26)
 have HC2 := Lib.hid (CB.start (ins := x) (w := w1) trivial)
 have Hr2 := Lib.hid (Hr1.out.alloc (.cells #[.int .i64 x, .slice none 0 0, .slice none 0 0, .slice none 0 0] 26))
 have HO2 := Lib.hid (only_alloc HO1.out (.cells #[.int .i64 x, .slice none 0 0, .slice none 0 0, .slice none 0 0] 26))
 have HX2 := Lib.hid ((hb2.block w.heap.size (by omega)).trans HX1.out)
 clear Hr1 HO1 HX1 hb2
 obtain ⟨gm, hgm⟩ : ∃ gm, gm = w1.heap.size := ⟨_, rfl⟩
 rw [← hgm] at HC2 ⊢
 have hgm1 : w.heap.size + 1 ≤ gm := by omega
 clear hgm z1
 generalize w1.alloc (.cells #[.int .i64 x, .slice none 0 0, .slice none 0 0, .slice none 0 0] 26) = w2 at *
 refine (pick_any 4 _ _ _ Hr2.out (by omega) (by omega) (by omega)).mono ?_
 rintro e w3 ⟨y, hy0, hy1, rfl, hr3, hg3⟩
 have Hr3 := Lib.hid hr3
 have HO3 := Lib.hid (only_drawn HO2.out hg3 (.inr rfl))
 have HX3 := Lib.hid (res_grown HX2.out hg3 (fun e => by have := Option.some.inj e; omega))
 have HC3 := Lib.hid (HC2.out.drawn hg3 (by omega))
 clear hr3 hg3 Hr2 HO2 HX2 HC2
 obtain ⟨zm, p0, -⟩ := HC3.out.cells
 go_wp2_with fail
 refine (pick_any 15 _ _ _ Hr3.out (by omega) (by omega) (by omega)).mono ?_
 rintro e w4 ⟨k0, hk0, hk1, rfl, hr4, hg4⟩
 have Hr4 := Lib.hid hr4
 have HO4 := Lib.hid (only_drawn HO3.out hg4 (.inr rfl))
 have HX4 := Lib.hid (res_grown HX3.out hg4 (fun e => by have := Option.some.inj e; omega))
 have HC4 := Lib.hid (HC3.out.drawn hg4 (by omega))
 clear hr4 hg4 Hr3 HO3 HX3 HC3 zm p0
 go_wp2_with fail
 go_loopw [7, 8] (fun m k wr => ∃ (M K : Int) (gs : List (Int × Int)) (vG : Value), m = .int .i64 M ∧ k = .int .i64 K ∧ 0 ≤ K ∧ gs.length + K ≤ 14 ∧ 1 ≤ M ∧ M ≤ 8 + gs.length ∧ Hid (∀ q ∈ gs, LitS q.1 ∧ LitS q.2) ∧ Hid (CB gm ⟨x, [], gs, []⟩ (.slice none 0 0) vG (.slice none 0 0) wr) ∧ Hid (Rd wr R (P + 100 + 10 * gs.length)) ∧ Hid (Only (· = R) w wr) ∧ Hid (wr.heap[w.heap.size]? = some (.cells #[.int .i64 0, .slice none 0 0, .slice none 0 0, .slice none 0 0] 26 (0, 0)))) (fun _ k _ => (intOf k).toNat)
 case atStart => exact ⟨_, k0, [], _, rfl, rfl, hk0, by simp; omega, by omega, by simp; omega, Lib.hid (by simp), HC4, Lib.hid (Hr4.out.more (by omega)), HO4, HX4⟩
 case round =>
  obtain ⟨M, K, gs, vG, rfl, rfl, hK, hKl, hM, hM2, Hl, HC, Hr, HO, HX⟩ := hrel
  clear HC4 Hr4 HO4 HX4
  by_cases hpos : 0 < K
  ·go_wp2_with fail
   refine (pick_any (2 * M) _ _ _ Hr.out (by omega) (by omega) (by omega)).mono ?_
   rintro e w5 ⟨a, ha0, ha1, rfl, hr5, hg5⟩
   have Hr5 := Lib.hid hr5
   have HO5 := Lib.hid (only_drawn HO.out hg5 (.inr rfl))
   have HX5 := Lib.hid (res_grown HX.out hg5 (fun e => by have := Option.some.inj e; omega))
   have HC5 := Lib.hid (HC.out.drawn hg5 (by omega))
   clear hr5 hg5 Hr HO HX HC
   go_wp2_with fail
   refine (pick_any (2 * M) _ _ _ Hr5.out (by omega) (by omega) (by omega)).mono ?_
   rintro e w6 ⟨b, hb0, hb1, rfl, hr6, hg6⟩
   have Hr6 := Lib.hid hr6
   have HO6 := Lib.hid (only_drawn HO5.out hg6 (.inr rfl))
   have HX6 := Lib.hid (res_grown HX5.out hg6 (fun e => by have := Option.some.inj e; omega))
   have HC6 := Lib.hid (HC5.out.drawn hg6 (by omega))
   clear hr6 hg6 Hr5 HO5 HX5 HC5
   go_wp2_with fail
   refine (pick_any 3 _ _ _ Hr6.out (by omega) (by omega) (by omega)).mono ?_
   rintro e w7 ⟨z, hz0, hz1, rfl, hr7, hg7⟩
   have Hr7 := Lib.hid hr7
   have HO7 := Lib.hid (only_drawn HO6.out hg7 (.inr rfl))
   have HX7 := Lib.hid (res_grown HX6.out hg7 (fun e => by have := Option.some.inj e; omega))
   have HC7 := Lib.hid (HC6.out.drawn hg7 (by omega))
   clear hr7 hg7 Hr6 HO6 HX6 HC6
   by_cases hz : 0 < z
   ·by_cases h6 : 2 * M < 6
    ·go_wp2_with fail
     refine (pick_any (2 * M) _ _ _ Hr7.out (by omega) (by omega) (by omega)).mono ?_
     rintro e w8 ⟨u, hu0, hu1, rfl, hr8, hg8⟩
     have Hr8 := Lib.hid hr8
     have HO8 := Lib.hid (only_drawn HO7.out hg8 (.inr rfl))
     have HX8 := Lib.hid (res_grown HX7.out hg8 (fun e => by have := Option.some.inj e; omega))
     have HC8 := Lib.hid (HC7.out.drawn hg8 (by omega))
     clear hr8 hg8 Hr7 HO7 HX7 HC7
     have hne8 : vG.ownBlock ≠ some gm := fun e => by have := (HC8.out.g.lt gm e).1; omega
     obtain ⟨zm, p0, p1, p2, p3⟩ := HC8.out.cells
     have Hlit := Lib.hid (Row.of_own (World.ownsRow_lit (base := w8.heap.size) (e := 64) (size := 2) w8 #[.int .i64 (2 * M - 1 - u), .int .i64 b] 1 (Nat.le_refl _) (by unfold maxLen; omega) rfl))
     have z8 := zm
     go_wp2_with (
      at_builtin
      refine append_gates rfl (.tmp 50) (.tmp 54) rfl (gm + 1) _ gs.length _ rfl (HC8.out.g.alloc _) _ 1 [.int .i64 (2 * M - 1 - u), .int .i64 b] rfl Hlit.out (by simp [Value.oneCell']) (by omega) (by simp; omega) ?_
      intro v9 w9 hown9 hg9 hat9
      obtain ⟨A9, c9, e9⟩ := slice_of_own hown9
      subst e9
      have Ho9 := Lib.hid hown9
      have HE9 := Lib.hid (app_only hg9)
      have Hr9 := Lib.hid (app_rd Hr8.out hg9 HC8.out.g (by omega))
      have Hat9 := Lib.hid (app_at hat9)
      have hbx := (HE9.out.block gm (blk_lt HC8.out.box) hne8).trans HC8.out.box
      have q2 := blk_cell hbx 2
      have q2f := blk_free hbx 2
      have zq := blk_lt hbx
      simp at q2
      clear hown9 hg9 hat9 hbx)
     go_roundw
     case rel =>
      refine ⟨M + 1, K - 1, gs ++ [((2 * M - 1 - u), b)], .slice A9 (gs.length + 1) c9, by go_num, by go_num, by omega, by simp; omega, by omega, by simp; omega, Lib.hid fun q hq => ?_, Lib.hid ?_, Lib.hid ?_, Lib.hid ?_, Lib.hid ?_⟩
      ·rcases List.mem_append.1 hq with h | h
       ·exact Hl.out q h
       ·rw [List.mem_singleton.1 h]
        unfold LitS
        simp only
        omega
      ·refine HC8.out.addG (xs := gs ++ [((2 * M - 1 - u), b)]) HE9.out (fun g _ hn => hn) ?_ Hat9.out
       rw [List.length_append, cubes_append]
       exact Ho9.out
      ·exact (rd_set Hr9.out (by omega)).more (by simp; omega)
      ·exact only_set (HO8.out.aft HE9.out fun g hg => .inl (by have := (HC8.out.g.lt g hg).1; omega)) (by omega)
      ·exact res_set ((HE9.out.block _ (blk_lt HX8.out) (fun e => by have := (HC8.out.g.lt _ e).1; omega)).trans HX8.out) (by omega)
     case measure => simp [intOf]; omega
    ·go_wp2_with fail
     refine (pick_any 6 _ _ _ Hr7.out (by omega) (by omega) (by omega)).mono ?_
     rintro e w8 ⟨u, hu0, hu1, rfl, hr8, hg8⟩
     have Hr8 := Lib.hid hr8
     have HO8 := Lib.hid (only_drawn HO7.out hg8 (.inr rfl))
     have HX8 := Lib.hid (res_grown HX7.out hg8 (fun e => by have := Option.some.inj e; omega))
     have HC8 := Lib.hid (HC7.out.drawn hg8 (by omega))
     clear hr8 hg8 Hr7 HO7 HX7 HC7
     have hne8 : vG.ownBlock ≠ some gm := fun e => by have := (HC8.out.g.lt gm e).1; omega
     obtain ⟨zm, p0, p1, p2, p3⟩ := HC8.out.cells
     have Hlit := Lib.hid (Row.of_own (World.ownsRow_lit (base := w8.heap.size) (e := 64) (size := 2) w8 #[.int .i64 (2 * M - 1 - u), .int .i64 b] 1 (Nat.le_refl _) (by unfold maxLen; omega) rfl))
     have z8 := zm
     go_wp2_with (
      at_builtin
      refine append_gates rfl (.tmp 50) (.tmp 54) rfl (gm + 1) _ gs.length _ rfl (HC8.out.g.alloc _) _ 1 [.int .i64 (2 * M - 1 - u), .int .i64 b] rfl Hlit.out (by simp [Value.oneCell']) (by omega) (by simp; omega) ?_
      intro v9 w9 hown9 hg9 hat9
      obtain ⟨A9, c9, e9⟩ := slice_of_own hown9
      subst e9
      have Ho9 := Lib.hid hown9
      have HE9 := Lib.hid (app_only hg9)
      have Hr9 := Lib.hid (app_rd Hr8.out hg9 HC8.out.g (by omega))
      have Hat9 := Lib.hid (app_at hat9)
      have hbx := (HE9.out.block gm (blk_lt HC8.out.box) hne8).trans HC8.out.box
      have q2 := blk_cell hbx 2
      have q2f := blk_free hbx 2
      have zq := blk_lt hbx
      simp at q2
      clear hown9 hg9 hat9 hbx)
     go_roundw
     case rel =>
      refine ⟨M + 1, K - 1, gs ++ [((2 * M - 1 - u), b)], .slice A9 (gs.length + 1) c9, by go_num, by go_num, by omega, by simp; omega, by omega, by simp; omega, Lib.hid fun q hq => ?_, Lib.hid ?_, Lib.hid ?_, Lib.hid ?_, Lib.hid ?_⟩
      ·rcases List.mem_append.1 hq with h | h
       ·exact Hl.out q h
       ·rw [List.mem_singleton.1 h]
        unfold LitS
        simp only
        omega
      ·refine HC8.out.addG (xs := gs ++ [((2 * M - 1 - u), b)]) HE9.out (fun g _ hn => hn) ?_ Hat9.out
       rw [List.length_append, cubes_append]
       exact Ho9.out
      ·exact (rd_set Hr9.out (by omega)).more (by simp; omega)
      ·exact only_set (HO8.out.aft HE9.out fun g hg => .inl (by have := (HC8.out.g.lt g hg).1; omega)) (by omega)
      ·exact res_set ((HE9.out.block _ (blk_lt HX8.out) (fun e => by have := (HC8.out.g.lt _ e).1; omega)).trans HX8.out) (by omega)
     case measure => simp [intOf]; omega
   ·have hz' : z = 0 := by omega
    subst hz'
    have hne7 : vG.ownBlock ≠ some gm := fun e => by have := (HC7.out.g.lt gm e).1; omega
    obtain ⟨zm, p0, p1, p2, p3⟩ := HC7.out.cells
    have Hlit := Lib.hid (Row.of_own (World.ownsRow_lit (base := w7.heap.size) (e := 64) (size := 2) w7 #[.int .i64 (a), .int .i64 b] 1 (Nat.le_refl _) (by unfold maxLen; omega) rfl))
    have z7 := zm
    go_wp2_with (
     at_builtin
     refine append_gates rfl (.tmp 50) (.tmp 54) rfl (gm + 1) _ gs.length _ rfl (HC7.out.g.alloc _) _ 1 [.int .i64 (a), .int .i64 b] rfl Hlit.out (by simp [Value.oneCell']) (by omega) (by simp; omega) ?_
     intro v9 w9 hown9 hg9 hat9
     obtain ⟨A9, c9, e9⟩ := slice_of_own hown9
     subst e9
     have Ho9 := Lib.hid hown9
     have HE9 := Lib.hid (app_only hg9)
     have Hr9 := Lib.hid (app_rd Hr7.out hg9 HC7.out.g (by omega))
     have Hat9 := Lib.hid (app_at hat9)
     have hbx := (HE9.out.block gm (blk_lt HC7.out.box) hne7).trans HC7.out.box
     have q2 := blk_cell hbx 2
     have q2f := blk_free hbx 2
     have zq := blk_lt hbx
     simp at q2
     clear hown9 hg9 hat9 hbx)
    go_roundw
    case rel =>
     refine ⟨M + 1, K - 1, gs ++ [((a), b)], .slice A9 (gs.length + 1) c9, by go_num, by go_num, by omega, by simp; omega, by omega, by simp; omega, Lib.hid fun q hq => ?_, Lib.hid ?_, Lib.hid ?_, Lib.hid ?_, Lib.hid ?_⟩
     ·rcases List.mem_append.1 hq with h | h
      ·exact Hl.out q h
      ·rw [List.mem_singleton.1 h]
       unfold LitS
       simp only
       omega
     ·refine HC7.out.addG (xs := gs ++ [((a), b)]) HE9.out (fun g _ hn => hn) ?_ Hat9.out
      rw [List.length_append, cubes_append]
      exact Ho9.out
     ·exact (rd_set Hr9.out (by omega)).more (by simp; omega)
     ·exact only_set (HO7.out.aft HE9.out fun g hg => .inl (by have := (HC7.out.g.lt g hg).1; omega)) (by omega)
     ·exact res_set ((HE9.out.block _ (blk_lt HX7.out) (fun e => by have := (HC7.out.g.lt _ e).1; omega)).trans HX7.out) (by omega)
    case measure => simp [intOf]; omega
  ·obtain rfl : K = 0 := by omega
   have Hr1 := Lib.hid (Hr.out.more (show P + 100 + 10 * gs.length ≤ P + 300 by omega))
   have HC1 := Lib.hid HC.out
   clear Hr HC
   obtain ⟨W1, hW1⟩ : ∃ W1, W1 = wr := ⟨_, rfl⟩
   subst hW1
   go_wp2_with fail
   go_loopw [11] (fun j wr => ∃ (ns : List Int) (vN : Value), j = .int .i64 (ns.length : Nat) ∧ ns.length ≤ y ∧ Hid (∀ q ∈ ns, LitS q) ∧ Hid (CB gm ⟨x, ns, gs, []⟩ vN vG (.slice none 0 0) wr) ∧ Hid (Rd wr R (P + 300 + 400 * ns.length)) ∧ Hid (Only (· = R) w wr) ∧ Hid (wr.heap[w.heap.size]? = some (.cells #[.int .i64 0, .slice none 0 0, .slice none 0 0, .slice none 0 0] 26 (0, 0)))) (fun j _ => (y - intOf j).toNat)
   case atStart => exact ⟨[], _, rfl, by simp; omega, Lib.hid (by simp), HC1, Lib.hid (Hr1.out.more (by omega)), HO, HX⟩
   case round =>
    obtain ⟨ns, vN, rfl, hnl, Hn, HC, Hr, HO, HX⟩ := hrel
    clear Hr1 HC1
    by_cases hlt : (ns.length : Int) < y
    ·go_wp2_with fail
     have hO := fun ops a => rdRS_ok (Pg := Try.prog) (ops := ops) (P := P + 300 + 400 * ns.length) (a := a) (G := GInt (-100) 1000) (d := 7) Hr.out.lt (show R < gm + 1 by omega) HC.out.n
     obtain ⟨zm, p0, p1, p2, p3⟩ := HC.out.cells
     have hneN : ¬ (gm = R ∨ vN.ownBlock = some gm) := fun e => by
      rcases e with e | e
      ·omega
      ·have := (HC.out.n.lt gm e).1; omega
     refine wp_region_rsl (rdRS Try.prog _ R (P + 300 + 400 * ns.length) wr _ (gm + 1) 3 vN ns.length (ints ns) (GInt (-100) 1000) 7) (hO _ _) (by kernel_rfl) (by kernel_rfl) (by kernel_rfl) 9 _ rfl rfl (by kernel_rfl) (show (7 : Nat) < 9 by decide) Hr.out HC.out.n ?_
     obtain ⟨i0, hi0, hz0, hz1, hz2⟩ := info_parts info_int
     apply rs_eq (hO _ _) (.inl (nnb rfl))
     ·intro ρ w' ho hK
      obtain ⟨h0, -⟩ := hK
      have h0' : ρ (.tmp 5) = .pointer (some ⟨gm, 0, none⟩) := h0
      go_simp
      try exact rfl
     apply rs_eq (hO _ _) (.inl (nnb rfl))
     ·intro ρ w' ho hK
      obtain ⟨h0, -⟩ := hK
      have h0' : ρ (.tmp 64) = .pointer (some ⟨gm, 1, none⟩) := h0
      have q1 := cell_on ho hneN zm p1
      go_simp
      try exact rfl
     refine rs_old (hO _ _) (.inl (nnb rfl)) _ (.inl rfl) _ rfl rfl ?_
     refine rs_old (hO _ _) (.inl (nnb rfl)) _ (.inl rfl) _ rfl rfl ?_
     apply rs_eq (hO _ _) (.inl (nnb rfl))
     ·intro ρ w' ho hK
      obtain ⟨h0, h1, -⟩ := hK
      have h0' : ρ (.const (.int .i64 2)) = .int .i64 2 := h0
      have h1' : ρ (.tmp 67) = .int .i64 M := h1
      have hwr := IntWalk.i64_in (2 * M) (by omega)
      go_simp
      try exact rfl
     refine rs_pick (hO _ _) (.inl (nnb rfl)) 36 _ _ _ R (P + 300 + 400 * ns.length) 43 rfl rfl fn_draw (fun ρ w hK => ⟨hK.1, hK.2.1, 2 * M, hK.2.2.1, by omega, by omega⟩) (fun n k w hk h1n hn hr => pick_upto n 43 _ _ w hr (by have hk' : k < 10 := hk; omega) h1n hn (by omega)) ?_
     refine rs_build (hO _ _) (.inl (nnb rfl)) 1 (GInt (-100) 1000) 3 (fun ρ w hK => by
      obtain ⟨⟨q, hq, hq0, hq1⟩, -⟩ := hK
      have h' : ρ (.tmp 69) = .int .i64 q := hq
      refine ⟨#[.int .i64 q], rfl, ?_, ?_⟩
      ·go_simp
      ·intro c hc
       simp at hc
       exact ⟨q, hc, by omega, by omega⟩) ?_
     refine rs_appendV rfl (gm + 1) 3 23 vN ns.length (ints ns) (GInt (-100) 1000) rfl R (P + 300 + 400 * ns.length) rfl (fun g hg => .inr hg) (show R < gm + 1 by omega) zm _ _ rfl _ _ rfl rfl rfl rfl i0 _ 8 Try.underlying23 hi0 hz0 hz1 hz2 rfl (by omega) (by decide) (fun u hu => by obtain ⟨q, rfl, -⟩ := hu; rfl) ?_
     apply rs_eq (hO _ _) (.inl (nnb rfl))
     ·intro ρ w' ho hK
      obtain ⟨h0, -⟩ := hK
      have h0' : ρ (.tmp 5) = .pointer (some ⟨gm, 0, none⟩) := h0
      go_simp
      try exact rfl
     intro f w9 k9 hk9 hI9 ht9 hcp9
     have E0 : f 0 = _ := ht9 0 (nlb rfl)
     have E1 : f 1 = _ := ht9 1 (nlb rfl)
     have E2 : f 2 = _ := ht9 2 (nlb rfl)
     have E3 : f 3 = _ := ht9 3 (nlb rfl)
     have E4 : f 4 = _ := ht9 4 (nlb rfl)
     have E8 : f 8 = _ := ht9 8 (nlb rfl)
     have Hr9 : Rd w9 R (P + 300 + 400 * ns.length + 40 * k9) := hI9.1
     have HE9 : Only (fun g => g = R ∨ vN.ownBlock = some g) wr w9 := hI9.2.1
     have HJ9 : (∃ u, GInt (-100) 1000 u ∧ w9.ownsRow (gm + 1) 3 1 (f 7) (ns.length + 1) (ints ns ++ [u])) ∧ ∀ g, (f 7).ownBlock = some g → vN.ownBlock = some g ∨ wr.heap.size ≤ g := hI9.2.2
     have hk9' : k9 ≤ 10 := hk9
     simp only [putAll, E0, E1, E2, E3, E4, E8, Nat.zero_add, Nat.reduceAdd, Act.put, List.take, List.setIfInBounds_toArray, List.set_cons_succ, List.set_cons_zero]
     clear E0 E1 E2 E3 E4 E8 hI9 ht9 hcp9 hk9 hO
     generalize f 5 = r5, f 6 = r6 at *
     generalize f 7 = v9 at *
     simp only [List.getElem_toArray, List.getElem_cons_succ, List.getElem_cons_zero]
     obtain ⟨⟨uu, ⟨q, rfl, hq0, hq1⟩, hown9⟩, hat9⟩ := HJ9
     obtain ⟨A9, c9, e9⟩ := slice_of_own hown9
     subst e9
     have Ho9 := Lib.hid hown9
     have Hat9 := Lib.hid hat9
     have HE9' := Lib.hid HE9
     have Hr9' := Lib.hid (Hr9.more (show P + 300 + 400 * ns.length + 40 * k9 ≤ P + 300 + 400 * (ns.length + 1) by omega))
     have hbx := (HE9.block gm zm hneN).trans HC.out.box
     have q1 := blk_cell hbx 1
     have q1f := blk_free hbx 1
     have zq := blk_lt hbx
     simp at q1
     clear hown9 hat9 HE9 Hr9 hbx p0 p1 p2 p3 hk9' hi0 hz0 hz1 hz2
     go_wp2_with fail
     go_roundw
     case rel =>
      refine ⟨ns ++ [q], .slice A9 (ns.length + 1) c9, by simp, by simp; omega, Lib.hid fun q' hq => ?_, Lib.hid ?_, Lib.hid ?_, Lib.hid ?_, Lib.hid ?_⟩
      ·rcases List.mem_append.1 hq with h | h
       ·exact Hn.out q' h
       ·rw [List.mem_singleton.1 h]
        exact ⟨hq0, hq1⟩
      ·refine HC.out.addN (xs := ns ++ [q]) HE9'.out (fun g hg hn => ?_) ?_ Hat9.out
       ·rintro (e | e)
        ·omega
        ·exact hn e
       ·rw [List.length_append, ints_snoc]
        exact Ho9.out
      ·exact (rd_set Hr9'.out (by omega)).more (by simp)
      ·exact only_set (HO.out.aft HE9'.out fun g hg => by
        rcases hg with h | h
        ·exact .inr h
        ·exact .inl (by have := (HC.out.n.lt g h).1; omega)) (by omega)
      ·exact res_set ((HE9'.out.block _ (blk_lt HX.out) (fun e => by
        rcases e with h | h
        ·omega
        ·have := (HC.out.n.lt _ h).1; omega)).trans HX.out) (by omega)
     case measure => simp [intOf]; omega
    ·have Hr1 := Lib.hid (Hr.out.more (show P + 300 + 400 * ns.length ≤ P + 2400 by omega))
     have HC1 := Lib.hid HC.out
     clear Hr HC
     obtain ⟨W2, hW2⟩ : ∃ W2, W2 = wr := ⟨_, rfl⟩
     subst hW2
     go_wp2_with fail
     refine (pick_any 4 _ _ _ Hr1.out (by omega) (by omega) (by omega)).mono ?_
     rintro e w5 ⟨k1, hk10, hk11, rfl, hr5, hg5⟩
     have Hr5 := Lib.hid (hr5.more (show P + 2400 + 1 ≤ P + 2500 by omega))
     have HO5 := Lib.hid (only_drawn HO.out hg5 (.inr rfl))
     have HX5 := Lib.hid (res_grown HX.out hg5 (fun e => by have := Option.some.inj e; omega))
     have HC5 := Lib.hid (HC1.out.drawn hg5 (by omega))
     clear hr5 hg5 Hr1 HO HX HC1
     go_wp2_with fail
     go_loopw [12] (fun j wr => ∃ (K : Int) (os : List Int) (vO : Value), j = .int .i64 K ∧ 0 ≤ K ∧ os.length + K ≤ 3 ∧ Hid (∀ q ∈ os, LitS q) ∧ Hid (CB gm ⟨x, ns, gs, os⟩ vN vG vO wr) ∧ Hid (Rd wr R (P + 2500 + 1000 * os.length)) ∧ Hid (Only (· = R) w wr) ∧ Hid (wr.heap[w.heap.size]? = some (.cells #[.int .i64 0, .slice none 0 0, .slice none 0 0, .slice none 0 0] 26 (0, 0)))) (fun j _ => (intOf j).toNat)
     case atStart => exact ⟨k1, [], _, rfl, hk10, by simp; omega, Lib.hid (by simp), HC5, Lib.hid (Hr5.out.more (by omega)), HO5, HX5⟩
     case round =>
      obtain ⟨K, os, vO, rfl, hK0, hKl2, Hos, HC, Hr, HO, HX⟩ := hrel
      clear Hr5 HC5 HO5 HX5
      by_cases hpos : 0 < K
      ·go_wp2_with fail
       have hO := fun ops a => rdRS_ok (Pg := Try.prog) (ops := ops) (P := P + 2500 + 1000 * os.length) (a := a) (G := GInt (-100) 1000) (d := 21) Hr.out.lt (show R < gm + 1 by omega) HC.out.o
       obtain ⟨zm, p0, p1, p2, p3⟩ := HC.out.cells
       have hneO : ¬ (gm = R ∨ vO.ownBlock = some gm) := fun e => by
        rcases e with e | e
        ·omega
        ·have := (HC.out.o.lt gm e).1; omega
       refine wp_region_rsl (rdRS Try.prog _ R (P + 2500 + 1000 * os.length) wr _ (gm + 1) 3 vO os.length (ints os) (GInt (-100) 1000) 21) (hO _ _) (by kernel_rfl) (by kernel_rfl) (by kernel_rfl) 23 _ rfl rfl (by kernel_rfl) (show (21 : Nat) < 23 by decide) Hr.out HC.out.o ?_
       obtain ⟨i0, hi0, hz0, hz1, hz2⟩ := info_parts info_int
       apply rs_eq (hO _ _) (.inl (nnb rfl))
       ·intro ρ w' ho hK
        obtain ⟨h0, -⟩ := hK
        have h0' : ρ (.tmp 5) = .pointer (some ⟨gm, 0, none⟩) := h0
        go_simp
        try exact rfl
       apply rs_eq (hO _ _) (.inl (nnb rfl))
       ·intro ρ w' ho hK
        obtain ⟨h0, -⟩ := hK
        have h0' : ρ (.tmp 79) = .pointer (some ⟨gm, 3, none⟩) := h0
        have q1 := cell_on ho hneO zm p3
        go_simp
        try exact rfl
       refine rs_old (hO _ _) (.inl (nnb rfl)) _ (.inl rfl) _ rfl rfl ?_
       apply rs_eq (hO _ _) (.inl (nnb rfl))
       ·intro ρ w' ho hK
        obtain ⟨h0, h1, -⟩ := hK
        have h0' : ρ (.const (.int .i64 2)) = .int .i64 2 := h0
        have h1' : ρ (.tmp 81) = .int .i64 M := h1
        have hwr := IntWalk.i64_in (2 * M) (by omega)
        go_simp
        try exact rfl
       apply rs_eq (hO _ _) (.inl (nnb rfl))
       ·intro ρ w' ho hK
        obtain ⟨h0, h1, -⟩ := hK
        have h1' : ρ (.const (.int .i64 1)) = .int .i64 1 := h1
        have h0' : ρ (.tmp 82) = .int .i64 (2 * M) := h0
        have hwr := IntWalk.i64_in (2 * M - 1) (by omega)
        go_simp
        try exact rfl
       refine rs_old (hO _ _) (.inl (nnb rfl)) _ (.inl rfl) _ rfl rfl ?_
       refine rs_old (hO _ _) (.inl (nnb rfl)) _ (.inl rfl) _ rfl rfl ?_
       apply rs_eq (hO _ _) (.inl (nnb rfl))
       ·intro ρ w' ho hK
        obtain ⟨h0, h1, -⟩ := hK
        have h0' : ρ (.const (.int .i64 2)) = .int .i64 2 := h0
        have h1' : ρ (.tmp 85) = .int .i64 M := h1
        have hwr := IntWalk.i64_in (2 * M) (by omega)
        go_simp
        try exact rfl
       refine rs_pure (hO _ _) (.inl (nnb rfl)) (TInt 1 8) (stb_int _ _ _) (fun ρ w hK => by
        obtain ⟨h0, h1, -⟩ := hK
        have h0' : ρ (.const (.int .i64 8)) = .int .i64 8 := h0
        have h1' : ρ (.tmp 86) = .int .i64 (2 * M) := h1
        by_cases h8 : 2 * M < 8
        ·refine ⟨.int .i64 (2 * M), ?_, 2 * M, rfl, by omega, by omega⟩
         go_simp
        ·refine ⟨.int .i64 8, ?_, 8, rfl, by omega, by omega⟩
         go_simp) ?_
       refine rs_pick (hO _ _) (.inl (nnb rfl)) 36 _ _ _ R (P + 2500 + 1000 * os.length) 7 rfl rfl fn_draw (fun ρ w hK => by
        obtain ⟨h0, h1, ⟨q, h2, h3, h4⟩, -⟩ := hK
        exact ⟨h0, h1, q, h2, h3, by omega⟩) (fun n k w hk h1n hn hr => pick_upto n 7 _ _ w hr (by have hk' : k < 24 := hk; omega) h1n hn (by omega)) ?_
       refine rs_pure (hO _ _) (.inl (nnb rfl)) (TInt (-100) 1000) (stb_int _ _ _) (fun ρ w hK => by
        obtain ⟨h0, ⟨q, h1, h2, h3⟩, -⟩ := hK
        have h0' : ρ (.tmp 83) = .int .i64 (2 * M - 1) := h0
        have h1' : ρ (.tmp 88) = .int .i64 q := h1
        have h3' : q ≤ 7 := h3
        have hwr := IntWalk.i64_in (2 * M - 1 - q) (by omega)
        refine ⟨.int .i64 (2 * M - 1 - q), ?_, _, rfl, by omega, by omega⟩
        go_simp) ?_
       refine rs_old (hO _ _) (.inl (nnb rfl)) _ (.inl rfl) _ rfl rfl ?_
       refine rs_old (hO _ _) (.inl (nnb rfl)) _ (.inl rfl) _ rfl rfl ?_
       apply rs_eq (hO _ _) (.inl (nnb rfl))
       ·intro ρ w' ho hK
        obtain ⟨h0, h1, -⟩ := hK
        have h0' : ρ (.const (.int .i64 2)) = .int .i64 2 := h0
        have h1' : ρ (.tmp 91) = .int .i64 M := h1
        have hwr := IntWalk.i64_in (2 * M) (by omega)
        go_simp
        try exact rfl
       refine rs_pick (hO _ _) (.inl (nnb rfl)) 36 _ _ _ R (P + 2500 + 1000 * os.length) 43 rfl rfl fn_draw (fun ρ w hK => ⟨hK.1, hK.2.1, 2 * M, hK.2.2.1, by omega, by omega⟩) (fun n k w hk h1n hn hr => pick_upto n 43 _ _ w hr (by have hk' : k < 24 := hk; omega) h1n hn (by omega)) ?_
       refine rs_build (hO _ _) (.inl (nnb rfl)) 2 (GInt (-100) 1000) 3 (fun ρ w hK => by
        obtain ⟨⟨q, hq, hq0, hq1⟩, ⟨q2, hr, hr0, hr1⟩, -⟩ := hK
        have h' : ρ (.tmp 89) = .int .i64 q := hq
        have h2' : ρ (.tmp 93) = .int .i64 q2 := hr
        have hr1' : q2 ≤ 43 := hr1
        refine ⟨#[.int .i64 q, .int .i64 q2], rfl, ?_, ?_⟩
        ·go_simp
        ·intro c hc
         simp at hc
         rcases hc with rfl | rfl
         ·exact ⟨q, rfl, by omega, by omega⟩
         ·exact ⟨q2, rfl, by omega, by omega⟩) ?_
       refine rs_old (hO _ _) (.inl (nnb rfl)) _ (.inl rfl) _ rfl rfl ?_
       refine rs_pick (hO _ _) (.inl (nnb rfl)) 36 _ _ _ R (P + 2500 + 1000 * os.length) 1 rfl rfl fn_draw (fun ρ w hK => ⟨hK.1, hK.2.1, 2, hK.2.2.1, by omega, by omega⟩) (fun n k w hk h1n hn hr => pick_upto n 1 _ _ w hr (by have hk' : k < 24 := hk; omega) h1n hn (by omega)) ?_
       refine rs_index (hO _ _) (.inl (nnb rfl)) 23 _ _ 2 (GInt (-100) 1000) 1 rfl _ _ rfl rfl rfl rfl (by omega) (by omega) ix_drawn ?_
       refine rs_load (hO _ _) (.inl (nnb rfl)) 3 _ (GInt (-100) 1000) rfl _ rfl rfl ag_drawn ?_
       refine rs_build (hO _ _) (.inl (nnb rfl)) 1 (GInt (-100) 1000) 3 (fun ρ w hK => by
        obtain ⟨⟨q, hq, hq0, hq1⟩, -⟩ := hK
        have h' : ρ (.tmp 98) = .int .i64 q := hq
        refine ⟨#[.int .i64 q], rfl, ?_, ?_⟩
        ·go_simp
        ·intro c hc
         simp at hc
         exact ⟨q, hc, by omega, by omega⟩) ?_
       refine rs_appendV rfl (gm + 1) 3 23 vO os.length (ints os) (GInt (-100) 1000) rfl R (P + 2500 + 1000 * os.length) rfl (fun g hg => .inr hg) (show R < gm + 1 by omega) zm _ _ rfl _ _ rfl rfl rfl rfl i0 _ 8 Try.underlying23 hi0 hz0 hz1 hz2 rfl (by omega) (by decide) (fun u hu => by obtain ⟨q, rfl, -⟩ := hu; rfl) ?_
       apply rs_eq (hO _ _) (.inl (nnb rfl))
       ·intro ρ w' ho hK
        obtain ⟨h0, -⟩ := hK
        have h0' : ρ (.tmp 5) = .pointer (some ⟨gm, 0, none⟩) := h0
        go_simp
        try exact rfl
       intro f w9 k9 hk9 hI9 ht9 hcp9
       have E0 : f 0 = _ := ht9 0 (nlb rfl)
       have E1 : f 1 = _ := ht9 1 (nlb rfl)
       have E2 : f 2 = _ := ht9 2 (nlb rfl)
       have E3 : f 3 = _ := ht9 3 (nlb rfl)
       have E4 : f 4 = _ := ht9 4 (nlb rfl)
       have E5 : f 5 = _ := ht9 5 (nlb rfl)
       have E6 : f 6 = _ := ht9 6 (nlb rfl)
       have E7 : f 7 = _ := ht9 7 (nlb rfl)
       have E11 : f 11 = _ := ht9 11 (nlb rfl)
       have E12 : f 12 = _ := ht9 12 (nlb rfl)
       have E13 : f 13 = _ := ht9 13 (nlb rfl)
       have E16 : f 16 = _ := ht9 16 (nlb rfl)
       have E22 : f 22 = _ := ht9 22 (nlb rfl)
       have Hr9 : Rd w9 R (P + 2500 + 1000 * os.length + 40 * k9) := hI9.1
       have HE9 : Only (fun g => g = R ∨ vO.ownBlock = some g) wr w9 := hI9.2.1
       have HJ9 : (∃ u, GInt (-100) 1000 u ∧ w9.ownsRow (gm + 1) 3 1 (f 21) (os.length + 1) (ints os ++ [u])) ∧ ∀ g, (f 21).ownBlock = some g → vO.ownBlock = some g ∨ wr.heap.size ≤ g := hI9.2.2
       have hk9' : k9 ≤ 24 := hk9
       simp only [putAll, E0, E1, E2, E3, E4, E5, E6, E7, E11, E12, E13, E16, E22, Nat.zero_add, Nat.reduceAdd, Act.put, List.take, List.setIfInBounds_toArray, List.set_cons_succ, List.set_cons_zero, List.getElem_toArray, List.getElem_cons_succ, List.getElem_cons_zero]
       clear E0 E1 E2 E3 E4 E5 E6 E7 E11 E12 E13 E16 E22 hI9 ht9 hcp9 hk9 hO
       generalize f 8 = r8, f 9 = r9, f 10 = r10, f 14 = r14, f 15 = r15, f 17 = r17, f 18 = r18, f 19 = r19, f 20 = r20 at *
       generalize f 21 = v9 at *
       obtain ⟨⟨uu, ⟨q, rfl, hq0, hq1⟩, hown9⟩, hat9⟩ := HJ9
       obtain ⟨A9, c9, e9⟩ := slice_of_own hown9
       subst e9
       have Ho9 := Lib.hid hown9
       have Hat9 := Lib.hid hat9
       have HE9' := Lib.hid HE9
       have Hr9' := Lib.hid (Hr9.more (show P + 2500 + 1000 * os.length + 40 * k9 ≤ P + 2500 + 1000 * (os.length + 1) by omega))
       have hbx := (HE9.block gm zm hneO).trans HC.out.box
       have q1 := blk_cell hbx 3
       have q1f := blk_free hbx 3
       have zq := blk_lt hbx
       simp at q1
       clear hown9 hat9 HE9 Hr9 hbx p0 p1 p2 p3 hk9' hi0 hz0 hz1 hz2
       go_wp2_with fail
       go_roundw
       case rel =>
        refine ⟨K - 1, os ++ [q], .slice A9 (os.length + 1) c9, by go_num, by omega, by simp; omega, Lib.hid fun q' hq => ?_, Lib.hid ?_, Lib.hid ?_, Lib.hid ?_, Lib.hid ?_⟩
        ·rcases List.mem_append.1 hq with h | h
         ·exact Hos.out q' h
         ·rw [List.mem_singleton.1 h]
          exact ⟨hq0, hq1⟩
        ·refine HC.out.addO (xs := os ++ [q]) HE9'.out (fun g hg hn => ?_) ?_ Hat9.out
         ·rintro (e | e)
          ·omega
          ·exact hn e
         ·rw [List.length_append, ints_snoc]
          exact Ho9.out
        ·exact (rd_set Hr9'.out (by omega)).more (by simp)
        ·exact only_set (HO.out.aft HE9'.out fun g hg => by
          rcases hg with h | h
          ·exact .inr h
          ·exact .inl (by have := (HC.out.o.lt g h).1; omega)) (by omega)
        ·exact res_set ((HE9'.out.block _ (blk_lt HX.out) (fun e => by
          rcases e with h | h
          ·omega
          ·have := (HC.out.o.lt _ h).1; omega)).trans HX.out) (by omega)
       case measure => simp [intOf]; omega
      ·obtain rfl : K = 0 := by omega
       have Hr1 := Lib.hid (Hr.out.more (show P + 2500 + 1000 * os.length ≤ P + 6000 by omega))
       have HC1 := Lib.hid HC.out
       clear Hr HC
       obtain ⟨W3, hW3⟩ : ∃ W3, W3 = wr := ⟨_, rfl⟩
       subst hW3
       go_wp2_with fail
       refine (odd_every n _ _ _ Hr1.out (by omega) h0 (by omega)).mono ?_
       rintro e w6 ⟨bb, rfl, hr6, hg6⟩
       have Hr6 := Lib.hid hr6
       have HO6 := Lib.hid (only_drawn HO.out hg6 (.inr rfl))
       have HX6 := Lib.hid (res_grown HX.out hg6 (fun e => by have := Option.some.inj e; omega))
       have HC6 := Lib.hid (HC1.out.drawn hg6 (by omega))
       clear hr6 hg6 Hr1 HO HX HC1
       obtain ⟨An, cn, en⟩ := slice_of_own HC6.out.n
       obtain ⟨Ag, cg, eg⟩ := slice_of_own HC6.out.g
       obtain ⟨Ao, co, eo⟩ := slice_of_own HC6.out.o
       simp only at en eg eo
       subst en eg eo
       cases bb
       ·obtain ⟨zf, f0, f1, f2, f3⟩ := HC6.out.cells
        obtain ⟨ff0, ff1, ff2, ff3⟩ := HC6.out.free
        have o0 := blk_cell HX6.out 0
        have o1 := blk_cell HX6.out 1
        have o2 := blk_cell HX6.out 2
        have o3 := blk_cell HX6.out 3
        have b0 := blk_free HX6.out 0
        have b1 := blk_free HX6.out 1
        have b2 := blk_free HX6.out 2
        have b3 := blk_free HX6.out 3
        have zr := blk_lt HX6.out
        simp at o0 o1 o2 o3
        go_wp2_with fail
        refine bodyPost_ret (v := .agg #[.int .i64 x, .slice An ns.length cn, .slice Ag gs.length cg, .slice Ao os.length co]) (by simp [results, Try.results35, go_sem, o0, o1, o2, o3]) rfl (finC (c := ⟨x, ns, gs, os⟩) HC6.out HO6.out Hr6.out (by omega) zR (by omega) ⟨by simp only; omega, by simp only; omega, by simp only; omega, by simp only; omega, by simp only; omega, Hn.out, Hl.out, Hos.out⟩ _ _ _ _)
       ·go_wp2_with fail
        refine (pick_any 6 _ _ _ Hr6.out (by omega) (by omega) (by omega)).mono ?_
        rintro e w7 ⟨z, hz0, hz1, rfl, hr7, hg7⟩
        have Hr7 := Lib.hid hr7
        have HO7 := Lib.hid (only_drawn HO6.out hg7 (.inr rfl))
        have HX7 := Lib.hid (res_grown HX6.out hg7 (fun e => by have := Option.some.inj e; omega))
        have HC7 := Lib.hid (HC6.out.drawn hg7 (by omega))
        clear hr7 hg7 Hr6 HO6 HX6 HC6
        obtain rfl | rfl | rfl | rfl | rfl | rfl : z = 0 ∨ z = 1 ∨ z = 2 ∨ z = 3 ∨ z = 4 ∨ z = 5 := by omega
        ·go_wp2_with fail
         refine (pick_any 2 _ _ _ (Hr7.out.alloc _) (by omega) (by omega) (by omega)).mono ?_
         rintro e w8 ⟨u, hu0, hu1, rfl, hr8, hg8⟩
         have hzr7 := Hr7.out.lt
         obtain ⟨vv, hvv, hu0', hcell⟩ := lit_cell2 _ _ _ _ _ hg8 hzr7 u hu0 hu1
         have zl := hg8.size
         rw [World.size_alloc] at zl
         have Hr8 := Lib.hid hr8
         have HO8 := Lib.hid (only_drawn (only_alloc HO7.out _) hg8 (.inr rfl))
         have HX8 := Lib.hid (res_grown (((bel_new w7 _).block _ (blk_lt HX7.out)).trans HX7.out) hg8 (fun e => by have := Option.some.inj e; omega))
         have HC8 := Lib.hid ((HC7.out.below (bel_new w7 _)).drawn hg8 (by omega))
         clear hr8 hg8 Hr7 HO7 HX7 HC7
         obtain ⟨zf, f0, f1, f2, f3⟩ := HC8.out.cells
         obtain ⟨ff0, ff1, ff2, ff3⟩ := HC8.out.free
         have o0 := blk_cell HX8.out 0
         have o1 := blk_cell HX8.out 1
         have o2 := blk_cell HX8.out 2
         have o3 := blk_cell HX8.out 3
         have b0 := blk_free HX8.out 0
         have b1 := blk_free HX8.out 1
         have b2 := blk_free HX8.out 2
         have b3 := blk_free HX8.out 3
         have zr := blk_lt HX8.out
         simp at o0 o1 o2 o3
         go_wp2_with fail
         refine bodyPost_ret (v := .agg #[.int .i64 vv, .slice An ns.length cn, .slice Ag gs.length cg, .slice Ao os.length co]) (by simp [results, Try.results35, go_sem, o0, o1, o2, o3]) rfl (finC (c := ⟨vv, ns, gs, os⟩) (HC8.out.setIns vv) (only_set HO8.out (by omega)) (rd_set Hr8.out (by omega)) (by omega) zR (by omega) ⟨by simp only; omega, by simp only; omega, by simp only; omega, by simp only; omega, by simp only; omega, Hn.out, Hl.out, Hos.out⟩ _ _ _ _)
        ·go_wp2_with fail
         have hO := fun ops a => rdRS_ok (Pg := Try.prog) (ops := ops) (P := P + 6000 + 1 + 1) (a := a) (G := GInt (-100) 1000) (d := 10) Hr7.out.lt (show R < gm + 1 by omega) HC7.out.o
         obtain ⟨zm, p0, p1, p2, p3⟩ := HC7.out.cells
         have hneO : ¬ (gm = R ∨ (Value.slice Ao os.length co).ownBlock = some gm) := fun e => by
          rcases e with e | e
          ·omega
          ·have := (HC7.out.o.lt gm e).1; omega
         refine wp_region_rsl (rdRS Try.prog _ R (P + 6000 + 1 + 1) w7 _ (gm + 1) 3 (.slice Ao os.length co) os.length (ints os) (GInt (-100) 1000) 10) (hO _ _) (by kernel_rfl) (by kernel_rfl) (by kernel_rfl) 12 _ rfl rfl (by kernel_rfl) (show (10 : Nat) < 12 by decide) Hr7.out HC7.out.o ?_
         obtain ⟨i0, hi0, hz0, hz1, hz2⟩ := info_parts info_int
         apply rs_eq (hO _ _) (.inl (nnb rfl))
         ·intro ρ w' ho hK
          obtain ⟨h0, -⟩ := hK
          have h0' : ρ (.tmp 5) = .pointer (some ⟨gm, 0, none⟩) := h0
          go_simp
          try exact rfl
         apply rs_eq (hO _ _) (.inl (nnb rfl))
         ·intro ρ w' ho hK
          obtain ⟨h0, -⟩ := hK
          have h0' : ρ (.tmp 122) = .pointer (some ⟨gm, 3, none⟩) := h0
          have q1 := cell_on ho hneO zm p3
          go_simp
          try exact rfl
         refine rs_old (hO _ _) (.inl (nnb rfl)) _ (.inl rfl) _ rfl rfl ?_
         apply rs_eq (hO _ _) (.inl (nnb rfl))
         ·intro ρ w' ho hK
          obtain ⟨h0, h1, -⟩ := hK
          have h0' : ρ (.const (.int .i64 2)) = .int .i64 2 := h0
          have h1' : ρ (.tmp 124) = .int .i64 M := h1
          have hwr := IntWalk.i64_in (2 * M) (by omega)
          go_simp
          try exact rfl
         refine rs_build (hO _ _) (.inl (nnb rfl)) 2 (GInt (-100) 1000) 3 (fun ρ w hK => by
          obtain ⟨h1, h2, -⟩ := hK
          have h1' : ρ (.const (.int .i64 (-1))) = .int .i64 (-1) := h1
          have h2' : ρ (.tmp 125) = .int .i64 (2 * M) := h2
          refine ⟨#[.int .i64 (-1), .int .i64 (2 * M)], rfl, ?_, ?_⟩
          ·go_simp
          ·intro c hc
           simp at hc
           rcases hc with rfl | rfl
           ·exact ⟨-1, rfl, by omega, by omega⟩
           ·exact ⟨2 * M, rfl, by omega, by omega⟩) ?_
         refine rs_old (hO _ _) (.inl (nnb rfl)) _ (.inl rfl) _ rfl rfl ?_
         refine rs_pick (hO _ _) (.inl (nnb rfl)) 36 _ _ _ R (P + 6000 + 1 + 1) 1 rfl rfl fn_draw (fun ρ w hK => ⟨hK.1, hK.2.1, 2, hK.2.2.1, by omega, by omega⟩) (fun n k w hk h1n hn hr => pick_upto n 1 _ _ w hr (by have hk' : k < 13 := hk; omega) h1n hn (by omega)) ?_
         refine rs_index (hO _ _) (.inl (nnb rfl)) 23 _ _ 2 (GInt (-100) 1000) 1 rfl _ _ rfl rfl rfl rfl (by omega) (by omega) ix_drawn ?_
         refine rs_load (hO _ _) (.inl (nnb rfl)) 3 _ (GInt (-100) 1000) rfl _ rfl rfl ag_drawn ?_
         refine rs_build (hO _ _) (.inl (nnb rfl)) 1 (GInt (-100) 1000) 3 (fun ρ w hK => by
          obtain ⟨⟨q, hq, hq0, hq1⟩, -⟩ := hK
          have h' : ρ (.tmp 130) = .int .i64 q := hq
          refine ⟨#[.int .i64 q], rfl, ?_, ?_⟩
          ·go_simp
          ·intro c hc
           simp at hc
           exact ⟨q, hc, by omega, by omega⟩) ?_
         refine rs_appendV rfl (gm + 1) 3 23 (.slice Ao os.length co) os.length (ints os) (GInt (-100) 1000) rfl R (P + 6000 + 1 + 1) rfl (fun g hg => .inr hg) (show R < gm + 1 by omega) zm _ _ rfl _ _ rfl rfl rfl rfl i0 _ 8 Try.underlying23 hi0 hz0 hz1 hz2 rfl (by omega) (by decide) (fun u hu => by obtain ⟨q, rfl, -⟩ := hu; rfl) ?_
         apply rs_eq (hO _ _) (.inl (nnb rfl))
         ·intro ρ w' ho hK
          obtain ⟨h0, -⟩ := hK
          have h0' : ρ (.tmp 5) = .pointer (some ⟨gm, 0, none⟩) := h0
          go_simp
          try exact rfl
         intro f w9 k9 hk9 hI9 ht9 hcp9
         have E0 : f 0 = _ := ht9 0 (nlb rfl)
         have E1 : f 1 = _ := ht9 1 (nlb rfl)
         have E2 : f 2 = _ := ht9 2 (nlb rfl)
         have E3 : f 3 = _ := ht9 3 (nlb rfl)
         have E5 : f 5 = _ := ht9 5 (nlb rfl)
         have E11 : f 11 = _ := ht9 11 (nlb rfl)
         have Hr9 : Rd w9 R (P + 6000 + 1 + 1 + 40 * k9) := hI9.1
         have HE9 : Only (fun g => g = R ∨ (Value.slice Ao os.length co).ownBlock = some g) w7 w9 := hI9.2.1
         have HJ9 : (∃ u, GInt (-100) 1000 u ∧ w9.ownsRow (gm + 1) 3 1 (f 10) (os.length + 1) (ints os ++ [u])) ∧ ∀ g, (f 10).ownBlock = some g → (Value.slice Ao os.length co).ownBlock = some g ∨ w7.heap.size ≤ g := hI9.2.2
         have hk9' : k9 ≤ 13 := hk9
         simp only [putAll, E0, E1, E2, E3, E5, E11, Nat.zero_add, Nat.reduceAdd, Act.put, List.take, List.setIfInBounds_toArray, List.set_cons_succ, List.set_cons_zero, List.getElem_toArray, List.getElem_cons_succ, List.getElem_cons_zero]
         clear E0 E1 E2 E3 E5 E11 hI9 ht9 hcp9 hk9 hO
         generalize f 4 = r4, f 6 = r6, f 7 = r7, f 8 = r8, f 9 = r9 at *
         generalize f 10 = v9 at *
         obtain ⟨⟨uu, ⟨q, rfl, hq0, hq1⟩, hown9⟩, hat9⟩ := HJ9
         obtain ⟨A9, c9, e9⟩ := slice_of_own hown9
         subst e9
         have Ho9 := Lib.hid hown9
         have Hat9 := Lib.hid hat9
         have HE9' := Lib.hid HE9
         have Hr9' := Lib.hid (Hr9.more (show P + 6000 + 1 + 1 + 40 * k9 ≤ P + 7000 by omega))
         clear p0 p1 p2 p3
         have hbx := (HE9.block gm zm hneO).trans HC7.out.box
         have zf := blk_lt hbx
         have f0 := blk_cell hbx 0
         have f1 := blk_cell hbx 1
         have f2 := blk_cell hbx 2
         have f3 := blk_cell hbx 3
         have ff3 := blk_free hbx 3
         have HX9 := Lib.hid ((HE9.block _ (blk_lt HX7.out) (fun e => by
          rcases e with h | h
          ·omega
          ·have := (HC7.out.o.lt _ h).1; omega)).trans HX7.out)
         have o0 := blk_cell HX9.out 0
         have o1 := blk_cell HX9.out 1
         have o2 := blk_cell HX9.out 2
         have o3 := blk_cell HX9.out 3
         have b0 := blk_free HX9.out 0
         have b1 := blk_free HX9.out 1
         have b2 := blk_free HX9.out 2
         have b3 := blk_free HX9.out 3
         have zr := blk_lt HX9.out
         simp at f0 f1 f2 f3 o0 o1 o2 o3
         clear hown9 hat9 HE9 Hr9 hbx hk9' hi0 hz0 hz1 hz2
         go_wp2_with fail
         refine bodyPost_ret (v := .agg #[.int .i64 x, .slice An ns.length cn, .slice Ag gs.length cg, .slice A9 (os.length + 1) c9]) (by simp [results, Try.results35, go_sem, o0, o1, o2, o3]) rfl (finC (c := ⟨x, ns, gs, os ++ [q]⟩) (HC7.out.addO (xs := os ++ [q]) HE9'.out (fun g hg hn e => e.elim (fun e => by omega) hn) (by rw [List.length_append, ints_snoc]; exact Ho9.out) Hat9.out) (only_set (HO7.out.aft HE9'.out fun g hg => hg.elim .inr fun h => .inl (by have := (HC7.out.o.lt g h).1; omega)) (by omega)) (rd_set Hr9'.out (by omega)) (by omega) zR (by omega) ⟨by simp only; omega, by simp only; omega, by simp only; omega, by simp only; omega, by simp; omega, Hn.out, Hl.out, (fun q hq => by
           rcases List.mem_append.1 hq with h | h
           ·exact Hos.out q h
           ·rw [List.mem_singleton.1 h]
            exact ⟨hq0, hq1⟩)⟩ _ _ _ _)
        ·have hneK : (Value.slice An ns.length cn).ownBlock ≠ some gm := fun e => by have := (HC7.out.n.lt gm e).1; omega
         obtain ⟨zm, p0, p1, p2, p3⟩ := HC7.out.cells
         have Hlit := Lib.hid (Row.of_own (World.ownsRow_lit (base := w7.heap.size) (e := 3) (size := 1) w7 #[.int .i64 (-1)] 1 (Nat.le_refl _) (by unfold maxLen; omega) rfl))
         go_wp2_with (
          at_builtin
          refine append_ints rfl (.tmp 137) (.tmp 138) rfl (gm + 1) _ ns.length _ rfl (HC7.out.n.alloc _) _ 1 [.int .i64 (-1)] rfl Hlit.out (by simp [Value.oneCell']) (by omega) (by simp; omega) ?_
          intro v9 w9 hown9 hg9 hat9
          obtain ⟨A9, c9, e9⟩ := slice_of_own hown9
          subst e9
          have Ho9 := Lib.hid hown9
          have HE9 := Lib.hid (app_only hg9)
          have Hr9 := Lib.hid (app_rd Hr7.out hg9 HC7.out.n (by omega))
          have Hat9 := Lib.hid (app_at hat9)
          clear p0 p1 p2 p3
          have hbx := (HE9.out.block gm zm hneK).trans HC7.out.box
          have zf := blk_lt hbx
          have f0 := blk_cell hbx 0
          have f1 := blk_cell hbx 1
          have f2 := blk_cell hbx 2
          have f3 := blk_cell hbx 3
          have ff1 := blk_free hbx 1
          have HX9 := Lib.hid ((HE9.out.block _ (blk_lt HX7.out) (fun e => by have := (HC7.out.n.lt _ e).1; omega)).trans HX7.out)
          have o0 := blk_cell HX9.out 0
          have o1 := blk_cell HX9.out 1
          have o2 := blk_cell HX9.out 2
          have o3 := blk_cell HX9.out 3
          have b0 := blk_free HX9.out 0
          have b1 := blk_free HX9.out 1
          have b2 := blk_free HX9.out 2
          have b3 := blk_free HX9.out 3
          have zr := blk_lt HX9.out
          simp at f0 f1 f2 f3 o0 o1 o2 o3
          clear hown9 hg9 hat9 hbx)
         refine bodyPost_ret (v := .agg #[.int .i64 x, .slice A9 (ns.length + 1) c9, .slice Ag gs.length cg, .slice Ao os.length co]) (by simp [results, Try.results35, go_sem, o0, o1, o2, o3]) rfl (finC (c := ⟨x, ns ++ [-1], gs, os⟩) (HC7.out.addN (xs := ns ++ [-1]) HE9.out (fun g _ hn => hn) (by rw [List.length_append, ints_snoc]; exact Ho9.out) Hat9.out) (only_set (HO7.out.aft HE9.out fun g hg => .inl (by have := (HC7.out.n.lt g hg).1; omega)) (by omega)) (rd_set Hr9.out (by omega)) (by omega) zR (by omega) ⟨by simp only; omega, by simp only; omega, by simp; omega, by simp only; omega, by simp only; omega, (fun q hq => by
           rcases List.mem_append.1 hq with h | h
           ·exact Hn.out q h
           ·rw [List.mem_singleton.1 h]
            exact ⟨by omega, by omega⟩), Hl.out, Hos.out⟩ _ _ _ _)
        ·have hneK : (Value.slice Ag gs.length cg).ownBlock ≠ some gm := fun e => by have := (HC7.out.g.lt gm e).1; omega
         obtain ⟨zm, p0, p1, p2, p3⟩ := HC7.out.cells
         have Hlit := Lib.hid (Row.of_own (World.ownsRow_lit (base := w7.heap.size) (e := 64) (size := 2) w7 #[.int .i64 (2 * M), .int .i64 0] 1 (Nat.le_refl _) (by unfold maxLen; omega) rfl))
         go_wp2_with (
          at_builtin
          refine append_gates rfl (.tmp 144) (.tmp 148) rfl (gm + 1) _ gs.length _ rfl (HC7.out.g.alloc _) _ 1 [.int .i64 (2 * M), .int .i64 0] rfl Hlit.out (by simp [Value.oneCell']) (by omega) (by simp; omega) ?_
          intro v9 w9 hown9 hg9 hat9
          obtain ⟨A9, c9, e9⟩ := slice_of_own hown9
          subst e9
          have Ho9 := Lib.hid hown9
          have HE9 := Lib.hid (app_only hg9)
          have Hr9 := Lib.hid (app_rd Hr7.out hg9 HC7.out.g (by omega))
          have Hat9 := Lib.hid (app_at hat9)
          clear p0 p1 p2 p3
          have hbx := (HE9.out.block gm zm hneK).trans HC7.out.box
          have zf := blk_lt hbx
          have f0 := blk_cell hbx 0
          have f1 := blk_cell hbx 1
          have f2 := blk_cell hbx 2
          have f3 := blk_cell hbx 3
          have ff2 := blk_free hbx 2
          have HX9 := Lib.hid ((HE9.out.block _ (blk_lt HX7.out) (fun e => by have := (HC7.out.g.lt _ e).1; omega)).trans HX7.out)
          have o0 := blk_cell HX9.out 0
          have o1 := blk_cell HX9.out 1
          have o2 := blk_cell HX9.out 2
          have o3 := blk_cell HX9.out 3
          have b0 := blk_free HX9.out 0
          have b1 := blk_free HX9.out 1
          have b2 := blk_free HX9.out 2
          have b3 := blk_free HX9.out 3
          have zr := blk_lt HX9.out
          simp at f0 f1 f2 f3 o0 o1 o2 o3
          clear hown9 hg9 hat9 hbx)
         refine bodyPost_ret (v := .agg #[.int .i64 x, .slice An ns.length cn, .slice A9 (gs.length + 1) c9, .slice Ao os.length co]) (by simp [results, Try.results35, go_sem, o0, o1, o2, o3]) rfl (finC (c := ⟨x, ns, gs ++ [(2 * M, 0)], os⟩) (HC7.out.addG (xs := gs ++ [(2 * M, 0)]) HE9.out (fun g _ hn => hn) (by rw [List.length_append, cubes_append]; exact Ho9.out) Hat9.out) (only_set (HO7.out.aft HE9.out fun g hg => .inl (by have := (HC7.out.g.lt g hg).1; omega)) (by omega)) (rd_set Hr9.out (by omega)) (by omega) zR (by omega) ⟨by simp only; omega, by simp only; omega, by simp only; omega, by simp; omega, by simp only; omega, Hn.out, (fun q hq => by
           rcases List.mem_append.1 hq with h | h
           ·exact Hl.out q h
           ·rw [List.mem_singleton.1 h]
            exact ⟨⟨by simp only; omega, by simp only; omega⟩, by simp only; omega, by simp only; omega⟩), Hos.out⟩ _ _ _ _)
        ·obtain ⟨W4, hW4⟩ : ∃ W4, W4 = w7 := ⟨_, rfl⟩
         subst hW4
         have Hr8 := Lib.hid (Hr7.out.more (show P + 6000 + 1 + 1 ≤ P + 7000 by omega))
         go_wp2_with fail
         go_loopw [] (fun wr => ∃ (hs : List (Int × Int)) (vH : Value), hs.length ≤ 15 ∧ Hid (∀ q ∈ hs, LitS q.1 ∧ LitS q.2) ∧ Hid (CB gm ⟨x, ns, hs, os⟩ (.slice An ns.length cn) vH (.slice Ao os.length co) wr) ∧ Hid (Rd wr R (P + 7000)) ∧ Hid (Only (· = R) w wr) ∧ Hid (wr.heap[w.heap.size]? = some (.cells #[.int .i64 0, .slice none 0 0, .slice none 0 0, .slice none 0 0] 26 (0, 0)))) (fun wr => 16 - gsLen gm wr)
         case atStart => exact ⟨gs, _, by omega, Hl, HC7, Hr8, HO7, HX7⟩
         case round =>
          obtain ⟨hs, vH, hhl, Hhs, HC8, Hr9, HO8, HX8⟩ := hrel
          clear HC7 Hr7 Hr8 HO7 HX7
          obtain ⟨Ah, ch, eh⟩ := slice_of_own HC8.out.g
          simp only at eh
          subst eh
          by_cases hl14 : (hs.length : Int) ≤ 14
          ·have hneK : (Value.slice Ah hs.length ch).ownBlock ≠ some gm := fun e => by have := (HC8.out.g.lt gm e).1; omega
           obtain ⟨zm, p0, p1, p2, p3⟩ := HC8.out.cells
           have hgl := gsLen_is HC8.out
           simp only at hgl
           have Hlit := Lib.hid (Row.of_own (World.ownsRow_lit (base := wr.heap.size) (e := 64) (size := 2) wr #[.int .i64 0, .int .i64 0] 1 (Nat.le_refl _) (by unfold maxLen; omega) rfl))
           go_wp2_with (
            at_builtin
            refine append_gates rfl (.tmp 158) (.tmp 160) rfl (gm + 1) _ hs.length _ rfl (HC8.out.g.alloc _) _ 1 [.int .i64 0, .int .i64 0] rfl Hlit.out (by simp [Value.oneCell']) (by omega) (by simp; omega) ?_
            intro v9 w9 hown9 hg9 hat9
            obtain ⟨A9, c9, e9⟩ := slice_of_own hown9
            subst e9
            have Ho9 := Lib.hid hown9
            have HE9 := Lib.hid (app_only hg9)
            have Hr10 := Lib.hid (app_rd Hr9.out hg9 HC8.out.g (by omega))
            have Hat9 := Lib.hid (app_at hat9)
            clear p0 p1 p2 p3
            have hbx := (HE9.out.block gm zm hneK).trans HC8.out.box
            have q2 := blk_cell hbx 2
            have q2f := blk_free hbx 2
            have zq := blk_lt hbx
            simp at q2
            clear hown9 hg9 hat9 hbx)
           have HCn := Lib.hid (HC8.out.addG (xs := hs ++ [(0, 0)]) HE9.out (fun g _ hn => hn) (by rw [List.length_append, cubes_append]; exact Ho9.out) Hat9.out)
           go_roundw
           case rel =>
            refine ⟨hs ++ [(0, 0)], .slice A9 (hs.length + 1) c9, by simp; omega, Lib.hid fun q hq => ?_, HCn, Lib.hid ?_, Lib.hid ?_, Lib.hid ?_⟩
            ·rcases List.mem_append.1 hq with h | h
             ·exact Hhs.out q h
             ·rw [List.mem_singleton.1 h]
              exact ⟨⟨by simp only; omega, by simp only; omega⟩, by simp only; omega, by simp only; omega⟩
            ·exact rd_set Hr10.out (by omega)
            ·exact only_set (HO8.out.aft HE9.out fun g hg => .inl (by have := (HC8.out.g.lt g hg).1; omega)) (by omega)
            ·exact res_set ((HE9.out.block _ (blk_lt HX8.out) (fun e => by have := (HC8.out.g.lt _ e).1; omega)).trans HX8.out) (by omega)
           case measure =>
            have h1 := gsLen_is HCn.out
            have h2 := gsLen_is HC8.out
            simp only [List.length_append, List.length_cons, List.length_nil] at h1 h2
            rw [h1, h2]
            omega
          ·obtain ⟨zf, f0, f1, f2, f3⟩ := HC8.out.cells
           obtain ⟨ff0, ff1, ff2, ff3⟩ := HC8.out.free
           have o0 := blk_cell HX8.out 0
           have o1 := blk_cell HX8.out 1
           have o2 := blk_cell HX8.out 2
           have o3 := blk_cell HX8.out 3
           have b0 := blk_free HX8.out 0
           have b1 := blk_free HX8.out 1
           have b2 := blk_free HX8.out 2
           have b3 := blk_free HX8.out 3
           have zr := blk_lt HX8.out
           simp at o0 o1 o2 o3
           go_wp2_with fail
           refine bodyPost_ret (v := .agg #[.int .i64 x, .slice An ns.length cn, .slice Ah hs.length ch, .slice Ao os.length co]) (by simp [results, Try.results35, go_sem, o0, o1, o2, o3]) rfl (finC (c := ⟨x, ns, hs, os⟩) HC8.out HO8.out Hr9.out (by omega) zR (by omega) ⟨by simp only; omega, by simp only; omega, by simp only; omega, by simp only; omega, by simp only; omega, Hn.out, Hhs.out, Hos.out⟩ _ _ _ _)
        ·have hneK : (Value.slice Ao os.length co).ownBlock ≠ some gm := fun e => by have := (HC7.out.o.lt gm e).1; omega
         obtain ⟨zm, p0, p1, p2, p3⟩ := HC7.out.cells
         have Hlit := Lib.hid (Row.of_own (World.ownsRow_lit (base := w7.heap.size) (e := 3) (size := 1) w7 #[.int .i64 0, .int .i64 0, .int .i64 0, .int .i64 0] 4 (Nat.le_refl _) (by unfold maxLen; omega) rfl))
         go_wp2_with (
          at_builtin
          refine append_ints rfl (.tmp 108) (.tmp 109) rfl (gm + 1) _ os.length _ rfl (HC7.out.o.alloc _) _ 4 [.int .i64 0, .int .i64 0, .int .i64 0, .int .i64 0] rfl Hlit.out (by simp [Value.oneCell']) (by omega) (by simp; omega) ?_
          intro v9 w9 hown9 hg9 hat9
          obtain ⟨A9, c9, e9⟩ := slice_of_own hown9
          subst e9
          have Ho9 := Lib.hid hown9
          have HE9 := Lib.hid (app_only hg9)
          have Hr9 := Lib.hid (app_rd Hr7.out hg9 HC7.out.o (by omega))
          have Hat9 := Lib.hid (app_at hat9)
          clear p0 p1 p2 p3
          have hbx := (HE9.out.block gm zm hneK).trans HC7.out.box
          have zf := blk_lt hbx
          have f0 := blk_cell hbx 0
          have f1 := blk_cell hbx 1
          have f2 := blk_cell hbx 2
          have f3 := blk_cell hbx 3
          have ff3 := blk_free hbx 3
          have HX9 := Lib.hid ((HE9.out.block _ (blk_lt HX7.out) (fun e => by have := (HC7.out.o.lt _ e).1; omega)).trans HX7.out)
          have o0 := blk_cell HX9.out 0
          have o1 := blk_cell HX9.out 1
          have o2 := blk_cell HX9.out 2
          have o3 := blk_cell HX9.out 3
          have b0 := blk_free HX9.out 0
          have b1 := blk_free HX9.out 1
          have b2 := blk_free HX9.out 2
          have b3 := blk_free HX9.out 3
          have zr := blk_lt HX9.out
          simp at f0 f1 f2 f3 o0 o1 o2 o3
          clear hown9 hg9 hat9 hbx)
         refine bodyPost_ret (v := .agg #[.int .i64 x, .slice An ns.length cn, .slice Ag gs.length cg, .slice A9 (os.length + 4) c9]) (by simp [results, Try.results35, go_sem, o0, o1, o2, o3]) rfl (finC (c := ⟨x, ns, gs, os ++ [0, 0, 0, 0]⟩) (HC7.out.addO (xs := os ++ [0, 0, 0, 0]) HE9.out (fun g _ hn => hn) (by rw [List.length_append, ints_app4]; exact Ho9.out) Hat9.out) (only_set (HO7.out.aft HE9.out fun g hg => .inl (by have := (HC7.out.o.lt g hg).1; omega)) (by omega)) (rd_set Hr9.out (by omega)) (by omega) zR (by omega) ⟨by simp only; omega, by simp only; omega, by simp only; omega, by simp only; omega, by simp; omega, Hn.out, Hl.out, (fun q hq => by
           rcases List.mem_append.1 hq with h | h
           ·exact Hos.out q h
           ·simp at h
            subst h
            exact ⟨by omega, by omega⟩)⟩ _ _ _ _)
end Go.Proofs.Ytkkkjbinfdohpaa
namespace Go.Proofs.Ytkkkjbinfdohpaa
open Go.RowKit
def setR (w : World) (k : Nat) (a b c d : Value) : World := (((w.setCell ⟨k, 0, none⟩ a).setCell ⟨k, 1, none⟩ b).setCell ⟨k, 2, none⟩ c).setCell ⟨k, 3, none⟩ d
def Drawn (w : World) (e : Ending) (w' : World) : Prop := ∃ v c, e = .returned v ∧ OwnC w.heap.size v c w' ∧ Small c ∧ Below w.heap.size w w'
end Go.Proofs.Ytkkkjbinfdohpaa
namespace Go.Proofs.Ytkkkjbinfdohpaa
namespace Cir
theorem lits_len (v : List Bool) (ls : List Nat) : (lits v ls).length = ls.length := List.length_map _
def simL (c : Ci) : List Bool → List (List Bool) → List (List Bool)
  | _, [] => []
  | st, r :: rs => lits (vals c st r) c.outs :: simL c (lits (vals c st r) c.next) rs
def runL (c : Ci) : List Bool → List (List Bool) → List Bool
  | st, [] => st
  | st, r :: rs => runL c (lits (vals c st r) c.next) rs
def runN (c : Ci) : Nat → List Nat → Nat
  | s, [] => s
  | s, x :: xs => runN c (nextOf c s x) xs
theorem runN_snoc (c : Ci) (x : Nat) : ∀ (xs : List Nat) (s : Nat), runN c s (xs ++ [x]) = nextOf c (runN c s xs) x
 | [], _ => rfl
 | y :: xs, s => by rw [List.cons_append, runN, runN_snoc c x xs, runN]
def rowsN (n : Nat) (xs : List Nat) : List (List Bool) := xs.map fun x => bits x n
theorem mem_push {l : List Nat} {n x : Nat} : x ∈ push l n ↔ x ∈ l ∨ x = n := by
 unfold push
 cases h : l.contains n
 ·simp
 ·have hn : n ∈ l := by simpa using h
  simp only [if_true]
  exact ⟨.inl, fun h => h.elim id fun e => e ▸ hn⟩
theorem mem_pushes {c : Ci} {s : Nat} {l : List Nat} {y : Nat} : ∀ {j : Nat}, y ∈ pushes c s j l ↔ y ∈ l ∨ ∃ x, x < j ∧ nextOf c s x = y
 | 0 => by rw [pushes_zero]; exact ⟨.inl, fun h => h.elim id fun ⟨x, hx, _⟩ => absurd hx (by omega)⟩
 | j + 1 => by
  rw [pushes_succ, mem_push, mem_pushes (j := j)]
  constructor
  ·rintro ((h | ⟨x, hx, h⟩) | h)
   ·exact .inl h
   ·exact .inr ⟨x, by omega, h⟩
   ·exact .inr ⟨j, by omega, h.symm⟩
  ·rintro (h | ⟨x, hx, h⟩)
   ·exact .inl (.inl h)
   ·rcases Nat.lt_or_ge x j with hj | hj
    ·exact .inl (.inr ⟨x, hj, h⟩)
    ·exact .inr (by rw [← h, show x = j from by omega])
theorem bfs_get {c : Ci} : ∀ (f k : Nat) {l : List Nat} {i x : Nat}, l[i]? = some x → (bfs c f k l)[i]? = some x
 | 0, _, _, _, _, h => h
 | f + 1, k, l, i, x, h => by
  rw [bfs]
  split
  ·exact h
  ·exact bfs_get f (k + 1) (pushes_get h)
theorem bfs_closed {c : Ci} (hc : Ok c) : ∀ (f k : Nat) (l : List Nat), 9 ≤ f + k → Sts c l → k ≤ l.length → (∀ i s, i < k → l[i]? = some s → ∀ x, x < 2 ^ c.ins → nextOf c s x ∈ l) → ∀ s ∈ bfs c f k l, ∀ x, x < 2 ^ c.ins → nextOf c s x ∈ bfs c f k l
 | 0, k, l, hf, hl, hk, _ => absurd (hl.len hc) (by omega)
 | f + 1, k, l, hf, hl, hk, h => by
  rw [bfs]
  cases hs : l[k]? with
  | none =>
   intro s hm x hx
   have hm : s ∈ l := hm
   obtain ⟨i, hi, rfl⟩ := List.mem_iff_getElem.1 hm
   have hkl : l.length ≤ k := by simpa using hs
   exact h i _ (by omega) (List.getElem?_eq_getElem hi) x hx
  | some t =>
   simp only
   obtain ⟨hkl, ht⟩ := List.getElem?_eq_some_iff.1 hs
   obtain ⟨m, hm⟩ := pushes_prefix c t l (2 ^ c.ins)
   refine bfs_closed hc f (k + 1) _ (by omega) (hl.pushes t _) (by rw [hm, List.length_append]; omega) fun i s hi hs' x hx => ?_
   have hil : i < l.length := by omega
   rw [hm, List.getElem?_append_left hil] at hs'
   rcases Nat.lt_or_ge i k with h1 | h1
   ·exact mem_pushes.2 (.inl (h i s h1 hs' x hx))
   ·obtain rfl : i = k := by omega
    rw [hs] at hs'
    obtain rfl := Option.some.inj hs'
    exact mem_pushes.2 (.inr ⟨x, hx, rfl⟩)
theorem reach_closed {c : Ci} (hc : Ok c) {s x : Nat} (h : s ∈ reach c) (hx : x < 2 ^ c.ins) : nextOf c s x ∈ reach c :=
 bfs_closed hc 9 0 [0] (by omega) (Sts.zero c) (by omega) (fun i s hi => by omega) s h x hx
theorem reach_zero (c : Ci) : 0 ∈ reach c := List.mem_of_getElem? (bfs_get (c := c) 9 0 (l := [0]) (i := 0) rfl)
def Inputs (c : Ci) (p : List Nat) : Prop := ∀ x ∈ p, x < 2 ^ c.ins
theorem Inputs.snoc {c : Ci} {p : List Nat} {x : Nat} (h : Inputs c p) (hx : x < 2 ^ c.ins) : Inputs c (p ++ [x]) := fun y hy => by
 rcases List.mem_append.1 hy with h1 | h1
 ·exact h y h1
 ·rw [List.mem_singleton.1 h1]; exact hx
theorem bfs_run {c : Ci} : ∀ (f k : Nat) (l : List Nat), (∀ s ∈ l, ∃ p, Inputs c p ∧ runN c 0 p = s) → ∀ s ∈ bfs c f k l, ∃ p, Inputs c p ∧ runN c 0 p = s
 | 0, _, _, h => h
 | f + 1, k, l, h => by
  rw [bfs]
  cases hs : l[k]? with
  | none => exact h
  | some t =>
   refine bfs_run f (k + 1) _ fun s hm => ?_
   rcases mem_pushes.1 hm with h1 | ⟨x, hx, h1⟩
   ·exact h s h1
   ·obtain ⟨p, hp, hr⟩ := h t (List.mem_of_getElem? hs)
    exact ⟨p ++ [x], hp.snoc hx, by rw [runN_snoc, hr, h1]⟩
theorem reach_run {c : Ci} {s : Nat} (h : s ∈ reach c) : ∃ p, Inputs c p ∧ runN c 0 p = s :=
 bfs_run 9 0 [0] (fun s hs => ⟨[], fun x hx => (by cases hx), (List.mem_singleton.1 hs).symm⟩) s h
def clean (c : Ci) (o : Nat) : Nat → List Nat → Bool
  | _, [] => true
  | s, x :: xs => !bad c o s x && clean c o (nextOf c s x) xs
def Paths (c : Ci) (o : Nat) (l : List (Nat × List Nat)) : Prop := ∀ e ∈ l, Inputs c e.2 ∧ runN c 0 e.2 = e.1 ∧ clean c o 0 e.2 = true
end Cir
end Go.Proofs.Ytkkkjbinfdohpaa
namespace Go.Proofs.Ytkkkjbinfdohpaa
namespace Mac
def stepN (m : Mz) (s : Nat) (x : Int) : Nat := ((m.next.getD s []).getD x.toNat 0).toNat
def stepO (m : Mz) (s : Nat) (x : Int) : Int := (m.out.getD s []).getD x.toNat 0
def st (m : Mz) (ins : List Int) : Nat := ins.foldl (stepN m) 0
def outs (m : Mz) : Nat → List Int → List Int
  | _, [] => []
  | s, x :: xs => stepO m s x :: outs m (stepN m s x) xs
def inRange (m : Mz) (x : Int) : Bool := inOk ((2 ^ m.ins.toNat : Nat) : Int) x
def runOk (m : Mz) (ins : List Int) : Bool := valid m && decide (ins.length ≤ 40) && ins.all (inRange m)
def runI (m : Mz) (ins : List Int) : List Int := if runOk m ins then outs m 0 ins else []
theorem valid_row {m : Mz} (h : valid m = true) {s : Nat} (hs : s < m.next.length) {x : Nat} (hx : x < 2 ^ m.ins.toNat) :
  ∃ r q y o, m.next[s]? = some r ∧ m.out[s]? = some q ∧ r.length = 2 ^ m.ins.toNat ∧ q.length = 2 ^ m.ins.toNat ∧ r[x]? = some ((y : Nat) : Int) ∧ y < m.next.length ∧ q[x]? = some o ∧ 0 ≤ o ∧ o < 8 ∧ stepN m s x = y ∧ stepO m s x = o := by
 unfold valid at h
 rw [Bool.and_eq_true, Bool.and_eq_true] at h
 obtain ⟨h0, h1, h2⟩ := h
 unfold sizes at h0
 rw [decide_eq_true_eq] at h0
 obtain ⟨_, _, _, _, h5⟩ := h0
 have hso : s < m.out.length := by omega
 have e1 : m.next[s]? = some m.next[s] := List.getElem?_eq_getElem hs
 have e2 : m.out[s]? = some m.out[s] := List.getElem?_eq_getElem hso
 have g1 := List.all_eq_true.1 h1 _ (List.getElem_mem hs)
 have g2 := List.all_eq_true.1 h2 _ (List.getElem_mem hso)
 generalize m.next[s] = r at e1 g1
 generalize m.out[s] = q at e2 g2
 unfold rowOk lenOk at g1 g2
 rw [Bool.and_eq_true, decide_eq_true_eq] at g1 g2
 have l1 : r.length = 2 ^ m.ins.toNat := by omega
 have l2 : q.length = 2 ^ m.ins.toNat := by omega
 have f1 : r[x]? = some (r[x]'(by omega)) := List.getElem?_eq_getElem _
 have f2 : q[x]? = some (q[x]'(by omega)) := List.getElem?_eq_getElem _
 have k1 := List.all_eq_true.1 g1.2 _ (List.getElem_mem (show x < r.length by omega))
 have k2 := List.all_eq_true.1 g2.2 _ (List.getElem_mem (show x < q.length by omega))
 generalize r[x]'(by omega) = y at f1 k1
 generalize q[x]'(by omega) = o at f2 k2
 unfold inOk at k1 k2
 rw [decide_eq_true_eq] at k1 k2
 obtain ⟨y', rfl⟩ := Int.eq_ofNat_of_zero_le k1.1
 refine ⟨r, q, y', o, e1, e2, l1, l2, f1, by omega, f2, k2.1, k2.2, ?_, ?_⟩
 ·unfold stepN
  simp [List.getD_eq_getElem?_getD, e1, f1]
 ·unfold stepO
  simp [List.getD_eq_getElem?_getD, e2, f2]
end Mac
end Go.Proofs.Ytkkkjbinfdohpaa
namespace Go.Proofs.Ytkkkjbinfdohpaa
open Go.RowKit
theorem step_field0 (A B : Option Addr) (n m c q : Nat) (w : World) : (Instr.field 138 (.agg #[.slice A n c, .slice B m q]) 0).run Try.prog w = .ok (.slice A n c) w := by kernel_rfl
theorem step_field1 (A B : Option Addr) (n m c q : Nat) (w : World) : (Instr.field 138 (.agg #[.slice A n c, .slice B m q]) 1).run Try.prog w = .ok (.slice B m q) w := by kernel_rfl
def TStep (so st : List Bool) : Ty := fun w v => ∃ a b, v = .agg #[a, b] ∧ BoolsAt w a so ∧ BoolsAt w b st
theorem stb_step (so st : List Bool) : Stb (fun _ => False) (TStep so st) := by
 rintro v w w' ⟨a, b, rfl, h1, h2⟩ ho
 exact ⟨a, b, rfl, stb_bools _ _ _ _ h1 ho, stb_bools _ _ _ _ h2 ho⟩
theorem l16Next_any (v : Value) (d : Ci) (s x : Nat) (w : World) (h : CircAt w v (Cir.toCz d)) (hd : Cir.Ok d) (hs : s ≤ 1000) (hx : x ≤ 1000) :
  Calls Try.prog 75 #[v, .int .i64 s, .int .i64 x] w fun e w' => e = .returned (.int .i64 (Cir.nextOf d s x : Nat)) ∧ Below w.heap.size w w' := by
 have l1 := hd.ins
 have l2 := hd.nexts
 have HC := Lib.hid h
 obtain ⟨vn, vg, vo, rfl, r1, r2, r3⟩ := h
 obtain ⟨An, cn, rfl, hcn, hcmn⟩ := NatsAt.shape (xs := d.next) r1
 have hins : (Cir.toCz d).ins = (d.ins : Int) := rfl
 rw [hins] at HC ⊢
 have B0 := Lib.hid (bel_new w (.cells #[.int .i64 d.ins, .slice An d.next.length cn, vg, vo] 26))
 obtain ⟨z, p0, p1, p2, p3⟩ := PCells.boxed w d.ins (.slice An d.next.length cn) vg vo 26
 have HC := Lib.hid (HC.out.below B0.out)
 have Hd := Lib.hid hd
 have HNx : Hid (Cir.nextOf d s x = Cir.num (Cir.lits (Cir.vals d (Cir.bits s d.next.length) (Cir.bits x d.ins)) d.next)) := Lib.hid rfl
 clear r1 r2 r3 hd hins
 go_enter Try.func75, Try.ntmps75
 go_wp2_with fail
 generalize w.alloc (.cells #[.int .i64 d.ins, .slice An d.next.length cn, vg, vo] 26) = W at *
 refine wp_region_rs (quietRS Try.prog _ W _) quietRS_ok (by kernel_rfl) (by kernel_rfl) (by kernel_rfl) (nlb rfl) trivial trivial ?_
 apply rs_eq quietRS_ok quiet_any
 ·intro ρ w' ho hK
  have ho : Only _ W w' := ho
  obtain ⟨h0, -⟩ := hK
  have h0' : ρ (.tmp 3) = _ := h0
  have hb := only_below ho
  have q0 := (hb.cell (p := ⟨w.heap.size, 0, none⟩) z).trans p0
  have q1 := (hb.cell (p := ⟨w.heap.size, 1, none⟩) z).trans p1
  have q2 := (hb.cell (p := ⟨w.heap.size, 2, none⟩) z).trans p2
  have q3 := (hb.cell (p := ⟨w.heap.size, 3, none⟩) z).trans p3
  go_simp
  try exact rfl
 refine rs_old quietRS_ok quiet_any _ (.inl rfl) _ rfl rfl ?_
 apply rs_eq quietRS_ok quiet_any
 ·intro ρ w' ho hK
  have ho : Only _ W w' := ho
  obtain ⟨h0, -⟩ := hK
  have h0' : ρ (.tmp 3) = _ := h0
  go_simp
  try exact rfl
 apply rs_eq quietRS_ok quiet_any
 ·intro ρ w' ho hK
  have ho : Only _ W w' := ho
  obtain ⟨h0, -⟩ := hK
  have h0' : ρ (.tmp 9) = _ := h0
  have hb := only_below ho
  have q0 := (hb.cell (p := ⟨w.heap.size, 0, none⟩) z).trans p0
  have q1 := (hb.cell (p := ⟨w.heap.size, 1, none⟩) z).trans p1
  have q2 := (hb.cell (p := ⟨w.heap.size, 2, none⟩) z).trans p2
  have q3 := (hb.cell (p := ⟨w.heap.size, 3, none⟩) z).trans p3
  go_simp
  try exact rfl
 apply rs_eq quietRS_ok quiet_any
 ·intro ρ w' ho hK
  have ho : Only _ W w' := ho
  obtain ⟨h0, -⟩ := hK
  have h0' : ρ (.tmp 10) = _ := h0
  go_simp
  try exact rfl
 refine rs_call quietRS_ok quiet_any (TBools (Cir.bits s d.next.length)) (stb_bools _) 46 _ _ rfl (fun ρ w' ho hK => by
  have ho : Only _ W w' := ho
  obtain ⟨h0, h1, h2, -⟩ := hK
  have h0' : ρ (.func 46) = .func (.func 46) #[] #[] := h0
  have h1' : ρ (.tmp 8) = _ := h1
  have h2' : ρ (.tmp 11) = _ := h2
  refine ⟨#[ρ (.tmp 8), ρ (.tmp 11)], ?_, ?_⟩
  ·go_simp
  ·rw [h1', h2']
   refine (l4Bits_any s d.next.length w' (by omega) (by omega)).mono ?_
   rintro e w2 ⟨v2, rfl, hO, hb⟩
   exact ⟨v2, rfl, Row.of_own hO, hb⟩) ?_
 refine rs_old quietRS_ok quiet_any _ (.inl rfl) _ rfl rfl ?_
 apply rs_eq quietRS_ok quiet_any
 ·intro ρ w' ho hK
  have ho : Only _ W w' := ho
  obtain ⟨h0, -⟩ := hK
  have h0' : ρ (.tmp 3) = _ := h0
  go_simp
  try exact rfl
 apply rs_eq quietRS_ok quiet_any
 ·intro ρ w' ho hK
  have ho : Only _ W w' := ho
  obtain ⟨h0, -⟩ := hK
  have h0' : ρ (.tmp 14) = _ := h0
  have hb := only_below ho
  have q0 := (hb.cell (p := ⟨w.heap.size, 0, none⟩) z).trans p0
  have q1 := (hb.cell (p := ⟨w.heap.size, 1, none⟩) z).trans p1
  have q2 := (hb.cell (p := ⟨w.heap.size, 2, none⟩) z).trans p2
  have q3 := (hb.cell (p := ⟨w.heap.size, 3, none⟩) z).trans p3
  go_simp
  try exact rfl
 refine rs_call quietRS_ok quiet_any (TBools (Cir.bits x d.ins)) (stb_bools _) 46 _ _ rfl (fun ρ w' ho hK => by
  have ho : Only _ W w' := ho
  obtain ⟨h0, h1, h2, -⟩ := hK
  have h0' : ρ (.func 46) = .func (.func 46) #[] #[] := h0
  have h1' : ρ (.tmp 13) = _ := h1
  have h2' : ρ (.tmp 15) = _ := h2
  refine ⟨#[ρ (.tmp 13), ρ (.tmp 15)], ?_, ?_⟩
  ·go_simp
  ·rw [h1', h2']
   refine (l4Bits_any x d.ins w' (by omega) (by omega)).mono ?_
   rintro e w2 ⟨v2, rfl, hO, hb⟩
   exact ⟨v2, rfl, Row.of_own hO, hb⟩) ?_
 refine rs_call quietRS_ok quiet_any (TStep (Cir.outsOf d s x) (Cir.lits (Cir.vals d (Cir.bits s d.next.length) (Cir.bits x d.ins)) d.next)) (stb_step _ _) 111 _ _ rfl (fun ρ w' ho hK => by
  have ho : Only _ W w' := ho
  obtain ⟨h0, h1, h2, h3, -⟩ := hK
  have h0' : ρ (.func 111) = .func (.func 111) #[] #[] := h0
  have h1' : ρ (.tmp 7) = _ := h1
  have h2' : (TBools (Cir.bits s d.next.length)) w' (ρ (.tmp 12)) := h2
  have h3' : (TBools (Cir.bits x d.ins)) w' (ρ (.tmp 16)) := h3
  refine ⟨#[ρ (.tmp 7), ρ (.tmp 12), ρ (.tmp 16)], ?_, ?_⟩
  ·go_simp
  ·rw [h1']
   refine (l2Step_any _ _ _ d _ _ w' (HC.out.below (only_below ho)) Hd.out h2' h3' (Cir.bits_length _ _) (Cir.bits_length _ _)).mono ?_
   rintro e w2 ⟨a, b, rfl, oa, ob, hb⟩
   exact ⟨_, rfl, ⟨a, b, rfl, Row.of_own oa, Row.of_own ob⟩, hb⟩) ?_
 refine rs_look quietRS_ok quiet_any (TBools (Cir.lits (Cir.vals d (Cir.bits s d.next.length) (Cir.bits x d.ins)) d.next)) (stb_bools _) (fun ρ w' ho hK => by
  obtain ⟨h0, -⟩ := hK
  obtain ⟨a, b, e0, ha, hb⟩ : (TStep (Cir.outsOf d s x) (Cir.lits (Cir.vals d (Cir.bits s d.next.length) (Cir.bits x d.ins)) d.next)) w' (ρ (.tmp 17)) := h0
  obtain ⟨Aa, ca, rfl, -⟩ := Row.shape ha
  obtain ⟨Ab, cb, rfl, -⟩ := Row.shape hb
  have hf := fun n m => step_field1 Aa Ab n m ca cb w'
  refine ⟨_, ?_, hb⟩
  go_simp) ?_
 refine rs_call quietRS_ok quiet_any (TEq (.int .i64 (Cir.nextOf d s x : Nat))) (stb_eq _ _) 76 _ _ rfl (fun ρ w' ho hK => by
  have ho : Only _ W w' := ho
  obtain ⟨h0, h1, -⟩ := hK
  have h0' : ρ (.func 76) = .func (.func 76) #[] #[] := h0
  have h1' : (TBools (Cir.lits (Cir.vals d (Cir.bits s d.next.length) (Cir.bits x d.ins)) d.next)) w' (ρ (.tmp 18)) := h1
  refine ⟨#[ρ (.tmp 18)], ?_, ?_⟩
  ·go_simp
  ·skip
   refine (l16Number_any _ _ w' h1' (by rw [lits_length]; omega)).mono ?_
   rintro e w2 ⟨rfl, rfl⟩
   exact ⟨_, rfl, by rw [HNx.out]; rfl, Below.refl _ _⟩) ?_
 refine rs_same quietRS_ok quiet_any 19 12 (.inr rfl) rfl _ rfl ?_
 intro f w9 k9 hk9 hI9 ht9 hcp9
 have E0 : f 0 = _ := ht9 0 (nlb rfl)
 have E1 : f 1 = _ := ht9 1 (nlb rfl)
 conv at E1 => rhs; whnf
 have E2 : f 2 = _ := ht9 2 (nlb rfl)
 have E3 : f 3 = _ := ht9 3 (nlb rfl)
 have E4 : f 4 = _ := ht9 4 (nlb rfl)
 have E5 : (TBools (Cir.bits s d.next.length)) w9 (f 5) := ht9 5 (nlb rfl)
 have E6 : f 6 = _ := ht9 6 (nlb rfl)
 conv at E6 => rhs; whnf
 have E7 : f 7 = _ := ht9 7 (nlb rfl)
 have E8 : f 8 = _ := ht9 8 (nlb rfl)
 have E9 : (TBools (Cir.bits x d.ins)) w9 (f 9) := ht9 9 (nlb rfl)
 have E10 : (TStep (Cir.outsOf d s x) (Cir.lits (Cir.vals d (Cir.bits s d.next.length) (Cir.bits x d.ins)) d.next)) w9 (f 10) := ht9 10 (nlb rfl)
 have E11 : (TBools (Cir.lits (Cir.vals d (Cir.bits s d.next.length) (Cir.bits x d.ins)) d.next)) w9 (f 11) := ht9 11 (nlb rfl)
 have E12 : f 12 = _ := ht9 12 (nlb rfl)
 have E13 : f 13 = _ := ht9 13 (nlb rfl)
 have Ho9 : Only _ W w9 := hI9.2.1
 simp only [putAll, E0, E1, E2, E3, E4, E6, E7, E8, E12, E13, Nat.zero_add, Nat.reduceAdd, Act.put, List.setIfInBounds_toArray, List.set_cons_succ, List.set_cons_zero]
 clear E0 E1 E2 E3 E4 E6 E7 E8 E12 E13
 clear hI9 ht9 hcp9 hk9
 generalize f 5 = r5 at *
 generalize f 9 = r9 at *
 generalize f 10 = r10 at *
 generalize f 11 = r11 at *
 have B := Lib.hid (B0.out.trans ((only_below Ho9).mono B0.out.size))
 clear Ho9 E5 E9 E10 E11 p0 p1 p2 p3
 go_wp2_with fail
 go_ret
 exact ⟨rfl, B.out⟩
theorem l16Has_any (v : Value) (xs : List Nat) (n : Nat) (w : World) (h : NatsAt w v xs) (hn : n ≤ 1000000) :
  Calls Try.prog 95 #[v, .int .i64 n] w fun e w' => e = .returned (.bool (Cir.memB xs n)) ∧ w = w' := by
 obtain ⟨A, c, rfl, hc, hcm⟩ := h.shape
 unfold maxLen at hcm
 have H := Lib.hid h
 have h0 : Hid (Cir.memB xs n = (xs.drop 0).contains n) := Lib.hid rfl
 generalize Cir.memB xs n = res at h0 ⊢
 clear h
 go_enter Try.func95, Try.ntmps95
 go_wp2_with fail
 go_loop [5] (fun i => ∃ k : Nat, k ≤ xs.length ∧ i = .int .i64 k ∧ Hid (res = (xs.drop k).contains n)) (fun i => xs.length - (intOf i).toNat)
 case atStart => exact ⟨0, Nat.zero_le _, rfl, h0⟩
 case round =>
  obtain ⟨k, hk, rfl, hres⟩ := hrel
  clear h0
  by_cases hlt : k < xs.length
  ·obtain ⟨b, o, x, rfl, hbl, hx, hs1⟩ := nats_cell (nats_row H.out) rfl hlt
   have Hstep : Hid ((xs.drop k).contains n = (n == x || (xs.drop (k + 1)).contains n)) := Lib.hid (by
    obtain ⟨hk', e⟩ := List.getElem?_eq_some_iff.1 hx.out
    rw [List.drop_eq_getElem_cons hk', e, List.contains_cons])
   by_cases hxn : x = n
   ·obtain rfl : res = true := by rw [hres.out, Hstep.out, hxn]; simp
    have hq : ((x : Int) == (n : Int)) = true := by simp [hxn]
    clear hxn
    go_wp2_with fail
    go_ret
    exact ⟨rfl, rfl⟩
   ·have Hn : Hid (res = (xs.drop (k + 1)).contains n) := Lib.hid (by rw [hres.out, Hstep.out, show (n == x) = false from by simpa using fun e => hxn e.symm]; rfl)
    have hq : ((x : Int) == (n : Int)) = false := by simp; omega
    clear hxn
    go_wp2_with fail
    go_round
    case rel => exact ⟨k + 1, by omega, by go_num, Hn⟩
    case measure => simp [intOf] <;> omega
  ·obtain rfl : res = false := by rw [hres.out, List.drop_eq_nil_of_le (by omega : xs.length ≤ k)]; rfl
   go_wp2_with fail
   go_ret
   exact ⟨rfl, rfl⟩
end Go.Proofs.Ytkkkjbinfdohpaa
namespace Go.Proofs.Ytkkkjbinfdohpaa
open Go.RowKit
namespace Cir
def evalOk (c : Cz) (st inp : List Int) : Bool := valid c && (decide (st.length = c.next.length) && (decide ((inp.length : Int) = c.ins) && (st.all tern && inp.all tern)))
def evalT (c : Cz) (st inp : List Int) : List Int := if evalOk c st inp = true then nats (tvals (nat c) (st.map Int.toNat) (inp.map Int.toNat)) else []
end Cir
end Go.Proofs.Ytkkkjbinfdohpaa
namespace Go.Proofs.Ytkkkjbinfdohpaa
open Go.RowKit
def Cir.reachI (c : Cz) : List Int := if Cir.valid c then nats (Cir.reach (Cir.nat c)) else []
theorem own_no_map {w : World} {B n size b m : Nat} {e : TypeId} {v : Value} {cs : List Value} {S : Nat → Bool} (h : w.ownsRow B e size v n cs) (hs : SetAt w b m S) : ¬ v.ownBlock = some b := by
 rintro hv
 obtain ⟨D, ⟨es, clock, h1, _⟩, _⟩ := hs
 rcases h.2 with ⟨rfl, _⟩ | ⟨g, cap, cur, rfl, _, h2, _⟩
 ·simp [Value.ownBlock] at hv
 ·simp [Value.ownBlock] at hv
  subst hv
  rw [h1] at h2
  cases h2
theorem implReach_ok (v : Value) (d : Ci) (w : World) (h : CircAt w v (Cir.toCz d)) (hd : Cir.Ok d) (hv : Cir.valid (Cir.toCz d) = true) :
  Calls Try.prog 31 #[v] w (OwnInts (nats (Cir.reach d)) w) := by
 have l1 := hd.ins
 have l2 := hd.nexts
 have HC := Lib.hid h
 obtain ⟨vn, vg, vo, rfl, r1, r2, r3⟩ := h
 have hins : (Cir.toCz d).ins = (d.ins : Int) := rfl
 have HP := Lib.hid (PCirc.boxed (c := Cir.toCz d) 26 r1 r2 r3)
 rw [hins] at HC HP ⊢
 have B0 := Lib.hid (bel_new w (.cells #[.int .i64 d.ins, vn, vg, vo] 26))
 have hsz : (w.alloc (.cells #[.int .i64 d.ins, vn, vg, vo] 26)).heap.size = w.heap.size + 1 := by simp
 obtain ⟨z, p0, p1, p2, p3⟩ := PCells.boxed w d.ins vn vg vo 26
 have HV := Lib.hid (implValid_any _ _ _ (HC.out.below B0.out))
 rw [hv] at HV
 have Hd := Lib.hid hd
 obtain ⟨M, e, hM⟩ : ∃ M : Nat, (2 : Int) ^ d.ins = (M : Int) ∧ M = 2 ^ d.ins := ⟨2 ^ d.ins, two_pow d.ins, rfl⟩
 have hM16 : M ≤ 16 := by rw [hM]; exact Nat.pow_le_pow_right (show 0 < 2 by decide) l1
 have hwM := IntWalk.i64_in (M : Int) (by omega)
 have HM := Lib.hid hM
 have hmm := @run_makeMap Try.prog
 clear r1 r2 r3 hd hins hM hv HC
 go_enter Try.func31, Try.ntmps31
 go_wp2_with fail
 generalize w.alloc (.cells #[.int .i64 d.ins, vn, vg, vo] 26) = W at *
 refine HV.out.mono ?_
 rintro e w1 ⟨rfl, hb1⟩
 have B1 := Lib.hid (B0.out.trans (hb1.mono B0.out.size))
 have HP1 := Lib.hid (HP.out.below hb1)
 have q0 := (hb1.cell (p := ⟨w.heap.size, 0, none⟩) z).trans p0
 have z1 := hb1.size
 clear hb1 p0 p1 p2 p3 HV HP
 have Hset0 : Hid (SetAt ((w1.alloc (.cells #[.int .i64 0] 3)).alloc (.map #[] 0)) (w1.heap.size + 1) 0 (fun _ => false)) := Lib.hid (by have := setAt_made (w1.alloc (.cells #[.int .i64 0] 3)); rwa [World.size_alloc] at this)
 have Hlit : Hid (((w1.alloc (.cells #[.int .i64 0] 3)).alloc (.map #[] 0)).ownsRow w1.heap.size 3 1 (.slice (some ⟨w1.heap.size, 0, none⟩) 1 1) 1 [.int .i64 0]) := Lib.hid ((World.ownsRow_lit (base := w1.heap.size) (e := 3) (size := 1) w1 #[.int .i64 0] 1 (Nat.le_refl _) (by unfold maxLen; omega) rfl).alloc _)
 have hs1 : (w1.alloc (.cells #[.int .i64 0] 3)).heap.size = w1.heap.size + 1 := by simp
 have Bm : Hid (Below w1.heap.size w1 ((w1.alloc (.cells #[.int .i64 0] 3)).alloc (.map #[] 0))) := Lib.hid (((Below.refl _ _).alloc (Nat.le_refl _) _).alloc (by simp) _)
 go_wp2_with (with_reducible refine wpList_add_set _ rfl (.tmp 13) _ _ (.inr rfl) _ _ _ rfl Hset0.out (by omega) 0 (by omega) rfl rfl ?_; intro w2 hset2 hg2)
 have Hset2 := Lib.hid (hset2.congr (S' := fun x => Cir.memB [0] x) (fun x => by rw [Cir.memB_zero, Bool.false_or]))
 have Ho2 := Lib.hid (own_kept Hlit.out hg2 (fun g hg e => own_no_map Hlit.out Hset0.out (hg.trans e.symm)))
 have B2 := Lib.hid (Bm.out.grown hg2 Bm.out.size (fun q hq => by have := Option.some.inj hq; omega))
 clear hset2 hg2 Hset0 Hlit Bm hmm
 have hR0 : Hid (Cir.reach d = Cir.bfs d (9 - 0) 0 [0]) := Lib.hid rfl
 generalize Cir.reach d = res at *
 go_wp2_with fail
 go_loopw [3, 5] (fun v i wr => ∃ (vv : Value) (k m : Nat) (l : List Nat), vv = v ∧ i = .int .i64 k ∧ k ≤ l.length ∧ l.length ≤ 8 ∧ m ≤ 300 ∧ Hid (Cir.Sts d l) ∧ Hid (res = Cir.bfs d (9 - k) k l) ∧ Hid (wr.ownsRow w1.heap.size 3 1 v l.length (nints l)) ∧ Hid (SetAt wr (w1.heap.size + 1) m (fun x => Cir.memB l x)) ∧ m ≤ 1 + k * 16 ∧ Below w1.heap.size w1 wr) (fun v i _ => 8 - (intOf i).toNat)
 case atStart => exact ⟨_, 0, 1, [0], rfl, rfl, by simp, by simp, by omega, Lib.hid (Cir.Sts.zero d), hR0, Ho2, Lib.hid (Hset2.out.mono (by omega)), by omega, B2.out⟩
 case round =>
  obtain ⟨vv, k, m, l, hvv, rfl, hk, hl8, hm3, Hst, hres, Ho, Hs, hm16, hb⟩ := hrel
  subst hvv
  clear Ho2 Hset2 B2 hR0
  obtain ⟨A, c, rfl, hc, hcm⟩ := NatsAt.shape (own_nats Ho.out)
  unfold maxLen at hcm
  have Hb := Lib.hid hb
  have hzb := hb.size
  have c0 := (hb.cell (p := ⟨w.heap.size, 0, none⟩) (show w.heap.size < w1.heap.size by omega)).trans q0
  clear hb
  by_cases hlt : k < l.length
  ·obtain ⟨s, hs⟩ := at_some hlt
   have hs8 : s < 8 := by
    have h1 := Hst.out.lt s (List.mem_of_getElem? hs)
    have h2 : 2 ^ d.next.length ≤ 2 ^ 3 := Nat.pow_le_pow_right (show 0 < 2 by decide) l2
    omega
   have Hstep := Lib.hid (Cir.bfs_step (c := d) (f := 9 - (k + 1)) hs)
   have hf : 9 - k = 9 - (k + 1) + 1 := by omega
   rw [hf] at hres
   have Hgs := Lib.hid hs
   have hdl : decide (k < l.length) = true := decide_eq_true hlt
   clear hs hf
   go_wp2_with fail
   obtain ⟨Wk, hWk⟩ : ∃ Wk, Wk = wr := ⟨_, rfl⟩
   subst hWk
   go_loopw [3, 24] (fun v i wr => ∃ (vv : Value) (j q : Nat), vv = v ∧ i = .int .i64 j ∧ j ≤ M ∧ q ≤ m + j ∧ Hid (wr.ownsRow w1.heap.size 3 1 v (Cir.pushes d s j l).length (nints (Cir.pushes d s j l))) ∧ Hid (SetAt wr (w1.heap.size + 1) q (fun x => Cir.memB (Cir.pushes d s j l) x)) ∧ Below w1.heap.size w1 wr) (fun v i _ => M - (intOf i).toNat)
   case atStart => exact ⟨_, 0, m, rfl, rfl, Nat.zero_le _, by omega, Ho, Hs, Hb.out⟩
   case round =>
    obtain ⟨vv, j, q, hvv, rfl, hj, hq, Ho, Hs, hb⟩ := hrel
    subst hvv
    clear c0
    have Hb := Lib.hid hb
    have hzb := hb.size
    have c0 := (hb.cell (p := ⟨w.heap.size, 0, none⟩) (show w.heap.size < w1.heap.size by omega)).trans q0
    have Hst2 := Lib.hid (Hst.out.pushes s j)
    have hL8 := Hst2.out.len Hd.out
    have Hgj := Lib.hid (Cir.pushes_get (c := d) (s := s) (j := j) Hgs.out)
    have Hsu := Lib.hid (Cir.pushes_succ d s j l)
    by_cases hlj : j < M
    ·obtain ⟨L2, hL2⟩ : ∃ L2, Cir.pushes d s (j + 1) l = L2 := ⟨_, rfl⟩
     rw [hL2] at Hsu
     have HL2 := Lib.hid hL2
     clear hL2
     generalize Cir.pushes d s j l = L at *
     obtain ⟨A, c, rfl, hc, hcm⟩ := NatsAt.shape (own_nats Ho.out)
     unfold maxLen at hcm
     have hkL : k < L.length := (List.getElem?_eq_some_iff.1 Hgj.out).1
     obtain ⟨b, o, s', rfl, hbl, hx0, hs0⟩ := nats_cell (nats_row (own_nats Ho.out)) rfl hkL
     obtain rfl : s' = s := Option.some.inj (hx0.out.symm.trans Hgj.out)
     clear hb
     go_wp2_with fail
     refine (cycle_any w.heap.size d s' j _ (HP1.out.below Hb.out) Hd.out (by omega) (by omega)).mono ?_
     rintro e w5 ⟨rfl, hb5⟩
     have Hb5 := Lib.hid (Hb.out.trans (hb5.mono hzb))
     have Ho5 := Lib.hid (own_below Ho.out hb5)
     have Hs5 := Lib.hid (Hs.out.below hb5)
     have hz5 := hb5.size
     have hN8 : Cir.nextOf d s' j < 8 := by
      have h1 := Cir.nextOf_lt d s' j
      have h2 : 2 ^ d.next.length ≤ 2 ^ 3 := Nat.pow_le_pow_right (show 0 < 2 by decide) l2
      omega
     clear hb5 Ho Hs c0 hs0
     generalize Cir.nextOf d s' j = N at *
     generalize Cir.num (Cir.outsOf d s' j) = On at *
     cases hc : Cir.memB L N
     ·have HP := Lib.hid (Cir.push_no hc)
      go_wp2_with (first
       | (at_lookup; refine wpList_look_set _ rfl (.tmp 36) (.tmp 37) rfl _ _ _ rfl Hs5.out N (by omega) rfl ?_)
       | (at_mapUpdate; refine wpList_add_set _ rfl (.tmp 40) (.tmp 41) _ (.inl rfl) _ _ _ rfl Hs5.out (by omega) N (by omega) rfl rfl ?_; intro w6 hset6 hg6; have Hset6 := Lib.hid (hset6.congr (S' := fun x => Cir.memB (L ++ [N]) x) (fun x => by rw [Cir.memB_snoc])); have Ho6 := Lib.hid (own_kept Ho5.out hg6 (fun g hg e => own_no_map Ho5.out Hs5.out (hg.trans e.symm))); have Hb6 := Lib.hid (Hb5.out.grown hg6 Hb5.out.size (fun q hq => by have := Option.some.inj hq; omega)); have hz6 := hg6.size; have Hlit := Lib.hid (Row.of_own (World.ownsRow_lit (base := w6.heap.size) (e := 3) (size := 1) w6 #[.int .i64 N] 1 (Nat.le_refl _) (by unfold maxLen; omega) rfl)); clear hset6 hg6)
       | (at_builtin; refine append_ints rfl (.tmp 42) (.tmp 44) rfl w1.heap.size _ L.length (nints L) rfl (Ho6.out.alloc _) _ 1 [.int .i64 N] rfl Hlit.out (by simp [Value.oneCell']) (by omega) (by simp; omega) ?_; intro v7 w7 hown7 hg7 hat7; have Ho7 := Lib.hid hown7; have Hset7 := Lib.hid ((Hset6.out.below (bel_new w6 (.cells #[.int .i64 N] 3))).only (Only.grown (E := fun g => some g = (Value.slice (some ⟨b, o, none⟩) L.length c).ownBlock) hg7 (fun k hk => hk.symm)) (fun hq => own_no_map Ho6.out Hset6.out hq.symm)); have Hg7 := Lib.hid hg7; clear hown7 hg7 hat7))
      go_roundw
      case rel => exact ⟨_, j + 1, q + 1, rfl, by go_num, by omega, by omega, Lib.hid (by rw [HL2.out, Hsu.out, HP.out, nints_snoc, List.length_append]; exact Ho7.out), Lib.hid (by rw [HL2.out, Hsu.out, HP.out]; exact Hset7.out), (Hb6.out.alloc Hb6.out.size _).grown Hg7.out (Hb6.out.alloc Hb6.out.size _).size (own_ge0 Ho6.out)⟩
      case measure => simp [intOf] <;> omega
     ·have HP := Lib.hid (Cir.push_yes hc)
      go_wp2_with (first
       | (at_lookup; refine wpList_look_set _ rfl (.tmp 36) (.tmp 37) rfl _ _ _ rfl Hs5.out N (by omega) rfl ?_))
      go_roundw
      case rel => exact ⟨_, j + 1, q, rfl, by go_num, by omega, by omega, Lib.hid (by rw [HL2.out, Hsu.out, HP.out]; exact Ho5.out), Lib.hid (by rw [HL2.out, Hsu.out, HP.out]; exact Hs5.out), Hb5.out⟩
      case measure => simp [intOf] <;> omega
    ·obtain rfl : j = M := by omega
     have HMr : Hid (res = Cir.bfs d (9 - (k + 1)) (k + 1) (Cir.pushes d s j l)) := Lib.hid (by rw [hres.out, Hstep.out, HM.out])
     have Hlk := Lib.hid (show k + 1 ≤ (Cir.pushes d s j l).length by have := (List.getElem?_eq_some_iff.1 Hgj.out).1; omega)
     clear hb
     generalize Cir.pushes d s j l = L at *
     go_wp2_with fail
     go_roundw
     case rel => exact ⟨_, k + 1, q, L, rfl, by go_num, Hlk.out, hL8, by omega, Hst2, HMr, Ho, Hs, by omega, Hb.out⟩
     case measure => simp [intOf] <;> omega
  ·obtain rfl : k = l.length := by omega
   have hr : res = l := by rw [hres.out, Cir.bfs_end]
   go_wp2_with fail
   go_ret
   exact ⟨_, rfl, by rw [hr, nats_length]; exact own_mono Ho.out (by omega), B1.out.trans (Hb.out.mono B1.out.size)⟩
end Go.Proofs.Ytkkkjbinfdohpaa
namespace Go.Proofs.Ytkkkjbinfdohpaa
open Go.RowKit
theorem specReach_ok (v : Value) (d : Ci) (w : World) (h : CircAt w v (Cir.toCz d)) (hd : Cir.Ok d) (hv : Cir.valid (Cir.toCz d) = true) :
  Calls Try.prog 74 #[v] w (OwnInts (nats (Cir.reach d)) w) := by
 have l1 := hd.ins
 have l2 := hd.nexts
 have HC := Lib.hid h
 obtain ⟨vn, vg, vo, rfl, r1, r2, r3⟩ := h
 have hins : (Cir.toCz d).ins = (d.ins : Int) := rfl
 rw [hins] at HC ⊢
 have B0 := Lib.hid (bel_new w (.cells #[.int .i64 d.ins, vn, vg, vo] 26))
 have hsz : (w.alloc (.cells #[.int .i64 d.ins, vn, vg, vo] 26)).heap.size = w.heap.size + 1 := by simp
 have PC := Lib.hid (PCells.boxed w d.ins vn vg vo 26)
 obtain ⟨z, p0, p1, p2, p3⟩ := PC.out
 have HC := Lib.hid (HC.out.below B0.out)
 have HV := Lib.hid (specValid_any _ _ _ HC.out)
 rw [hv] at HV
 have Hd := Lib.hid hd
 obtain ⟨M, e, hM⟩ : ∃ M : Nat, (2 : Int) ^ d.ins = (M : Int) ∧ M = 2 ^ d.ins := ⟨2 ^ d.ins, two_pow d.ins, rfl⟩
 have hM16 : M ≤ 16 := by rw [hM]; exact Nat.pow_le_pow_right (show 0 < 2 by decide) l1
 have hwM := IntWalk.i64_in (M : Int) (by omega)
 have HM := Lib.hid hM
 clear r1 r2 r3 hd hins hM hv
 go_enter Try.func74, Try.ntmps74
 go_wp2_with fail
 generalize w.alloc (.cells #[.int .i64 d.ins, vn, vg, vo] 26) = W at *
 refine HV.out.mono ?_
 rintro e w1 ⟨rfl, hb1⟩
 have B1 := Lib.hid (B0.out.trans (hb1.mono B0.out.size))
 have HC1 := Lib.hid (HC.out.below hb1)
 have PC1 := Lib.hid (PC.out.below hb1)
 have z1 := hb1.size
 clear hb1 p0 p1 p2 p3 z HV HC PC
 have Hlit : Hid ((w1.alloc (.cells #[.int .i64 0] 3)).ownsRow w1.heap.size 3 1 (.slice (some ⟨w1.heap.size, 0, none⟩) 1 1) 1 [.int .i64 0]) := Lib.hid (World.ownsRow_lit (base := w1.heap.size) (e := 3) (size := 1) w1 #[.int .i64 0] 1 (Nat.le_refl _) (by unfold maxLen; omega) rfl)
 have Bm : Hid (Below w1.heap.size w1 (w1.alloc (.cells #[.int .i64 0] 3))) := Lib.hid ((Below.refl _ _).alloc (Nat.le_refl _) _)
 have hR0 : Hid (Cir.reach d = Cir.bfs d (9 - 0) 0 [0]) := Lib.hid rfl
 generalize Cir.reach d = res at *
 go_wp2_with fail
 go_loopw [3, 4] (fun v i wr => ∃ (vv : Value) (k : Nat) (l : List Nat), vv = v ∧ i = .int .i64 k ∧ k ≤ l.length ∧ l.length ≤ 8 ∧ Hid (Cir.Sts d l) ∧ Hid (res = Cir.bfs d (9 - k) k l) ∧ Hid (wr.ownsRow w1.heap.size 3 1 v l.length (nints l)) ∧ Below w1.heap.size w1 wr) (fun v i _ => 8 - (intOf i).toNat)
 case atStart => exact ⟨_, 0, [0], rfl, rfl, by simp, by simp, Lib.hid (Cir.Sts.zero d), hR0, Hlit, Bm.out⟩
 case round =>
  obtain ⟨vv, k, l, hvv, rfl, hk, hl8, Hst, hres, Ho, hb⟩ := hrel
  subst hvv
  clear Hlit Bm hR0
  obtain ⟨A, c, rfl, hc, hcm⟩ := NatsAt.shape (own_nats Ho.out)
  unfold maxLen at hcm
  have Hb := Lib.hid hb
  have hzb := hb.size
  clear hb
  by_cases hlt : k < l.length
  ·obtain ⟨s, hs⟩ := at_some hlt
   have hs8 : s < 8 := by
    have h1 := Hst.out.lt s (List.mem_of_getElem? hs)
    have h2 : 2 ^ d.next.length ≤ 2 ^ 3 := Nat.pow_le_pow_right (show 0 < 2 by decide) l2
    omega
   have Hstep := Lib.hid (Cir.bfs_step (c := d) (f := 9 - (k + 1)) hs)
   have hf : 9 - k = 9 - (k + 1) + 1 := by omega
   rw [hf] at hres
   have Hgs := Lib.hid hs
   have hdl : decide (k < l.length) = true := decide_eq_true hlt
   clear hs hf
   go_wp2_with fail
   obtain ⟨Wk, hWk⟩ : ∃ Wk, Wk = wr := ⟨_, rfl⟩
   subst hWk
   go_loopw [3, 5] (fun v i wr => ∃ (vv : Value) (j : Nat), vv = v ∧ i = .int .i64 j ∧ j ≤ M ∧ Hid (wr.ownsRow w1.heap.size 3 1 v (Cir.pushes d s j l).length (nints (Cir.pushes d s j l))) ∧ Below w1.heap.size w1 wr) (fun v i _ => M - (intOf i).toNat)
   case atStart => exact ⟨_, 0, rfl, rfl, Nat.zero_le _, Ho, Hb.out⟩
   case round =>
    obtain ⟨vv, j, hvv, rfl, hj, Ho, hb⟩ := hrel
    subst hvv
    have Hb := Lib.hid hb
    have hzb := hb.size
    have PCr := Lib.hid (PC1.out.below hb)
    have Hst2 := Lib.hid (Hst.out.pushes s j)
    have hL8 := Hst2.out.len Hd.out
    have Hgj := Lib.hid (Cir.pushes_get (c := d) (s := s) (j := j) Hgs.out)
    have Hsu := Lib.hid (Cir.pushes_succ d s j l)
    by_cases hlj : j < M
    ·obtain ⟨L2, hL2⟩ : ∃ L2, Cir.pushes d s (j + 1) l = L2 := ⟨_, rfl⟩
     rw [hL2] at Hsu
     have HL2 := Lib.hid hL2
     clear hL2
     generalize Cir.pushes d s j l = L at *
     obtain ⟨A, c, rfl, hc, hcm⟩ := NatsAt.shape (own_nats Ho.out)
     unfold maxLen at hcm
     have hkL : k < L.length := (List.getElem?_eq_some_iff.1 Hgj.out).1
     obtain ⟨b, o, s', rfl, hbl, hx0, hs0⟩ := nats_cell (nats_row (own_nats Ho.out)) rfl hkL
     obtain rfl : s' = s := Option.some.inj (hx0.out.symm.trans Hgj.out)
     clear hb
     obtain ⟨z, p0, p1, p2, p3⟩ := PCr.out
     go_wp2_with fail
     obtain ⟨w4, hw4⟩ : ∃ w4, w4 = wr := ⟨_, rfl⟩
     subst hw4
     refine wp_region_rs (quietRS Try.prog _ w4 _) quietRS_ok (by kernel_rfl) (by kernel_rfl) (by kernel_rfl) (nlb rfl) trivial trivial ?_
     apply rs_eq quietRS_ok quiet_any
     ·intro ρ w' ho hK
      have ho : Only _ w4 w' := ho
      obtain ⟨h0, -⟩ := hK
      have h0' : ρ (.tmp 1) = _ := h0
      have hb := only_below ho
      have q0 := (hb.cell (p := ⟨w.heap.size, 0, none⟩) z).trans p0
      have q1 := (hb.cell (p := ⟨w.heap.size, 1, none⟩) z).trans p1
      have q2 := (hb.cell (p := ⟨w.heap.size, 2, none⟩) z).trans p2
      have q3 := (hb.cell (p := ⟨w.heap.size, 3, none⟩) z).trans p3
      have q4 := (hb.cell (p := ⟨b, o + k, none⟩) hbl).trans hs0
      go_simp
      try exact rfl
     refine rs_old quietRS_ok quiet_any _ (.inl rfl) _ rfl rfl ?_
     refine rs_old quietRS_ok quiet_any _ (.inl rfl) _ rfl rfl ?_
     apply rs_eq quietRS_ok quiet_any
     ·intro ρ w' ho hK
      have ho : Only _ w4 w' := ho
      obtain ⟨h0, h1, -⟩ := hK
      have h0' : ρ (.tmp 26) = _ := h0
      have h1' : ρ (.tmp 27) = _ := h1
      go_simp
      try exact rfl
     apply rs_eq quietRS_ok quiet_any
     ·intro ρ w' ho hK
      have ho : Only _ w4 w' := ho
      obtain ⟨h0, -⟩ := hK
      have h0' : ρ (.tmp 28) = _ := h0
      have hb := only_below ho
      have q0 := (hb.cell (p := ⟨w.heap.size, 0, none⟩) z).trans p0
      have q1 := (hb.cell (p := ⟨w.heap.size, 1, none⟩) z).trans p1
      have q2 := (hb.cell (p := ⟨w.heap.size, 2, none⟩) z).trans p2
      have q3 := (hb.cell (p := ⟨w.heap.size, 3, none⟩) z).trans p3
      have q4 := (hb.cell (p := ⟨b, o + k, none⟩) hbl).trans hs0
      go_simp
      try exact rfl
     refine rs_old quietRS_ok quiet_any _ (.inl rfl) _ rfl rfl ?_
     refine rs_call quietRS_ok quiet_any (TEq (.int .i64 (Cir.nextOf d s' j : Nat))) (stb_eq _ _) 75 _ _ rfl (fun ρ w' ho hK => by
      have ho : Only _ w4 w' := ho
      obtain ⟨h0, h1, h2, h3, -⟩ := hK
      have h0' : ρ (.func 75) = .func (.func 75) #[] #[] := h0
      have h1' : ρ (.tmp 25) = _ := h1
      have h2' : ρ (.tmp 29) = _ := h2
      have h3' : ρ (.tmp 30) = _ := h3
      refine ⟨#[ρ (.tmp 25), ρ (.tmp 29), ρ (.tmp 30)], ?_, ?_⟩
      ·go_simp
      ·rw [h1', h2', h3']
       refine (l16Next_any _ d s' j w' (HC1.out.below (Hb.out.trans ((only_below ho).mono hzb))) Hd.out (by omega) (by omega)).mono ?_
       rintro e w2 ⟨rfl, hb⟩
       exact ⟨_, rfl, rfl, hb⟩) ?_
     refine rs_same quietRS_ok quiet_any 31 6 (.inr rfl) rfl _ rfl ?_
     intro f w9 k9 hk9 hI9 ht9 hcp9
     have E0 : f 0 = _ := ht9 0 (nlb rfl)
     have E1 : f 1 = _ := ht9 1 (nlb rfl)
     conv at E1 => rhs; whnf
     have E2 : f 2 = _ := ht9 2 (nlb rfl)
     conv at E2 => rhs; whnf
     have E3 : f 3 = _ := ht9 3 (nlb rfl)
     have E4 : f 4 = _ := ht9 4 (nlb rfl)
     have E5 : f 5 = _ := ht9 5 (nlb rfl)
     conv at E5 => rhs; whnf
     have E6 : f 6 = _ := ht9 6 (nlb rfl)
     have E7 : f 7 = _ := ht9 7 (nlb rfl)
     have Ho9 : Only _ w4 w9 := hI9.2.1
     simp only [putAll, E0, E1, E2, E3, E4, E5, E6, E7, Nat.zero_add, Nat.reduceAdd, Act.put, List.setIfInBounds_toArray, List.set_cons_succ, List.set_cons_zero]
     clear E0 E1 E2 E3 E4 E5 E6 E7
     clear hI9 ht9 hcp9 hk9
     have hb5 := only_below Ho9
     have Hb5 := Lib.hid (Hb.out.trans (hb5.mono hzb))
     have Ho5 := Lib.hid (own_below Ho.out hb5)
     have hz5 := hb5.size
     have hN8 : Cir.nextOf d s' j < 8 := by
      have h1 := Cir.nextOf_lt d s' j
      have h2 : 2 ^ d.next.length ≤ 2 ^ 3 := Nat.pow_le_pow_right (show 0 < 2 by decide) l2
      omega
     clear hb5 Ho Ho9 p0 p1 p2 p3 hs0
     obtain ⟨w5, hw5⟩ : ∃ w5, w5 = w9 := ⟨_, rfl⟩
     subst hw5
     generalize Cir.nextOf d s' j = N at *
     go_wp2_with fail
     refine (l16Has_any _ L N _ (own_nats Ho5.out) (by omega)).mono ?_
     rintro e w' ⟨rfl, rfl⟩
     cases hc : Cir.memB L N
     ·have HP := Lib.hid (Cir.push_no hc)
      have Hlit := Lib.hid (Row.of_own (World.ownsRow_lit (base := w5.heap.size) (e := 3) (size := 1) w5 #[.int .i64 N] 1 (Nat.le_refl _) (by unfold maxLen; omega) rfl))
      clear hc
      go_wp2_with (at_builtin; refine append_ints rfl (.tmp 36) (.tmp 38) rfl w1.heap.size _ L.length (nints L) rfl (Ho5.out.alloc _) _ 1 [.int .i64 N] rfl Hlit.out (by simp [Value.oneCell']) (by omega) (by simp; omega) ?_; intro v7 w7 hown7 hg7 hat7; have Ho7 := Lib.hid hown7; have Hg7 := Lib.hid hg7; clear hown7 hg7 hat7)
      go_roundw
      case rel => exact ⟨_, j + 1, rfl, by go_num, by omega, Lib.hid (by rw [HL2.out, Hsu.out, HP.out, nints_snoc, List.length_append]; exact Ho7.out), (Hb5.out.alloc Hb5.out.size _).grown Hg7.out (Hb5.out.alloc Hb5.out.size _).size (own_ge0 Ho5.out)⟩
      case measure => simp [intOf] <;> omega
     ·have HP := Lib.hid (Cir.push_yes hc)
      clear hc
      go_wp2_with fail
      go_roundw
      case rel => exact ⟨_, j + 1, rfl, by go_num, by omega, Lib.hid (by rw [HL2.out, Hsu.out, HP.out]; exact Ho5.out), Hb5.out⟩
      case measure => simp [intOf] <;> omega
    ·obtain rfl : j = M := by omega
     have HMr : Hid (res = Cir.bfs d (9 - (k + 1)) (k + 1) (Cir.pushes d s j l)) := Lib.hid (by rw [hres.out, Hstep.out, HM.out])
     have Hlk := Lib.hid (show k + 1 ≤ (Cir.pushes d s j l).length by have := (List.getElem?_eq_some_iff.1 Hgj.out).1; omega)
     obtain ⟨z, p0, p1, p2, p3⟩ := PCr.out
     clear hb p1 p2 p3
     generalize Cir.pushes d s j l = L at *
     go_wp2_with fail
     go_roundw
     case rel => exact ⟨_, k + 1, L, rfl, by go_num, Hlk.out, hL8, Hst2, HMr, Ho, Hb.out⟩
     case measure => simp [intOf] <;> omega
  ·obtain rfl : k = l.length := by omega
   have hr : res = l := by rw [hres.out, Cir.bfs_end]
   go_wp2_with fail
   go_ret
   exact ⟨_, rfl, by rw [hr, nats_length]; exact own_mono Ho.out (by omega), B1.out.trans (Hb.out.mono B1.out.size)⟩
theorem implReach_any (v : Value) (c : Cz) (w : World) (h : CircAt w v c) :
  Calls Try.prog 31 #[v] w (OwnInts (Cir.reachI c) w) := by
 cases hv : Cir.valid c
 ·have HC := Lib.hid h
  obtain ⟨vn, vg, vo, rfl, -⟩ := h
  have B0 := Lib.hid (bel_new w (.cells #[.int .i64 c.ins, vn, vg, vo] 26))
  obtain ⟨z, p0, p1, p2, p3⟩ := PCells.boxed w c.ins vn vg vo 26
  have HV := Lib.hid (implValid_any _ _ _ (HC.out.below B0.out))
  rw [hv] at HV
  have HR : Hid (Cir.reachI c = []) := Lib.hid (by unfold Cir.reachI; rw [hv]; rfl)
  clear hv HC
  go_enter Try.func31, Try.ntmps31
  go_wp2_with fail
  refine HV.out.mono ?_
  rintro e w1 ⟨rfl, hb1⟩
  have B := Lib.hid (B0.out.trans (hb1.mono B0.out.size))
  clear hb1
  go_wp2_with fail
  go_ret
  rw [HR.out]
  exact own_nil _ _ B.out
 ·obtain ⟨d1, d2⟩ := Cir.nat_ok hv
  have hr : Cir.reachI c = nats (Cir.reach (Cir.nat c)) := by unfold Cir.reachI; rw [hv]; rfl
  rw [hr]
  exact implReach_ok v (Cir.nat c) w (by rw [← d1]; exact h) d2 (by rw [← d1]; exact hv)
end Go.Proofs.Ytkkkjbinfdohpaa
namespace Go.Proofs.Ytkkkjbinfdohpaa
open Go.RowKit
def idxFrom : Nat → List Nat → Nat → Int
  | _, [], _ => -1
  | k, x :: l, n => if x = n then (k : Int) else idxFrom (k + 1) l n
def idxOf (l : List Nat) (n : Nat) : Int := idxFrom 0 l n
theorem idxFrom_drop {l : List Nat} {k x : Nat} (h : l[k]? = some x) (n : Nat) : idxFrom k (l.drop k) n = if x = n then (k : Int) else idxFrom (k + 1) (l.drop (k + 1)) n := by
 obtain ⟨hk, rfl⟩ := List.getElem?_eq_some_iff.1 h
 rw [List.drop_eq_getElem_cons hk, idxFrom]
theorem idxFrom_cases : ∀ (l : List Nat) (k n : Nat), (idxFrom k l n = -1 ∧ n ∉ l) ∨ ∃ i, idxFrom k l n = ((k + i : Nat) : Int) ∧ l[i]? = some n ∧ ∀ j, j < i → l[j]? ≠ some n
 | [], k, n => .inl ⟨rfl, by simp⟩
 | x :: l, k, n => by
  rw [idxFrom]
  by_cases h : x = n
  ·subst h
   exact .inr ⟨0, by simp, by simp, fun j hj => by omega⟩
  ·rw [if_neg h]
   rcases idxFrom_cases l (k + 1) n with ⟨h1, h2⟩ | ⟨i, h1, h2, h3⟩
   ·exact .inl ⟨h1, by simp [Ne.symm h, h2]⟩
   ·refine .inr ⟨i + 1, by rw [h1]; congr 1; omega, by simpa using h2, fun j hj => ?_⟩
    cases j with
    | zero => simpa using h
    | succ j => simpa using h3 j (by omega)
theorem idxOf_mem {l : List Nat} {n : Nat} (h : n ∈ l) : ∃ i : Nat, idxOf l n = i ∧ l[i]? = some n ∧ ∀ j, j < i → l[j]? ≠ some n := by
 rcases idxFrom_cases l 0 n with ⟨_, h2⟩ | ⟨i, h1, h2, h3⟩
 ·exact absurd h h2
 ·exact ⟨i, by unfold idxOf; rw [h1, Nat.zero_add], h2, h3⟩
theorem idxOf_not {l : List Nat} {n : Nat} (h : n ∉ l) : idxOf l n = -1 := by
 rcases idxFrom_cases l 0 n with ⟨h1, _⟩ | ⟨i, _, h2, _⟩
 ·exact h1
 ·exact absurd (List.mem_of_getElem? h2) h
theorem idxOf_lo (l : List Nat) (n : Nat) : -1 ≤ idxOf l n ∧ idxOf l n < l.length := by
 by_cases h : n ∈ l
 ·obtain ⟨i, h1, h2, _⟩ := idxOf_mem h
  have := (List.getElem?_eq_some_iff.1 h2).1
  omega
 ·rw [idxOf_not h]; omega
theorem index_any (v : Value) (xs : List Nat) (n : Nat) (w : World) (h : NatsAt w v xs) (hn : n ≤ 1000000) :
  Calls Try.prog 67 #[v, .int .i64 n] w fun e w' => e = .returned (.int .i64 (idxOf xs n)) ∧ w = w' := by
 obtain ⟨A, c, rfl, hc, hcm⟩ := h.shape
 unfold maxLen at hcm
 have H := Lib.hid h
 have h0 : Hid (idxOf xs n = idxFrom 0 (xs.drop 0) n) := Lib.hid rfl
 generalize idxOf xs n = res at h0 ⊢
 clear h
 go_enter Try.func67, Try.ntmps67
 go_wp2_with fail
 go_loop [8] (fun i => ∃ k : Nat, k ≤ xs.length ∧ i = .int .i64 k ∧ Hid (res = idxFrom k (xs.drop k) n)) (fun i => xs.length - (intOf i).toNat)
 case atStart => exact ⟨0, Nat.zero_le _, rfl, h0⟩
 case round =>
  obtain ⟨k, hk, rfl, hres⟩ := hrel
  clear h0
  by_cases hlt : k < xs.length
  ·obtain ⟨b, o, x, rfl, hbl, hx, hs1⟩ := nats_cell (nats_row H.out) rfl hlt
   have Hstep := Lib.hid (idxFrom_drop hx.out n)
   by_cases hxn : x = n
   ·have hr : res = (k : Int) := by rw [hres.out, Hstep.out, if_pos hxn]
    have hq : ((n : Int) == (x : Int)) = true := by simp [hxn]
    subst hr
    clear hxn
    go_wp2_with fail
    go_ret
    exact ⟨rfl, rfl⟩
   ·have Hn : Hid (res = idxFrom (k + 1) (xs.drop (k + 1)) n) := Lib.hid (by rw [hres.out, Hstep.out, if_neg hxn])
    have hq : ((n : Int) == (x : Int)) = false := by simp; omega
    clear hxn
    go_wp2_with fail
    go_round
    case rel => exact ⟨k + 1, by omega, by go_num, Hn⟩
    case measure => simp [intOf] <;> omega
  ·have hr : res = -1 := by rw [hres.out, List.drop_eq_nil_of_le (by omega : xs.length ≤ k)]; rfl
   subst hr
   go_wp2_with fail
   go_ret
   exact ⟨rfl, rfl⟩
theorem l29At_any (v : Value) (xs : List Nat) (n : Nat) (w : World) (h : NatsAt w v xs) (hn : n ≤ 1000000) :
  Calls Try.prog 73 #[v, .int .i64 n] w fun e w' => e = .returned (.int .i64 (idxOf xs n)) ∧ w = w' := by
 obtain ⟨A, c, rfl, hc, hcm⟩ := h.shape
 unfold maxLen at hcm
 have H := Lib.hid h
 have h0 : Hid (idxOf xs n = idxFrom 0 (xs.drop 0) n) := Lib.hid rfl
 generalize idxOf xs n = res at h0 ⊢
 clear h
 go_enter Try.func73, Try.ntmps73
 go_wp2_with fail
 go_loop [5] (fun i => ∃ k : Nat, k ≤ xs.length ∧ i = .int .i64 k ∧ Hid (res = idxFrom k (xs.drop k) n)) (fun i => xs.length - (intOf i).toNat)
 case atStart => exact ⟨0, Nat.zero_le _, rfl, h0⟩
 case round =>
  obtain ⟨k, hk, rfl, hres⟩ := hrel
  clear h0
  by_cases hlt : k < xs.length
  ·obtain ⟨b, o, x, rfl, hbl, hx, hs1⟩ := nats_cell (nats_row H.out) rfl hlt
   have Hstep := Lib.hid (idxFrom_drop hx.out n)
   by_cases hxn : x = n
   ·have hr : res = (k : Int) := by rw [hres.out, Hstep.out, if_pos hxn]
    have hq : ((x : Int) == (n : Int)) = true := by simp [hxn]
    subst hr
    clear hxn
    go_wp2_with fail
    go_ret
    exact ⟨rfl, rfl⟩
   ·have Hn : Hid (res = idxFrom (k + 1) (xs.drop (k + 1)) n) := Lib.hid (by rw [hres.out, Hstep.out, if_neg hxn])
    have hq : ((x : Int) == (n : Int)) = false := by simp; omega
    clear hxn
    go_wp2_with fail
    go_round
    case rel => exact ⟨k + 1, by omega, by go_num, Hn⟩
    case measure => simp [intOf] <;> omega
  ·have hr : res = -1 := by rw [hres.out, List.drop_eq_nil_of_le (by omega : xs.length ≤ k)]; rfl
   subst hr
   go_wp2_with fail
   go_ret
   exact ⟨rfl, rfl⟩
end Go.Proofs.Ytkkkjbinfdohpaa
namespace Go.Proofs.Ytkkkjbinfdohpaa
open Go.RowKit
namespace Cir
def rowN (d : Ci) (s : Nat) : List Nat := (List.range (2 ^ d.ins)).map (nextOf d s)
def rowO (d : Ci) (s : Nat) : List Nat := (List.range (2 ^ d.ins)).map fun x => num (outsOf d s x)
def rowI (d : Ci) (s : Nat) : List Int := (rowN d s).map (idxOf (reach d))
def machN (d : Ci) : Mz := { ins := d.ins, next := (reach d).map (rowI d), out := (reach d).map fun s => nats (rowO d s) }
def machI (c : Cz) : Mz := if valid c then machN (nat c) else { ins := 0, next := [], out := [] }
end Cir
def OwnTwo (xs ys : List Int) (w : World) (e : Ending) (w' : World) : Prop := ∃ a b, e = .returned (.tuple #[a, b]) ∧ w'.ownsRow w.heap.size 3 1 a xs.length (ints xs) ∧ w'.ownsRow w.heap.size 3 1 b ys.length (ints ys) ∧ Apart a b ∧ Below w.heap.size w w'
theorem stateRows_any (g : Nat) (d : Ci) (s : Nat) (w : World) (h : PCirc w g (Cir.toCz d)) (hd : Cir.Ok d) (hs : s ≤ 1000) :
  Calls Try.prog 69 #[.pointer (some ⟨g, 0, none⟩), .int .i64 s] w (OwnTwo (nats (Cir.rowN d s)) (nats (Cir.rowO d s)) w) := by
 have l1 := hd.ins
 have HP := Lib.hid h
 obtain ⟨vn, vg, vo, hg, c0, c1, c2, c3, r1, r2, r3⟩ := h
 have C0 : Hid (w.cell? ⟨g, 0, none⟩ = some (.int .i64 d.ins)) := Lib.hid c0
 have Hd := Lib.hid hd
 obtain ⟨M, e, hM⟩ : ∃ M : Nat, (2 : Int) ^ d.ins = (M : Int) ∧ M = 2 ^ d.ins := ⟨2 ^ d.ins, two_pow d.ins, rfl⟩
 have hM16 : M ≤ 16 := by rw [hM]; exact Nat.pow_le_pow_right (show 0 < 2 by decide) l1
 have hwM := IntWalk.i64_in (M : Int) (by omega)
 have HM := Lib.hid hM
 have q0 := C0.out
 clear r1 r2 r3 hd hM c0 c1 c2 c3
 go_enter Try.func69, Try.ntmps69
 go_wp2_with fail
 clear q0
 go_loopw [6, 7, 16] (fun v u i wr => ∃ (vv uu : Value) (k : Nat), vv = v ∧ uu = u ∧ k ≤ M ∧ i = .int .i64 k ∧ Hid (wr.ownsRow w.heap.size 3 1 v k (nints ((List.range k).map (Cir.nextOf d s)))) ∧ Hid (wr.ownsRow w.heap.size 3 1 u k (nints ((List.range k).map fun x => Cir.num (Cir.outsOf d s x)))) ∧ Hid (Apart v u) ∧ Below w.heap.size w wr) (fun _ _ i _ => M - (intOf i).toNat)
 case atStart => exact ⟨_, _, 0, rfl, rfl, Nat.zero_le _, rfl, Lib.hid (World.ownsRow_nil _ _ _ _), Lib.hid (World.ownsRow_nil _ _ _ _), Lib.hid (fun g h => by simp [Value.ownBlock] at h), Below.refl _ _⟩
 case round =>
  obtain ⟨vv, uu, k, hvv, huu, hk, rfl, Ho, Hu, Ha, hb⟩ := hrel
  subst hvv huu
  have Hb := Lib.hid hb
  have hzb := hb.size
  clear hb
  by_cases hlt : k < M
  ·have HS1 : Hid (nints ((List.range (k + 1)).map (Cir.nextOf d s)) = nints ((List.range k).map (Cir.nextOf d s)) ++ [.int .i64 (Cir.nextOf d s k : Nat)]) := Lib.hid (by rw [List.range_succ, List.map_append, List.map_cons, List.map_nil, nints_snoc])
   have HS2 : Hid (nints ((List.range (k + 1)).map fun x => Cir.num (Cir.outsOf d s x)) = nints ((List.range k).map fun x => Cir.num (Cir.outsOf d s x)) ++ [.int .i64 (Cir.num (Cir.outsOf d s k) : Nat)]) := Lib.hid (by rw [List.range_succ, List.map_append, List.map_cons, List.map_nil, nints_snoc])
   go_wp2_with fail
   refine (cycle_any g d s k _ (HP.out.below Hb.out) Hd.out hs (by omega)).mono ?_
   rintro e w5 ⟨rfl, hb5⟩
   have Hb5 := Lib.hid (Hb.out.trans (hb5.mono hzb))
   have Ho5 := Lib.hid (own_below Ho.out hb5)
   have Hu5 := Lib.hid (own_below Hu.out hb5)
   have hz5 := Nat.le_trans hzb hb5.size
   clear hb5 Ho Hu
   generalize Cir.nextOf d s k = N at *
   generalize Cir.num (Cir.outsOf d s k) = O at *
   have Hlit := Lib.hid (Row.of_own (World.ownsRow_lit (base := w5.heap.size) (e := 3) (size := 1) w5 #[.int .i64 N] 1 (Nat.le_refl _) (by unfold maxLen; omega) rfl))
   go_wp2_with (first
    | (at_builtin; refine append_ints rfl (.tmp 26) (.tmp 28) rfl w.heap.size _ k _ rfl (Ho5.out.alloc _) _ 1 [.int .i64 N] rfl Hlit.out (by simp [Value.oneCell']) (by omega) (by simp; omega) ?_; intro v7 w7 hown7 hg7 hat7; have Ho7 := Lib.hid hown7; have Hat7 := Lib.hid hat7; have Hu7 := Lib.hid (own_kept (Hu5.out.alloc (.cells #[.int .i64 N] 3)) hg7 (fun g h1 h2 => Ha.out g h2 h1)); have Ha7 := Lib.hid (apart_new Ha.out hat7 (fun g hg => by have := ((Hu5.out.alloc (.cells #[.int .i64 N] 3)).lt g hg).2; exact this)); have Hb7 := Lib.hid ((Hb5.out.alloc hz5 _).grown hg7 (Hb5.out.alloc hz5 _).size (own_ge0 Ho5.out)); have Hlit2 := Lib.hid (Row.of_own (World.ownsRow_lit (base := w7.heap.size) (e := 3) (size := 1) w7 #[.int .i64 O] 1 (Nat.le_refl _) (by unfold maxLen; omega) rfl)); have hz7 := (Hb7.out).size; clear hown7 hg7 hat7)
    | (at_builtin; refine append_ints rfl (.tmp 30) (.tmp 32) rfl w.heap.size _ k _ rfl (Hu7.out.alloc _) _ 1 [.int .i64 O] rfl Hlit2.out (by simp [Value.oneCell']) (by omega) (by simp; omega) ?_; intro v8 w8 hown8 hg8 hat8; have Ho8 := Lib.hid (own_kept (Ho7.out.alloc (.cells #[.int .i64 O] 3)) hg8 (fun g h1 h2 => Ha7.out g h1 h2)); have Hu8 := Lib.hid hown8; have Ha8 := Lib.hid ((apart_new (Apart.symm Ha7.out) hat8 (fun g hg => by have := ((Ho7.out.alloc (.cells #[.int .i64 O] 3)).lt g hg).2; exact this)).symm); have Hb8 := Lib.hid ((Hb7.out.alloc hz7 _).grown hg8 (Hb7.out.alloc hz7 _).size (own_ge0 Hu7.out)); clear hown8 hg8 hat8))
   go_roundw
   case rel => exact ⟨_, _, k + 1, rfl, rfl, by omega, by go_num, Lib.hid (by rw [HS1.out]; exact Ho8.out), Lib.hid (by rw [HS2.out]; exact Hu8.out), Ha8, Hb8.out⟩
   case measure => simp [intOf] <;> omega
  ·obtain rfl : k = M := by omega
   have hl1 : (nats (Cir.rowN d s)).length = k := by rw [nats_length, Cir.rowN, List.length_map, List.length_range, HM.out]
   have hl2 : (nats (Cir.rowO d s)).length = k := by rw [nats_length, Cir.rowO, List.length_map, List.length_range, HM.out]
   have HF1 : Hid (wr.ownsRow w.heap.size 3 1 vv (nats (Cir.rowN d s)).length (ints (nats (Cir.rowN d s)))) := Lib.hid (by rw [hl1]; have := Ho.out; rw [HM.out] at this ⊢; exact this)
   have HF2 : Hid (wr.ownsRow w.heap.size 3 1 uu (nats (Cir.rowO d s)).length (ints (nats (Cir.rowO d s)))) := Lib.hid (by rw [hl2]; have := Hu.out; rw [HM.out] at this ⊢; exact this)
   clear hl1 hl2
   go_wp2_with fail
   exact bodyPost_ret (v := .tuple #[vv, uu]) (by simp [results, Try.results69, go_sem]) rfl ⟨_, _, rfl, HF1.out, HF2.out, Ha.out, Hb.out⟩
end Go.Proofs.Ytkkkjbinfdohpaa