import Derived.Test.YtlpellciiiflkaaPrimeD
namespace Go.Proofs.Ytlpellciiiflkaa
open Go.RowKit
namespace Two
theorem istep_length (t n : Nat) (out : List (Nat × Nat)) (k : Nat × Nat) : (istep t n out k).length ≤ out.length + 1 := by
  unfold istep
  split <;> simp
end Two
def ImplOut (T N : Nat) (w : World) (e : Ending) (w' : World) : Prop :=
  ∃ v, e = .returned v ∧ w'.ownsRow w.heap.size 25 2 v (Two.implicants T N).length (cubes ((Two.implicants T N).map intK)) ∧ Below w.heap.size w w'
theorem l30Implicants_any (T N : Nat) (w : World) (hN : N ≤ 4) (hT : T < 65536) : Calls Try.prog 46 #[.int .i64 T, .int .i64 N] w (ImplOut T N w) := by
  have hp : Two.implicants T N = Two.tabF (Two.istep T N) (2 ^ N) (2 ^ N) := (Two.implicants_eq T N).symm
  have Hp := Lib.hid hp
  clear hp
  obtain ⟨M, hM, e, hp, hp0⟩ := pow4 hN
  rw [hM.out] at Hp
  have Hown0 := Lib.hid (World.ownsRow_lit (base := w.heap.size) (e := 25) (size := 2) w #[] 0 (Nat.le_refl _) (by unfold maxLen; omega) rfl)
  go_enter Try.func46, Try.ntmps46
  go_wp2_with fail
  go_loopw [5, 6] (fun v i wr => ∃ c : Nat, c ≤ M ∧ i = .int .i64 c ∧ wr.ownsRow w.heap.size 25 2 v (Two.tabF (Two.istep T N) M c).length (cubes ((Two.tabF (Two.istep T N) M c).map intK)) ∧ Below w.heap.size w wr) (fun _ i _ => M - (intOf i).toNat)
  case atStart => exact ⟨0, by omega, rfl, Hown0.out, (Below.refl _ _).alloc (Nat.le_refl _) _⟩
  case round =>
    obtain ⟨c, hc, rfl, hown, hb⟩ := hrel
    have Hb := Lib.hid hb
    have Hown := Lib.hid hown
    clear hb hown Hown0
    by_cases hlt : c < M
    · have hz := Hb.out.size
      have hO : (Two.tabF (Two.istep T N) M c).length ≤ 240 := by
        have h1 := Two.tabF_length (Two.istep_length T N) M c
        have h2 : c * M ≤ 15 * 16 := Nat.mul_le_mul (by omega) hp
        omega
      have HO1 : Hid (∀ k, Two.tabF (Two.istep T N) M (k + 1) = Two.rowF (Two.istep T N) (Two.tabF (Two.istep T N) M k) k M) := Lib.hid fun _ => rfl
      have HO2 := Lib.hid (HO1.out c)
      generalize Two.tabF (Two.istep T N) M c = O at *
      obtain ⟨W1, rfl⟩ : ∃ W1 : World, W1 = wr := ⟨_, rfl⟩
      go_wp2_with fail
      go_loopw [5, 7] (fun v i wq => ∃ x : Nat, x ≤ M ∧ i = .int .i64 x ∧ wq.ownsRow w.heap.size 25 2 v (Two.rowF (Two.istep T N) O c x).length (cubes ((Two.rowF (Two.istep T N) O c x).map intK)) ∧ Below w.heap.size w wq) (fun _ i _ => M - (intOf i).toNat)
      case atStart => exact ⟨0, by omega, rfl, Hown.out, Hb.out⟩
      case round =>
        obtain ⟨x, hx, rfl, hown, hb⟩ := hrel
        clear Hb Hown
        have Hb := Lib.hid hb
        have Hown := Lib.hid hown
        clear hb hown
        by_cases hlt2 : x < M
        · have hzr := Hb.out.size
          have hL := Two.rowF_length (Two.istep_length T N) O c x
          have HR : Hid (Two.rowF (Two.istep T N) O c (x + 1) = Two.istep T N (Two.rowF (Two.istep T N) O c x) (c, x)) := Lib.hid rfl
          obtain ⟨R2, hR2⟩ : ∃ R2, Two.rowF (Two.istep T N) O c (x + 1) = R2 := ⟨_, rfl⟩
          rw [hR2] at HR
          have HR1 := Lib.hid hR2
          clear hR2
          generalize Two.rowF (Two.istep T N) O c x = R at *
          have c8 : (wr.alloc (.cells #[.int .i64 c, .int .i64 x] 25)).cell? ⟨wr.heap.size, 0, none⟩ = some (.int .i64 c) := World.cell?_alloc_new _ _ _ 0
          have c9 : (wr.alloc (.cells #[.int .i64 c, .int .i64 x] 25)).cell? ⟨wr.heap.size, 1, none⟩ = some (.int .i64 x) := World.cell?_alloc_new _ _ _ 1
          have HownB := Lib.hid (Hown.out.alloc (.cells #[.int .i64 c, .int .i64 x] 25))
          have HbB := Lib.hid (Hb.out.alloc hzr (.cells #[.int .i64 c, .int .i64 x] 25))
          have HzB := Lib.hid (show wr.heap.size + 1 = (wr.alloc (.cells #[.int .i64 c, .int .i64 x] 25)).heap.size by simp)
          clear Hown Hb
          go_upto_region 9 with fail
          generalize wr.alloc (.cells #[.int .i64 c, .int .i64 x] 25) = W2 at *
          generalize wr.heap.size = g8 at *
          have z2 : g8 + 1 ≤ W2.heap.size := by have := HzB.out; omega
          have ea := and_eq_nat x c x (by omega) (by omega)
          have HcD : Hid (Two.cand T N (c, x) = ((x &&& c == x) && Two.within (c, x) T N)) := Lib.hid rfl
          cases hfine : (x &&& c == x)
          · rw [hfine] at ea
            have H : Hid (R2 = R) := Lib.hid (by rw [HR.out, Two.istep, HcD.out, hfine]; rfl)
            clear hfine
            go_wp2_with fail
            go_roundw
            case rel => exact ⟨x + 1, by omega, by go_num, by rw [HR1.out, H.out]; exact HownB.out, HbB.out⟩
            case measure => simp [intOf]; omega
          · rw [hfine] at ea
            have Hfine := Lib.hid hfine
            have zw := HbB.out.size
            clear hfine
            go_wp2_with fail
            refine (l30In_any c x T N _ hN (by omega) hT).mono ?_
            rintro e w3 ⟨rfl, hb3⟩
            have Ho3 := Lib.hid (own_below HownB.out hb3)
            have Hb3 := Lib.hid (HbB.out.trans (hb3.mono zw))
            have d8 := (hb3.cell (p := ⟨g8, 0, none⟩) (by simp only; omega)).trans c8
            have d9 := (hb3.cell (p := ⟨g8, 1, none⟩) (by simp only; omega)).trans c9
            have z3 := hb3.size
            clear hb3 HownB HbB c8 c9
            cases hwi : Two.within (c, x) T N
            · have H : Hid (R2 = R) := Lib.hid (by rw [HR.out, Two.istep, HcD.out, Hfine.out, hwi]; rfl)
              clear hwi
              go_wp2_with fail
              go_roundw
              case rel => exact ⟨x + 1, by omega, by go_num, by rw [HR1.out, H.out]; exact Ho3.out, Hb3.out⟩
              case measure => simp [intOf]; omega
            · have H : Hid (R2 = R ++ [(c, x)]) := Lib.hid (by rw [HR.out, Two.istep, HcD.out, Hfine.out, hwi]; rfl)
              have Hlit := Lib.hid (Row.of_own (World.ownsRow_lit (base := w3.heap.size) (e := 25) (size := 2) w3 #[.int .i64 c, .int .i64 x] 1 (Nat.le_refl _) (by unfold maxLen; omega) rfl))
              clear hwi
              go_wp2_with (at_builtin; refine append_cubes rfl (.tmp 36) (.tmp 38) rfl w.heap.size _ R.length _ rfl (Ho3.out.alloc _) _ 1 [.int .i64 c, .int .i64 x] rfl Hlit.out (by simp [Value.oneCell']) (by omega) (by simp; omega) ?_; intro v5 w5 hown5 hg5; have Ho5 := Lib.hid hown5; have Hg5 := Lib.hid hg5; clear hown5 hg5)
              go_roundw
              case rel =>
                have hb5 := (Hb3.out.alloc (by omega) (.cells #[.int .i64 c, .int .i64 x] 25)).grown Hg5.out (by simp; omega) (own_ge Ho3.out)
                refine ⟨x + 1, by omega, by go_num, ?_, hb5⟩
                rw [HR1.out, H.out, List.map_append, cubes_append, List.length_append]
                exact Ho5.out
              case measure => simp [intOf]; omega
        · obtain rfl : x = M := by omega
          rw [← HO2.out] at Hown
          go_wp2
          go_roundw
          case rel => exact ⟨c + 1, by omega, by go_num, Hown.out, Hb.out⟩
          case measure => simp [intOf]; omega
    · obtain rfl : c = M := by omega
      rw [← Hp.out] at Hown
      go_wp2
      go_ret
      exact ⟨_, rfl, Hown.out, Hb.out⟩
end Go.Proofs.Ytlpellciiiflkaa
