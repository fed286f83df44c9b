import Derived.Test.YtlpellciiiflkaaPrimeB
import Derived.Test.YtlpellciiiflkaaCubeS
import Derived.Deep.RegionWith
import Derived.Deep.DeepCutAuto
namespace Go.Proofs.Ytlpellciiiflkaa
open Go.RowKit
theorem append_cubes {w : World} {ops : Array Oper} {rest : List Oper} {o : Oper} {a : Act} {Q : Exit → Act → World → Prop} (hgd : o.guard = none) (s x : Operand)
    (ho : o.op = .call { callee := .builtin .append, args := #[s, x], argTypes := #[35, 35] })
    (base : Nat) (v : Value) (n : Nat) (xs : List Value) (hs : a.eval s = v) (hown : w.ownsRow base 25 2 v n xs) (sv : Value) (m : Nat) (news : List Value) (hx : a.eval x = sv) (hr : Row w 2 sv m news) (h1 : ∀ u ∈ news, u.oneCell' = true)
    (h63 : n + m ≤ 1000000) (hbase : base ≤ w.heap.size)
    (h : ∀ v' w', w'.ownsRow base 25 2 v' (n + m) (xs ++ news) → w.grownBy w' v.ownBlock → wpList Try.prog ops Q rest (a.put o.dst v') w') : wpList Try.prog ops Q (o :: rest) a w := by
  obtain ⟨i, hi, hz0, hz1, hz2⟩ := info_parts info_cube
  exact wpList_append_row hgd s x 35 ho base 25 i _ 2 16 Try.underlying35 hi hz0 hz1 hz2 rfl (by decide) v n xs hs hown sv m news hx hr h1 (by unfold maxLen; omega) (by omega) hbase h
theorem cubes_one (ks : List (Int × Int)) : ∀ u ∈ cubes ks, u.oneCell' = true := by
  intro u hu
  unfold cubes at hu
  obtain ⟨k, _, hk⟩ := List.mem_flatMap.1 hu
  simp at hk
  rcases hk with rfl | rfl <;> rfl
theorem own_ne {w : World} {base n size : Nat} {e t : TypeId} {v : Value} {xs : List Value} {g : Nat} {cs : Array Value} {fr : Nat × Nat} (h : w.ownsRow base e size v n xs) (hh : w.heap[g]? = some (.cells cs t fr)) (ht : t ≠ e) : v.ownBlock ≠ some g := by
  rcases h.2 with ⟨rfl, rfl⟩ | ⟨g', cap, cur, rfl, hb, hh', _⟩
  · simp [Value.ownBlock]
  · intro e'
    have : g' = g := by simpa [Value.ownBlock] using e'
    subst this
    rw [hh] at hh'
    injection hh' with hh'
    injection hh' with _ h2 _
    exact ht h2
theorem own_ge {w : World} {base n size : Nat} {e : TypeId} {v : Value} {xs : List Value} (h : w.ownsRow base e size v n xs) : ∀ k, v.ownBlock = some k → base ≤ k := fun k hk => (h.lt k hk).1
namespace Two
theorem pstep_length (t n : Nat) (out : List (Nat × Nat)) (k : Nat × Nat) : (pstep t n out k).length ≤ out.length + 1 := by
  unfold pstep
  split <;> simp
theorem rowF_length {f : List (Nat × Nat) → Nat × Nat → List (Nat × Nat)} (hf : ∀ out k, (f out k).length ≤ out.length + 1) (out : List (Nat × Nat)) (c : Nat) : ∀ v, (rowF f out c v).length ≤ out.length + v
  | 0 => Nat.le_refl _
  | v + 1 => by
    have h1 := hf (rowF f out c v) (c, v)
    have h2 := rowF_length hf out c v
    rw [rowF]
    omega
theorem tabF_length {f : List (Nat × Nat) → Nat × Nat → List (Nat × Nat)} (hf : ∀ out k, (f out k).length ≤ out.length + 1) (m : Nat) : ∀ c, (tabF f m c).length ≤ c * m
  | 0 => by simp [tabF]
  | c + 1 => by
    have h1 := rowF_length hf (tabF f m c) c m
    have h2 := tabF_length hf m c
    rw [tabF, Nat.add_mul]
    omega
theorem mem_pstep {t n : Nat} {out : List (Nat × Nat)} {k q : Nat × Nat} (h : q ∈ pstep t n out k) : q ∈ out ∨ q = k := by
  unfold pstep at h
  split at h
  · simpa using h
  · exact .inl h
theorem mem_rowF {f : List (Nat × Nat) → Nat × Nat → List (Nat × Nat)} (hf : ∀ out k q, q ∈ f out k → q ∈ out ∨ q = k) {out : List (Nat × Nat)} {c : Nat} {q : Nat × Nat} : ∀ {v}, q ∈ rowF f out c v → q ∈ out ∨ (q.1 = c ∧ q.2 < v)
  | 0, h => .inl h
  | v + 1, h => by
    rw [rowF] at h
    rcases hf _ _ _ h with h | rfl
    · rcases mem_rowF hf h with h | ⟨h1, h2⟩
      · exact .inl h
      · exact .inr ⟨h1, by omega⟩
    · exact .inr ⟨rfl, by simp⟩
theorem mem_tabF {f : List (Nat × Nat) → Nat × Nat → List (Nat × Nat)} (hf : ∀ out k q, q ∈ f out k → q ∈ out ∨ q = k) {m : Nat} {q : Nat × Nat} : ∀ {c}, q ∈ tabF f m c → q.1 < c ∧ q.2 < m
  | 0, h => by simp [tabF] at h
  | c + 1, h => by
    rw [tabF] at h
    rcases mem_rowF hf h with h | ⟨h1, h2⟩
    · have := mem_tabF hf h
      omega
    · omega
end Two
theorem cubesN_own {w : World} {b : Nat} {e : TypeId} {v : Value} {R : List (Nat × Nat)} (h : w.ownsRow b e 2 v R.length (cubes (R.map intK))) : CubesN w v R := by
  unfold CubesN CubesAt
  rw [List.length_map]
  exact Row.of_own h
/-- What Primes returns. -/
def primesI (t n : Int) : List (Nat × Nat) := if fitsT t n then Two.primes t.toNat n.toNat else []
def PrimesOut (t n : Int) (w : World) (e : Ending) (w' : World) : Prop :=
  ∃ v, e = .returned v ∧ w'.ownsRow w.heap.size 25 2 v (primesI t n).length (cubes ((primesI t n).map intK)) ∧ Below w.heap.size w w'
theorem implPrimes_any (t n : Int) (w : World) : Calls Try.prog 22 #[.int .i64 t, .int .i64 n] w (PrimesOut t n w) := by
  cases hf : fitsT t n
  · have hp : primesI t n = [] := by unfold primesI; rw [hf]; rfl
    have Hp := Lib.hid hp
    have Hf := Lib.hid hf
    clear hp hf
    go_enter Try.func22, Try.ntmps22
    go_wp2_with fail
    refine (tableFits_any t n _).mono ?_
    rintro e w' ⟨rfl, rfl⟩
    rw [Hf.out]
    go_wp2_with fail
    go_ret
    exact ⟨_, rfl, by rw [Hp.out]; exact World.ownsRow_nil _ _ _ _, Below.refl _ _⟩
  · obtain ⟨T, N, rfl, rfl, hN, hT2, hT⟩ := fitsT_nat hf
    have hp : primesI T N = Two.tabF (Two.pstep T N) (2 ^ N) (2 ^ N) := by unfold primesI; rw [hf, Two.primes_eq]; rfl
    have Hp := Lib.hid hp
    have Hf := Lib.hid hf
    clear hp hf hT2
    obtain ⟨M, hM, e, hp, hp0⟩ := pow4 hN
    rw [hM.out] at Hp
    have hmemT : Hid (∀ q c, q ∈ Two.tabF (Two.pstep T N) M c → q.1 < c ∧ q.2 < M) := Lib.hid fun q c h => Two.mem_tabF (fun _ _ _ => Two.mem_pstep) h
    go_enter Try.func22, Try.ntmps22
    go_wp2_with fail
    refine (tableFits_any _ _ _).mono ?_
    rintro e w' ⟨rfl, rfl⟩
    rw [Hf.out]
    go_wp2_with fail
    go_loopw [5, 15] (fun v i wr => ∃ c : Nat, c ≤ M ∧ i = .int .i64 c ∧ wr.ownsRow w.heap.size 25 2 v (Two.tabF (Two.pstep T N) M c).length (cubes ((Two.tabF (Two.pstep T N) M c).map intK)) ∧ Below w.heap.size w wr) (fun _ i _ => M - (intOf i).toNat)
    case atStart => exact ⟨0, by omega, rfl, World.ownsRow_nil _ _ _ _, Below.refl _ _⟩
    case round =>
      obtain ⟨c, hc, rfl, hown, hb⟩ := hrel
      have Hb := Lib.hid hb
      have Hown := Lib.hid hown
      clear hb hown
      by_cases hlt : c < M
      · have hz := Hb.out.size
        have hO : (Two.tabF (Two.pstep T N) M c).length ≤ 240 := by
          have h1 := Two.tabF_length (Two.pstep_length T N) M c
          have h2 : c * M ≤ 15 * 16 := Nat.mul_le_mul (by omega) hp
          omega
        have HmO : Hid (∀ q ∈ Two.tabF (Two.pstep T N) M c, q.1 < 16) := Lib.hid fun q hq => by have := (hmemT.out q c hq).1; omega
        have HO1 : Hid (∀ k, Two.tabF (Two.pstep T N) M (k + 1) = Two.rowF (Two.pstep T N) (Two.tabF (Two.pstep T N) M k) k M) := Lib.hid fun _ => rfl
        have HO2 := Lib.hid (HO1.out c)
        generalize Two.tabF (Two.pstep T N) M c = O at *
        have hg6 : (wr.alloc (.cells #[.int .i64 c] 3)).heap[wr.heap.size]? = some (.cells #[.int .i64 c] 3 (0, 0)) := heap_alloc_new _ _
        have HownA := Lib.hid (Hown.out.alloc (.cells #[.int .i64 c] 3))
        have HbA := Lib.hid (Hb.out.alloc hz (.cells #[.int .i64 c] 3))
        clear Hown Hb
        go_wp2_with fail
        generalize wr.alloc (.cells #[.int .i64 c] 3) = W1 at *
        generalize wr.heap.size = g6 at *
        go_loopw [5, 20] (fun v i wq => ∃ x : Nat, x ≤ M ∧ i = .int .i64 x ∧ wq.ownsRow w.heap.size 25 2 v (Two.rowF (Two.pstep T N) O c x).length (cubes ((Two.rowF (Two.pstep T N) O c x).map intK)) ∧ wq.heap[g6]? = some (.cells #[.int .i64 c] 3 (0, 0)) ∧ Below w.heap.size w wq) (fun _ i _ => M - (intOf i).toNat)
        case atStart => exact ⟨0, by omega, rfl, HownA.out, hg6, HbA.out⟩
        case round =>
          obtain ⟨x, hx, rfl, hown, hg6, hb⟩ := hrel
          have Hb := Lib.hid hb
          have Hown := Lib.hid hown
          clear hb hown HownA HbA
          by_cases hlt2 : x < M
          · have hzr := Hb.out.size
            have hL := Two.rowF_length (Two.pstep_length T N) O c x
            have HmR : Hid (∀ q ∈ Two.rowF (Two.pstep T N) O c x, q.1 < 65536) := Lib.hid fun q hq => by
              rcases Two.mem_rowF (fun _ _ _ => Two.mem_pstep) hq with h | ⟨h, _⟩
              · have := HmO.out q h; omega
              · omega
            have HR : Hid (Two.rowF (Two.pstep T N) O c (x + 1) = Two.pstep T N (Two.rowF (Two.pstep T N) O c x) (c, x)) := Lib.hid rfl
            obtain ⟨R2, hR2⟩ : ∃ R2, Two.rowF (Two.pstep T N) O c (x + 1) = R2 := ⟨_, rfl⟩
            rw [hR2] at HR
            have HR1 := Lib.hid hR2
            clear hR2
            generalize Two.rowF (Two.pstep T N) O c x = R at *
            have c6 := blk_cell hg6 0
            simp only [List.getElem?_toArray, List.getElem?_cons_zero] at c6
            have z6 : g6 < wr.heap.size := by
              rcases Nat.lt_or_ge g6 wr.heap.size with h | h
              · exact h
              · rw [Array.getElem?_eq_none h] at hg6; cases hg6
            have k6 : ((wr.alloc (.cells #[.int .i64 x] 3)).alloc (.cells #[.int .i64 c, .int .i64 x] 25)).heap[g6]? = some (.cells #[.int .i64 c] 3 (0, 0)) := by
              rw [heap_alloc_old _ _ (by simp; omega), heap_alloc_old _ _ z6]; exact hg6
            have k7 : ((wr.alloc (.cells #[.int .i64 x] 3)).alloc (.cells #[.int .i64 c, .int .i64 x] 25)).heap[wr.heap.size]? = some (.cells #[.int .i64 x] 3 (0, 0)) := by
              rw [heap_alloc_old _ _ (by simp)]; exact heap_alloc_new _ _
            have k8 : ((wr.alloc (.cells #[.int .i64 x] 3)).alloc (.cells #[.int .i64 c, .int .i64 x] 25)).heap[wr.heap.size + 1]? = some (.cells #[.int .i64 c, .int .i64 x] 25 (0, 0)) := by
              have := heap_alloc_new (wr.alloc (.cells #[.int .i64 x] 3)) (.cells #[.int .i64 c, .int .i64 x] 25)
              simpa using this
            have HownB := Lib.hid ((Hown.out.alloc (.cells #[.int .i64 x] 3)).alloc (.cells #[.int .i64 c, .int .i64 x] 25))
            have HbB := Lib.hid ((Hb.out.alloc hzr (.cells #[.int .i64 x] 3)).alloc (by simp; omega) (.cells #[.int .i64 c, .int .i64 x] 25))
            have zB : wr.heap.size + 2 = ((wr.alloc (.cells #[.int .i64 x] 3)).alloc (.cells #[.int .i64 c, .int .i64 x] 25)).heap.size := by simp
            have HzB := Lib.hid zB
            clear zB Hown Hb
            go_upto_region 11 with fail
            generalize (wr.alloc (.cells #[.int .i64 x] 3)).alloc (.cells #[.int .i64 c, .int .i64 x] 25) = W2 at *
            generalize wr.heap.size = g7 at *
            clear hg6 c6
            have c6 := blk_cell k6 0
            have c7 := blk_cell k7 0
            have c8 := blk_cell k8 0
            have c9 := blk_cell k8 1
            simp only [List.getElem?_toArray, List.getElem?_cons_zero, List.getElem?_cons_succ] at c6 c7 c8 c9
            have z2 : g7 + 2 ≤ W2.heap.size := by have := HzB.out; omega
            have ea := andNot_nat x c (by omega) (by omega)
            have HcD : Hid (Two.cand T N (c, x) = ((x &&& c == x) && Two.within (c, x) T N)) := Lib.hid rfl
            cases hfine : (x &&& c == x)
            · have hn : bits .andNot .i64 (x : Int) (c : Int) != 0 := by rw [bne, ea, hfine]; rfl
              have H : Hid (R2 = R) := Lib.hid (by rw [HR.out, Two.pstep, HcD.out, hfine]; rfl)
              clear ea hfine
              go_wp2_with fail
              go_roundw
              case rel => exact ⟨x + 1, by omega, by go_num, by rw [HR1.out, H.out]; exact HownB.out, k6, HbB.out⟩
              case measure => simp [intOf]; omega
            · have hn : (bits .andNot .i64 (x : Int) (c : Int) != 0) = false := by rw [bne, ea, hfine]; rfl
              have Hfine := Lib.hid hfine
              have zw := HbB.out.size
              clear ea hfine
              go_wp2_with fail
              refine (implies_any c x T N _ hN (by omega) hT).mono ?_
              rintro e w3 ⟨rfl, hb3⟩
              have Ho3 := Lib.hid (own_below HownB.out hb3)
              have Hb3 := Lib.hid (HbB.out.trans (hb3.mono zw))
              have k36 := (hb3.block g6 (by omega)).trans k6
              have d6 := (hb3.cell (p := ⟨g6, 0, none⟩) (by simp only; omega)).trans c6
              have d7 := (hb3.cell (p := ⟨g7, 0, none⟩) (by simp only; omega)).trans c7
              have d8 := (hb3.cell (p := ⟨g7 + 1, 0, none⟩) (by simp only; omega)).trans c8
              have d9 := (hb3.cell (p := ⟨g7 + 1, 1, none⟩) (by simp only; omega)).trans c9
              have z3 := hb3.size
              clear hb3 HownB HbB k6 k7 k8 c6 c7 c8 c9
              cases hwi : Two.within (c, x) T N
              · have H : Hid (R2 = R) := Lib.hid (by rw [HR.out, Two.pstep, HcD.out, Hfine.out, hwi]; rfl)
                clear hwi
                go_wp2_with fail
                go_roundw
                case rel => exact ⟨x + 1, by omega, by go_num, by rw [HR1.out, H.out]; exact Ho3.out, k36, Hb3.out⟩
                case measure => simp [intOf]; omega
              · have Hwi := Lib.hid hwi
                clear hwi
                go_wp2_with fail
                refine (containsFunc_any _ R c x g6 g7 _ (cubesN_own Ho3.out) d6 d7 (by omega) (by omega) HmR.out (by omega) (by omega)).mono ?_
                rintro e w4 ⟨rfl, hb4⟩
                have Ho4 := Lib.hid (own_below Ho3.out hb4)
                have Hb4 := Lib.hid (Hb3.out.trans (hb4.mono (by omega)))
                have k46 := (hb4.block g6 (by omega)).trans k36
                have f8 := (hb4.cell (p := ⟨g7 + 1, 0, none⟩) (by simp only; omega)).trans d8
                have f9 := (hb4.cell (p := ⟨g7 + 1, 1, none⟩) (by simp only; omega)).trans d9
                have z4 := hb4.size
                clear hb4 Ho3 Hb3 k36 d6 d7 d8 d9
                cases hany : R.any (fun b => Two.gen (c, x) b)
                · have H : Hid (R2 = R ++ [(c, x)]) := Lib.hid (by rw [HR.out, Two.pstep, HcD.out, Hfine.out, Hwi.out, hany]; rfl)
                  have Hlit := Lib.hid (Row.of_own (World.ownsRow_lit (base := w4.heap.size) (e := 25) (size := 2) w4 #[.int .i64 c, .int .i64 x] 1 (Nat.le_refl _) (by unfold maxLen; omega) rfl))
                  clear hany
                  go_wp2_with (at_builtin; refine append_cubes rfl (.tmp 41) (.tmp 43) rfl w.heap.size _ R.length _ rfl (Ho4.out.alloc _) _ 1 [.int .i64 c, .int .i64 x] rfl Hlit.out (by simp [Value.oneCell']) (by omega) (by simp; omega) ?_; intro v5 w5 hown5 hg5; have Ho5 := Lib.hid hown5; have Hg5 := Lib.hid hg5; clear hown5 hg5)
                  go_roundw
                  case rel =>
                    have hne := own_ne Ho4.out k46 (by decide)
                    have k56 := (Hg5.out.block g6 (by simp; omega) (fun h => hne h.symm)).trans ((heap_alloc_old w4 _ (by omega)).trans k46)
                    have hb5 := (Hb4.out.alloc (by omega) (.cells #[.int .i64 c, .int .i64 x] 25)).grown Hg5.out (by simp; omega) (own_ge Ho4.out)
                    refine ⟨x + 1, by omega, by go_num, ?_, k56, hb5⟩
                    rw [HR1.out, H.out, List.map_append, cubes_append, List.length_append]
                    exact Ho5.out
                  case measure => simp [intOf]; omega
                · have H : Hid (R2 = R) := Lib.hid (by rw [HR.out, Two.pstep, HcD.out, Hfine.out, Hwi.out, hany]; rfl)
                  clear hany
                  go_wp2_with fail
                  go_roundw
                  case rel => exact ⟨x + 1, by omega, by go_num, by rw [HR1.out, H.out]; exact Ho4.out, k46, Hb4.out⟩
                  case measure => simp [intOf]; omega
          · obtain rfl : x = M := by omega
            rw [← HO2.out] at Hown
            go_wp2
            go_roundw
            case rel => exact ⟨c + 1, by omega, by go_num, Hown.out, Hb.out⟩
            case measure => simp [intOf]; omega
      · obtain rfl : c = M := by omega
        rw [← Hp.out] at Hown
        go_wp2
        go_ret
        exact ⟨_, rfl, Hown.out, Hb.out⟩
end Go.Proofs.Ytlpellciiiflkaa
