import Derived.Test.YtpbgfhlhpinkeaaRegF
namespace Go.Proofs.Ytpbgfhlhpinkeaa
open Go.RowKit Reg

theorem info_parts_int : ∃ i, Try.prog.info? 3 = some i ∧ i.zero = some (.int .i64 0) ∧ i.size = 1 ∧ i.bytes = 8 := by
  obtain ⟨i, hi, hz⟩ := Option.map_eq_some_iff.1 info_int
  simp only [Prod.mk.injEq] at hz
  exact ⟨i, hi, hz.1, hz.2.1, hz.2.2⟩

/-- Numbers between -1 and 2048. -/
def Words (ws : List Int) : Prop := ∀ x ∈ ws, -1 ≤ x ∧ x ≤ 2048
theorem Words.nil : Words [] := by simp [Words]
theorem Words.more {ws : List Int} {c : Int} (h : Words ws) (hc : -1 ≤ c ∧ c ≤ 2048) : Words (ws ++ [c]) := by
  intro x hx
  rcases List.mem_append.1 hx with h' | h'
  · exact h x h'
  · obtain rfl := List.mem_singleton.1 h'; exact hc
/-- The drawn words, as a row of the call's own. -/
def OwnWords (B : Nat) (v : Value) (ws : List Int) (w : World) : Prop := w.ownsRow B 3 1 v ws.length (ints ws)
/-- What was appended: one number between lo and hi. -/
def One (lo hi : Int) (l : List Value) : Prop := ∃ c, l = [.int .i64 c] ∧ lo ≤ c ∧ c ≤ hi
theorem One.mk {lo hi : Int} (cs : List Int) (h : cs.length = 1) (hb : ∀ c ∈ cs, lo ≤ c ∧ c ≤ hi) : One lo hi (cs.map (Value.int .i64)) := by
  match cs, h with
  | [c], _ => exact ⟨c, rfl, hb c (by simp)⟩
/-- Behind the append. -/
theorem own_of_J {B : Nat} {v0 v : Value} {ws : List Int} {lo hi : Int} {w : World} (h : JOwn B 3 1 v0 ws.length (ints ws) 1 (One lo hi) (some v) w) :
    ∃ c, lo ≤ c ∧ c ≤ hi ∧ OwnWords B v (ws ++ [c]) w := by
  obtain ⟨news, ⟨c, rfl, h1, h2⟩, ho⟩ := h
  refine ⟨c, h1, h2, ?_⟩
  unfold OwnWords
  simpa [ints] using ho

theorem emod_le (x M c : Int) (h0 : 0 ≤ x) (h1 : x ≤ c) (h2 : 1 ≤ M) : x % M ≤ c := by
  have := Int.emod_add_mul_ediv x M
  have h3 : 0 ≤ x / M := Int.ediv_nonneg h0 (by omega)
  have h4 : 0 ≤ M * (x / M) := Int.mul_nonneg (by omega) h3
  omega

def SigDrawn (B : Nat) (w : World) (e : Ending) (w' : World) : Prop :=
  ∃ (n t : Int) (v : Value) (ws : List Int), e = .returned (.tuple #[.int .i64 n, .int .i64 t, v]) ∧ 0 ≤ n ∧ n ≤ 11 ∧ 0 ≤ t ∧ t ≤ 1023 ∧ ws.length ≤ 30 ∧ Words ws ∧ OwnWords B v ws w' ∧ Below w.heap.size w w'

set_option maxHeartbeats 2000000 in
theorem drawSignature_any (v : Value) (bs : List Int) (w : World) (h : Row w 1 v bs.length (bs.map (Value.int .u8))) (hb : ∀ x ∈ bs, (Lit.int .u8 x).wf = true) (hl : bs.length ≤ 1048576) :
    Calls Try.prog 23 #[v] w (SigDrawn (w.heap.size + 1) w) := by
  have Hh := Lib.hid h
  clear h
  go_enter Try.func23, Try.ntmps23
  go_wp2_with fail
  refine (open_any v bs w Hh.out hb hl).mono ?_
  rintro e w1 ⟨rfl, hr1, hb1⟩
  have Hr1 := Lib.hid hr1
  have Hb1 := Lib.hid hb1
  clear hr1 hb1 hb
  go_wp2_with fail
  refine (register_any _ _ _ _ Hr1.out (by omega) (by omega) (by omega)).mono ?_
  rintro e w2 ⟨n, t, s, rfl, hs0, hs1, hn0, hn1, ht0, ht1, hr2, hg2⟩
  have Hr2 := Lib.hid hr2
  have Hb2 := Lib.hid (below_grown Hb1.out hg2 (Nat.le_refl _))
  clear hr2 hg2 Hr1 Hb1
  go_wp2_with fail
  refine (pick_any _ _ 30 _ (Hr2.out.alloc _) (by omega) (by omega) (by omega)).mono ?_
  rintro e w3 ⟨k0, hk0, hk1, rfl, hr3, hg3⟩
  have Hr3 := Lib.hid hr3
  have Hg3 := Lib.hid hg3
  clear hr3 hg3
  have Hown : Hid (OwnWords (w.heap.size + 1) (.slice (some ⟨w2.heap.size, 0, none⟩) 0 0) [] w3) := by
    have hlt := Hr2.out.lt
    have h0 := World.ownsRow_lit (base := w.heap.size + 1) (e := 3) (size := 1) w2 #[] 0 (by omega) (by unfold maxLen; omega) rfl
    exact Lib.hid (h0.kept Hg3.out (.inr (by simp [Value.ownBlock]; omega)))
  have Hb3 : Hid (Below w.heap.size w w3) := Lib.hid (below_grown (Hb2.out.alloc Hb2.out.size _) Hg3.out (Nat.le_refl _))
  clear Hg3 Hr2 Hb2
  go_wp2_with fail
  obtain ⟨M, e, hM1, hM2⟩ : ∃ M : Int, (2 : Int) ^ n.toNat = M ∧ 1 ≤ M ∧ M ≤ 2048 := ⟨_, rfl, pow_ge n, by
    have h' : 2 ^ n.toNat ≤ 2 ^ 11 := Nat.pow_le_pow_right (by decide) (by omega)
    rw [two_pow]; omega⟩
  go_loopw [9, 10] (fun v j wr => ∃ (vv : Value) (k : Int) (ws : List Int), vv = v ∧ j = .int .i64 k ∧ 0 ≤ k ∧ ws.length + k ≤ 20 ∧ Words ws ∧ Hid (OwnWords (w.heap.size + 1) v ws wr) ∧ Hid (Rd wr w.heap.size (100 + 20 * ws.length)) ∧ Hid (Below w.heap.size w wr)) (fun _ j _ => (intOf j).toNat)
  case atStart => exact ⟨_, k0, [], rfl, rfl, hk0, by simp; omega, Words.nil, Hown, Lib.hid (Hr3.out.more (by simp)), Hb3⟩
  case round =>
    obtain ⟨vv, k, ws, hvv, rfl, hk, hkl, hws, Ho, Hr, Hbw⟩ := hrel
    subst hvv
    clear Hown Hr3 Hb3
    by_cases hpos : 0 < k
    · go_wp2_with fail
      have hrow := Ho.out
      refine wp_region_rg (tys [TEq vv, TEq (.pointer (some ⟨w.heap.size, 0, none⟩)), TInt 0 255, TEq (.pointer (some ⟨w.heap.size, 0, none⟩)), TInt 0 3, TInt 0 768, TInt 0 1023, TEq (.int .i64 n), TEq (.int .i64 M), TInt 0 1023, TLit (fun g => g = w.heap.size ∨ vv.ownBlock = some g) 1 0 1023, TAny, TAny])
        11 (RdI (fun g => g = w.heap.size ∨ vv.ownBlock = some g) w.heap.size (100 + 20 * ws.length) wr (JOwn (w.heap.size + 1) 3 1 vv ws.length (ints ws) 1 (One 0 1023))) (Only (fun g => g = w.heap.size ∨ vv.ownBlock = some g))
        (by kernel_rfl) (by kernel_rfl) (by kernel_rfl) ⟨Hr.out, Only.drew wr, Ho.out⟩ (fun i v a b h g => tys_stb (by
            intro T hT
            simp only [List.mem_cons, List.not_mem_nil, or_false] at hT
            rcases hT with rfl | rfl | rfl | rfl | rfl | rfl | rfl | rfl | rfl | rfl | rfl | rfl | rfl <;> first | exact stb_eq _ _ | exact stb_int _ _ _ | exact stb_lit _ _ _ _ | exact stb_ptr _ _ _ | exact stb_any _) i v a b h g) ?_ (by decide) ?_
      · intro i o ho k' ov ρ w' hk' hI hov hK
        have hE : ∀ g, (g = w.heap.size ∨ vv.ownBlock = some g) → g < wr.heap.size := fun g hg => by
          rcases hg with rfl | hg
          · exact Hr.out.lt
          · exact (hrow.lt g hg).2
        match i, ho, hK with
        | 0, ho, hK =>
          obtain rfl := Option.some.inj ho
          obtain ⟨h, -⟩ := hK
          exact good_move hI rfl h
        | 1, ho, hK =>
          obtain rfl := Option.some.inj ho
          obtain ⟨h, -⟩ := hK
          exact good_move hI rfl h
        | 2, ho, hK =>
          obtain rfl := Option.some.inj ho
          obtain ⟨hf, h, hc, -⟩ := hK
          exact good_call (n := 256) hI (.inl rfl) (js_own (by omega)) rfl fn_pick hf h hc (pick_any _ _ _ _ hI.1 (by simp at hk'; omega) (by omega) (by omega))
        | 3, ho, hK =>
          obtain rfl := Option.some.inj ho
          obtain ⟨h, -⟩ := hK
          exact good_move hI rfl h
        | 4, ho, hK =>
          obtain rfl := Option.some.inj ho
          obtain ⟨hf, h, hc, -⟩ := hK
          exact good_call (n := 4) hI (.inl rfl) (js_own (by omega)) rfl fn_pick hf h hc (pick_any _ _ _ _ hI.1 (by simp at hk'; omega) (by omega) (by omega))
        | 5, ho, hK =>
          obtain rfl := Option.some.inj ho
          obtain ⟨hc, ⟨y, hy, y0, y1⟩, -⟩ := hK
          have hc' : ρ (.const (.int .i64 256)) = .int .i64 256 := hc
          refine good_pure (v := .int .i64 (256 * y)) hI ?_ ⟨_, rfl, by omega, by omega⟩
          go_simp
          exact IntWalk.i64_in _ (by omega)
        | 6, ho, hK =>
          obtain rfl := Option.some.inj ho
          obtain ⟨⟨x, hx, x0, x1⟩, ⟨y, hy, y0, y1⟩, -⟩ := hK
          refine good_pure (v := .int .i64 (x + y)) hI ?_ ⟨_, rfl, by omega, by omega⟩
          go_simp
          all_goals first | exact IntWalk.i64_in _ (by omega) | (rw [if_neg (by omega), Int.tmod_eq_emod_of_nonneg x0])
        | 7, ho, hK =>
          obtain rfl := Option.some.inj ho
          obtain ⟨h, -⟩ := hK
          exact good_move hI rfl h
        | 8, ho, hK =>
          obtain rfl := Option.some.inj ho
          obtain ⟨hc, h, -⟩ := hK
          have hc' : ρ (.const (.int .i64 1)) = .int .i64 1 := hc
          have h' : ρ (.tmp 33) = .int .i64 n := h
          refine good_pure (v := .int .i64 M) hI ?_ rfl
          go_simp
          all_goals first | exact IntWalk.i64_in _ (by omega) | (rw [if_neg (by omega), Int.tmod_eq_emod_of_nonneg x0])
        | 9, ho, hK =>
          obtain rfl := Option.some.inj ho
          obtain ⟨⟨x, hx, x0, x1⟩, h, -⟩ := hK
          have h' : ρ (.tmp 34) = .int .i64 M := h
          refine good_pure (v := .int .i64 (x % M)) hI ?_ ⟨_, rfl, Int.emod_nonneg _ (by omega), by exact emod_le x M 1023 x0 x1 hM1⟩
          go_simp
          all_goals first | exact IntWalk.i64_in _ (by omega) | (rw [if_neg (by omega), Int.tmod_eq_emod_of_nonneg x0])
        | 10, ho, hK =>
          obtain rfl := Option.some.inj ho
          obtain ⟨⟨x, hx, x0, x1⟩, -⟩ := hK
          refine good_build (e := 3) [x] hI hE (js_own (by omega)) ?_ (by simp; omega)
          go_simp
        | 11, ho, hK =>
          obtain rfl := Option.some.inj ho
          obtain ⟨h, hl, -⟩ := hK
          obtain ⟨i0, hi0, hz0, hz1, hz2⟩ := info_parts_int
          rw [hov rfl] at hI
          exact good_append hI rfl rfl Try.underlying23 hi0 hz0 hz1 hz2 rfl h hl One.mk (fun g hg => .inr hg) (by omega) (by have := Hr.out.lt; omega) (by omega) (by omega) (by omega)
        | 12, ho, hK =>
          obtain rfl := Option.some.inj ho
          obtain ⟨h, -⟩ := hK
          exact good_assign hI rfl h
        | i + 13, ho, hK => exact absurd ho (by simp)
      · intro f w8 k' hk' hI hτ hcp
        have hfe : f 12 = f 11 := (hcp 12 _ 37 11 (by decide) rfl rfl rfl).2
        obtain ⟨c, hc0, hc1, hown⟩ := own_of_J hI.2.2
        have Hown := Lib.hid hown
        have Hfe := Lib.hid hfe
        have Hcp := Lib.hid hcp
        have Hτ := Lib.hid hτ
        have HI := Lib.hid hI
        clear hown hfe hcp hτ hI hrow
        simp only [putAll]
        go_wp2_with fail
        go_roundw
        case rel =>
          have hk13 : k' ≤ 13 := hk'
          have hI := HI.out
          refine ⟨f 12, k - 1, ws ++ [c], rfl, by go_num, by omega, by simp; omega, hws.more (by omega), Lib.hid (by rw [Hfe.out]; exact Hown.out), Lib.hid (hI.1.more (by simp; omega)), Lib.hid ?_⟩
          exact Only.below Hbw.out hI.2.1 Hbw.out.size (fun g hg => by
            rcases hg with rfl | hg
            · exact Nat.le_refl _
            · have := ((show wr.ownsRow _ _ _ _ _ _ from Ho.out).lt g hg).1; omega)
        case measure => simp [intOf]; omega
    · go_wp2_with fail
      refine (odd_any 9 _ _ _ Hr.out (by omega) (by omega) (by omega)).mono ?_
      rintro e w5 ⟨b, rfl, hr5, hg5⟩
      have Hr5 := Lib.hid hr5
      have Ho5 : Hid (OwnWords (w.heap.size + 1) vv ws w5) := Lib.hid ((show wr.ownsRow _ _ _ _ _ _ from Ho.out).kept hg5 (by
        cases hv : vv.ownBlock with
        | none => exact .inl rfl
        | some q =>
          right
          intro hq
          have h1 := ((show wr.ownsRow _ _ _ _ _ _ from Ho.out).lt q hv).1
          have h2 : q = w.heap.size := Option.some.inj hq
          omega))
      have Hb5 := Lib.hid (below_grown Hbw.out hg5 (Nat.le_refl _))
      clear hr5 hg5 Hr Ho Hbw
      cases b
      · go_wp2_with fail
        refine bodyPost_ret (v := .tuple #[.int .i64 n, .int .i64 t, vv]) (by simp [results, Try.results23, go_sem]) rfl ⟨n, t, vv, ws, rfl, by omega, by omega, by omega, by omega, by omega, hws, Ho5.out, Hb5.out⟩
      · go_wp2_with fail
        have hrow := Ho5.out
        refine wp_region_rg (tys [TEq vv, TEq (.int .i64 n), TEq (.int .i64 M), TLit (fun g => g = w.heap.size ∨ vv.ownBlock = some g) 2 (-1) 2048, TEq (.pointer (some ⟨w.heap.size, 0, none⟩)), TInt 0 1, TPtr (fun g => g = w.heap.size ∨ vv.ownBlock = some g) (-1) 2048, TInt (-1) 2048, TLit (fun g => g = w.heap.size ∨ vv.ownBlock = some g) 1 (-1) 2048, TAny, TAny])
          9 (RdI (fun g => g = w.heap.size ∨ vv.ownBlock = some g) w.heap.size (1000 + 20 * ws.length) w5 (JOwn (w.heap.size + 1) 3 1 vv ws.length (ints ws) 1 (One (-1) 2048))) (Only (fun g => g = w.heap.size ∨ vv.ownBlock = some g))
          (by kernel_rfl) (by kernel_rfl) (by kernel_rfl) ⟨Hr5.out.more (by omega), Only.drew w5, Ho5.out⟩ (fun i v a b h g => tys_stb (by
            intro T hT
            simp only [List.mem_cons, List.not_mem_nil, or_false] at hT
            rcases hT with rfl | rfl | rfl | rfl | rfl | rfl | rfl | rfl | rfl | rfl | rfl <;> first | exact stb_eq _ _ | exact stb_int _ _ _ | exact stb_lit _ _ _ _ | exact stb_ptr _ _ _ | exact stb_any _) i v a b h g) ?_ (by decide) ?_
        · intro i o ho k' ov ρ w' hk' hI hov hK
          have hE : ∀ g, (g = w.heap.size ∨ vv.ownBlock = some g) → g < w5.heap.size := fun g hg => by
            rcases hg with rfl | hg
            · exact Hr5.out.lt
            · exact (hrow.lt g hg).2
          match i, ho, hK with
          | 0, ho, hK =>
            obtain rfl := Option.some.inj ho
            obtain ⟨h, -⟩ := hK
            exact good_move hI rfl h
          | 1, ho, hK =>
            obtain rfl := Option.some.inj ho
            obtain ⟨h, -⟩ := hK
            exact good_move hI rfl h
          | 2, ho, hK =>
            obtain rfl := Option.some.inj ho
            obtain ⟨hc, h, -⟩ := hK
            have hc' : ρ (.const (.int .i64 1)) = .int .i64 1 := hc
            have h' : ρ (.tmp 41) = .int .i64 n := h
            refine good_pure (v := .int .i64 M) hI ?_ rfl
            go_simp
            all_goals exact IntWalk.i64_in _ (by omega)
          | 3, ho, hK =>
            obtain rfl := Option.some.inj ho
            obtain ⟨c1, h, -⟩ := hK
            have h' : ρ (.tmp 42) = .int .i64 M := h
            have c1' : ρ (.const (.int .i64 (-1))) = .int .i64 (-1) := c1
            refine good_build (e := 3) [-1, M] hI hE (js_own (by omega)) ?_ (by simp; omega)
            go_simp
          | 4, ho, hK =>
            obtain rfl := Option.some.inj ho
            obtain ⟨h, -⟩ := hK
            exact good_move hI rfl h
          | 5, ho, hK =>
            obtain rfl := Option.some.inj ho
            obtain ⟨hf, h, hc, -⟩ := hK
            exact good_call (n := 2) hI (.inl rfl) (js_own (by omega)) rfl fn_pick hf h hc (pick_any _ _ _ _ hI.1 (by simp at hk'; omega) (by omega) (by omega))
          | 6, ho, hK =>
            obtain rfl := Option.some.inj ho
            obtain ⟨h, h', -⟩ := hK
            exact good_index hI rfl h h' (by omega) ix_ints
          | 7, ho, hK =>
            obtain rfl := Option.some.inj ho
            obtain ⟨h, -⟩ := hK
            exact good_load hI rfl ag_int h
          | 8, ho, hK =>
            obtain rfl := Option.some.inj ho
            obtain ⟨⟨x, hx, x0, x1⟩, -⟩ := hK
            refine good_build (e := 3) [x] hI hE (js_own (by omega)) ?_ (by simp; omega)
            go_simp
          | 9, ho, hK =>
            obtain rfl := Option.some.inj ho
            obtain ⟨h, hl, -⟩ := hK
            obtain ⟨i0, hi0, hz0, hz1, hz2⟩ := info_parts_int
            rw [hov rfl] at hI
            exact good_append hI rfl rfl Try.underlying23 hi0 hz0 hz1 hz2 rfl h hl One.mk (fun g hg => .inr hg) (by omega) (by have := Hr5.out.lt; omega) (by omega) (by omega) (by omega)
          | 10, ho, hK =>
            obtain rfl := Option.some.inj ho
            obtain ⟨h, -⟩ := hK
            exact good_assign hI rfl h
          | i + 11, ho, hK => exact absurd ho (by simp)
        · intro f w8 k' hk' hI hτ hcp
          have hfe : f 10 = f 9 := (hcp 10 _ 49 9 (by decide) rfl rfl rfl).2
          obtain ⟨c, hc0, hc1, hown⟩ := own_of_J hI.2.2
          have Hown := Lib.hid hown
          have Hfe := Lib.hid hfe
          have Hb8 : Hid (Below w.heap.size w w8) := Lib.hid (Only.below Hb5.out hI.2.1 Hb5.out.size (fun g hg => by
            rcases hg with rfl | hg
            · exact Nat.le_refl _
            · have := ((show w5.ownsRow _ _ _ _ _ _ from Ho5.out).lt g hg).1; omega))
          clear hown hfe hcp hτ hI hrow
          simp only [putAll]
          go_wp2_with fail
          refine bodyPost_ret (v := .tuple #[.int .i64 n, .int .i64 t, f 10]) (by simp [results, Try.results23, go_sem]) rfl ⟨n, t, f 10, ws ++ [c], rfl, by omega, by omega, by omega, by omega, by simp; omega, hws.more (by omega), by rw [Hfe.out]; exact Hown.out, Hb8.out⟩

/-- append of a row of ints to a row of the call's own. -/
theorem append_ints {w : World} {ops : Array Oper} {rest : List Oper} {o : Oper} {a : Act} {Q : Exit → Act → World → Prop} (hgd : o.guard = none) (s x : Operand)
    (ho : o.op = .call { callee := .builtin .append, args := #[s, x], argTypes := #[23, 23] })
    (B : Nat) (v : Value) (n : Nat) (xs : List Value) (hs : a.eval s = v) (hown : w.ownsRow B 3 1 v n xs) (sv : Value) (ys : List Int) (hx : a.eval x = sv) (hr : IntsAt w sv ys)
    (hl : n + ys.length ≤ 1000000) (hB : B ≤ w.heap.size)
    (h : ∀ v' w', w'.ownsRow B 3 1 v' (n + ys.length) (xs ++ ints ys) → w.grownBy w' v.ownBlock → wpList Try.prog ops Q rest (a.put o.dst v') w') : wpList Try.prog ops Q (o :: rest) a w := by
  obtain ⟨i0, hi0, hz0, hz1, hz2⟩ := info_parts_int
  exact wpList_append_row hgd s x _ ho B _ i0 _ 1 8 Try.underlying23 hi0 hz0 hz1 hz2 rfl (by decide) v n xs hs hown sv ys.length (ints ys) hx hr (by
    intro u hu
    obtain ⟨y, _, rfl⟩ := List.mem_map.1 hu
    rfl) (by unfold maxLen; omega) (by omega) hB h
end Go.Proofs.Ytpbgfhlhpinkeaa
