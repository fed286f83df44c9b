import Derived.Test.YtmlcbikljlhhkaaGg
import Derived.Test.YtmlcbikljlhhkaaTernC
import Derived.Test.YtmlcbikljlhhkaaGa
namespace Go.Proofs.Ytmlcbikljlhhkaa
open Go.RowKit
set_option maxRecDepth 100000
/-! Rows of inputs; ternary values of bits. -/
theorem all_dropG' {α : Type} {p : α → Bool} {l : List α} {k : Nat} {x : α} (h : l[k]? = some x) : (l.drop k).all p = (p x && (l.drop (k + 1)).all p) := by
  obtain ⟨hk, rfl⟩ := List.getElem?_eq_some_iff.1 h
  rw [List.drop_eq_getElem_cons hk, List.all_cons]
namespace Cir
def rowOk (i : Int) (r : List Bool) : Bool := decide ((r.length : Int) = i)
def rowsOk (c : Cz) (rss : List (List Bool)) : Bool := valid c && (decide (rss.length ≤ 40) && rss.all (rowOk c.ins))
def terns (r : List Bool) : List Nat := r.map Bool.toNat
theorem terns_length (r : List Bool) : (terns r).length = r.length := List.length_map _
theorem terns_le (r : List Bool) : ∀ x ∈ terns r, x ≤ 2 := fun x hx => by
  obtain ⟨b, _, rfl⟩ := List.mem_map.1 hx
  cases b <;> simp
theorem terns_snoc {r : List Bool} {k : Nat} {b : Bool} (h : r[k]? = some b) : terns (r.take (k + 1)) = terns (r.take k) ++ [b.toNat] := by
  unfold terns
  rw [take_snoc h, List.map_append]
  rfl
end Cir
set_option maxHeartbeats 4000000 in
theorem rowsFit_any (g : Nat) (c : Cz) (v : Value) (rss : List (List Bool)) (w : World) (h : PCirc w g c) (hr : SSAt bools w v rss) :
    Calls Try.prog 82 #[.pointer (some ⟨g, 0, none⟩), v] w fun e w' => e = .returned (.bool (Cir.rowsOk c rss)) ∧ Below w.heap.size w w' := by
  obtain ⟨A, cp, rfl, hcp, hcpm⟩ := hr.shape
  unfold maxLen at hcpm
  have HR := Lib.hid hr
  obtain ⟨vn, vg, vo, hg, c0, c1, c2, c3, r1, r2, r3⟩ := h
  have HV := Lib.hid (implValid_any _ c w ⟨vn, vg, vo, rfl, r1, r2, r3⟩)
  have C0 := Lib.hid c0
  clear hr r1 r2 r3
  cases hv : Cir.valid c
  · rw [hv] at HV
    have hR : Cir.rowsOk c rss = false := by unfold Cir.rowsOk; rw [hv]; rfl
    rw [hR]
    clear hv hR
    go_enter Try.func82, Try.ntmps82
    go_wp2_with fail
    refine HV.out.mono ?_
    rintro e w1 ⟨rfl, hb1⟩
    have B := Lib.hid hb1
    clear hb1
    go_wp2_with fail
    go_ret
    exact ⟨rfl, B.out⟩
  · rw [hv] at HV
    by_cases hl : (40 : Int) < rss.length
    · have hR : Cir.rowsOk c rss = false := by unfold Cir.rowsOk; rw [hv, decide_eq_false (by omega)]; rfl
      rw [hR]
      clear hv hR
      go_enter Try.func82, Try.ntmps82
      go_wp2_with fail
      refine HV.out.mono ?_
      rintro e w1 ⟨rfl, hb1⟩
      have B := Lib.hid hb1
      clear hb1
      go_wp2_with fail
      go_ret
      exact ⟨rfl, B.out⟩
    · have h0 : Hid (Cir.rowsOk c rss = (rss.drop 0).all (Cir.rowOk c.ins)) := Lib.hid (by unfold Cir.rowsOk; rw [hv, decide_eq_true (by omega)]; rfl)
      generalize Cir.rowsOk c rss = res at *
      clear hv
      go_enter Try.func82, Try.ntmps82
      go_wp2_with fail
      refine HV.out.mono ?_
      rintro e w1 ⟨rfl, hb1⟩
      have B := Lib.hid hb1
      have HR1 := Lib.hid (HR.out.below hb1)
      have q0 := (hb1.cell (p := ⟨g, 0, none⟩) hg).trans C0.out
      clear hb1 c0 c1 c2 c3 HV HR
      go_wp2_with fail
      go_loop [19] (fun i => ∃ k : Nat, k ≤ rss.length ∧ i = .int .i64 k ∧ Hid (res = (rss.drop k).all (Cir.rowOk c.ins))) (fun i => rss.length - (intOf i).toNat)
      case atStart => exact ⟨0, Nat.zero_le _, rfl, h0⟩
      case round =>
        obtain ⟨k, hk, rfl, hres⟩ := hrel
        clear h0
        by_cases hlt : k < rss.length
        · obtain ⟨x, hx⟩ := at_some hlt
          obtain ⟨b, o, Bx, m, rfl, hbl, hc1, hm1, hm2, hrx⟩ := ss_open HR1.out (Below.refl _ _) hx
          have Hs := Lib.hid (all_dropG' (p := Cir.rowOk c.ins) hx)
          unfold maxLen at hm2
          clear hrx hx
          by_cases hle : (x.length : Int) = c.ins
          · have hq : ((x.length : Int) != c.ins) = false := by rw [hle]; simp
            have Hn : Hid (res = (rss.drop (k + 1)).all (Cir.rowOk c.ins)) := Lib.hid (by rw [hres.out, Hs.out, show Cir.rowOk c.ins x = true from decide_eq_true hle]; rfl)
            clear hle
            go_wp2_with fail
            go_round
            case rel => exact ⟨k + 1, by omega, by go_num, Hn⟩
            case measure => simp [intOf] <;> omega
          · have hq : ((x.length : Int) != c.ins) = true := by simpa using hle
            obtain rfl : res = false := by rw [hres.out, Hs.out, show Cir.rowOk c.ins x = false from decide_eq_false hle]; rfl
            clear hle
            go_wp2_with fail
            go_ret
            exact ⟨rfl, B.out⟩
        · obtain rfl : res = true := by rw [hres.out, List.drop_eq_nil_of_le (by omega : rss.length ≤ k)]; rfl
          go_wp2_with fail
          go_ret
          exact ⟨rfl, B.out⟩
theorem l2Inputs_any (v : Value) (i : Int) (rss : List (List Bool)) (w : World) (hr : SSAt bools w v rss) :
    Calls Try.prog 78 #[v, .int .i64 i] w fun e w' => e = .returned (.bool (decide (rss.length ≤ 40) && rss.all (Cir.rowOk i))) ∧ w = w' := by
  obtain ⟨A, cp, rfl, hcp, hcpm⟩ := hr.shape
  unfold maxLen at hcpm
  have HR := Lib.hid hr
  clear hr
  have h0 : Hid ((decide (rss.length ≤ 40) && rss.all (Cir.rowOk i)) = (decide (rss.length ≤ 40) && (rss.drop 0).all (Cir.rowOk i))) := Lib.hid rfl
  generalize (decide (rss.length ≤ 40) && rss.all (Cir.rowOk i)) = res at h0 ⊢
  go_enter Try.func78, Try.ntmps78
  go_wp2_with fail
  go_loop [5] (fun t => ∃ k : Nat, k ≤ rss.length ∧ t = .int .i64 k ∧ Hid (res = (decide (rss.length ≤ 40) && (rss.drop k).all (Cir.rowOk i)))) (fun t => rss.length - (intOf t).toNat)
  case atStart => exact ⟨0, Nat.zero_le _, rfl, h0⟩
  case round =>
    obtain ⟨k, hk, rfl, hres⟩ := hrel
    clear h0
    by_cases hlt : k < rss.length
    · obtain ⟨x, hx⟩ := at_some hlt
      obtain ⟨b, o, Bx, m, rfl, hbl, hc1, hm1, hm2, hrx⟩ := ss_open HR.out (Below.refl _ _) hx
      have Hs := Lib.hid (all_dropG' (p := Cir.rowOk i) hx)
      unfold maxLen at hm2
      clear hrx hx
      by_cases hle : (x.length : Int) = i
      · have hq : ((x.length : Int) != i) = false := by rw [hle]; simp
        have Hn : Hid (res = (decide (rss.length ≤ 40) && (rss.drop (k + 1)).all (Cir.rowOk i))) := Lib.hid (by rw [hres.out, Hs.out, show Cir.rowOk i x = true from decide_eq_true hle, Bool.true_and])
        clear hle
        go_wp2_with fail
        go_round
        case rel => exact ⟨k + 1, by omega, by go_num, Hn⟩
        case measure => simp [intOf] <;> omega
      · have hq : ((x.length : Int) != i) = true := by simpa using hle
        obtain rfl : res = false := by rw [hres.out, Hs.out, show Cir.rowOk i x = false from decide_eq_false hle]; simp
        clear hle
        go_wp2_with fail
        go_ret
        exact ⟨rfl, rfl⟩
    · have hr : Hid (res = decide (rss.length ≤ 40)) := Lib.hid (by rw [hres.out, List.drop_eq_nil_of_le (by omega : rss.length ≤ k)]; simp)
      by_cases h40 : (rss.length : Int) ≤ 40
      · go_wp2_with fail
        go_ret
        exact ⟨ret_bool (by rw [hr.out]; simp; omega), rfl⟩
      · go_wp2_with fail
        go_ret
        exact ⟨ret_bool (by rw [hr.out]; simp; omega), rfl⟩
theorem ternaryOf_any (v : Value) (xs : List Bool) (w : World) (h : BoolsAt w v xs) (hx : xs.length ≤ 1000) :
    Calls Try.prog 83 #[v] w (OwnInts (nats (Cir.terns xs)) w) := by
  obtain ⟨A, c, rfl, hc, hcm⟩ := Row.shape h
  have hmk := run_make_cap (P := Try.prog) 22 3 (.int .i64 0) 1 8 Try.underlying22 info_int .i64 .i64 xs.length (by omega) (by omega)
  simp only [Value.cells, Nat.mul_one] at hmk
  have H := Lib.hid h
  clear h
  go_enter Try.func83, Try.ntmps83
  go_wp2_with fail
  have hown0 := World.ownsRow_made (base := w.heap.size) (e := 3) (size := 1) w (madeCells #[Value.int .i64 0] xs.length) xs.length (Nat.le_refl _) (by unfold maxLen; omega) (by simp [madeCells])
  have hb0 : Below w.heap.size w (w.alloc (.cells (madeCells #[Value.int .i64 0] xs.length) 3)) := bel_new _ _
  clear hmk
  go_loopw [3, 12] (fun v i wr => ∃ (vv : Value) (k : Nat), vv = v ∧ k ≤ xs.length ∧ i = .int .i64 k ∧ Hid (wr.ownsRow w.heap.size 3 1 v k (nints (Cir.terns (xs.take k)))) ∧ Below w.heap.size w wr) (fun _ i _ => xs.length - (intOf i).toNat)
  case atStart => exact ⟨_, 0, rfl, Nat.zero_le _, rfl, Lib.hid hown0, hb0⟩
  case round =>
    obtain ⟨vv, k, hvv, hk, rfl, Ho, hb⟩ := hrel
    subst hvv
    clear hown0 hb0
    by_cases hlt : k < xs.length
    · have hz := hb.size
      have Hb := Lib.hid hb
      obtain ⟨b, o, u, rfl, hbl, hx0, hs0⟩ := bools_open H.out hb rfl hlt
      have HS : Hid (nints (Cir.terns (xs.take (k + 1))) = nints (Cir.terns (xs.take k)) ++ [.int .i64 (u.toNat : Nat)]) := Lib.hid (by rw [Cir.terns_snoc hx0.out, nints_snoc])
      clear hb
      cases u
      all_goals
        have Hlit := fun i : Int => Lib.hid (Row.of_own (World.ownsRow_lit (base := wr.heap.size) (e := 3) (size := 1) wr #[.int .i64 i] 1 (Nat.le_refl _) (by unfold maxLen; omega) rfl))
        go_wp2_with (at_builtin; refine append_ints rfl (.tmp 17) (.tmp 19) rfl w.heap.size _ k _ rfl (Ho.out.alloc _) _ 1 [.int .i64 _] rfl (Hlit _).out (by simp [Value.oneCell']) (by omega) (by simp; omega) ?_; intro v7 w7 hown7 hg7 hat7; have Ho7 := Lib.hid hown7; have Hg7 := Lib.hid hg7; clear hown7 hg7 hat7)
        go_roundw
        case rel => exact ⟨_, k + 1, rfl, by omega, by go_num, Lib.hid (by rw [HS.out]; exact Ho7.out), (Hb.out.alloc hz _).grown Hg7.out (Hb.out.alloc hz _).size (own_ge0 Ho.out)⟩
        case measure => simp [intOf] <;> omega
    · obtain rfl : k = xs.length := by omega
      go_wp2_with fail
      go_ret
      exact ⟨_, rfl, by rw [nats_length, Cir.terns_length]; have := Ho.out; rwa [List.take_length] at this, hb⟩
theorem l9Bit_any (b : Bool) (w : World) : Calls Try.prog 79 #[.bool b] w fun e w' => e = .returned (.int .i64 (b.toNat : Nat)) ∧ w = w' := by
  cases b
  all_goals
    go_enter Try.func79, Try.ntmps79
    go_wp2_with fail
    go_ret
    exact ⟨rfl, rfl⟩
end Go.Proofs.Ytmlcbikljlhhkaa
