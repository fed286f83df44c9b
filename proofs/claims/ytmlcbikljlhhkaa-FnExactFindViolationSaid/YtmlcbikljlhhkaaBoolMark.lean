import Derived.Test.YtmlcbikljlhhkaaGb
namespace Go.Proofs.Ytmlcbikljlhhkaa
open Go.RowKit
set_option maxRecDepth 100000
/-! Marks in slices of booleans, and in slices of these. -/
def mk3 (k : Nat) : Bool := k % 3 == 0
def runB (k m : Nat) : List Value := (List.range m).map fun i => Value.bool (mk3 (k + i))
theorem runB_length (k m : Nat) : (runB k m).length = m := by simp [runB]
theorem runB_get {k m i : Nat} (h : i < m) : (runB k m)[i]? = some (.bool (mk3 (k + i))) := by simp [runB, h]
def runsB (k : Nat) : List Nat → List (List Value)
  | [] => []
  | n :: ns => runB k n :: runsB (k + n) ns
theorem runsB_length : ∀ (k : Nat) (ns : List Nat), (runsB k ns).length = ns.length
  | _, [] => rfl
  | k, n :: ns => by rw [runsB, List.length_cons, runsB_length, List.length_cons]
theorem runsB_get : ∀ {k : Nat} {ns : List Nat} {i n : Nat}, ns[i]? = some n → (runsB k ns)[i]? = some (runB (k + (ns.take i).sum) n)
  | k, [], i, n, h => by simp at h
  | k, m :: ns, 0, n, h => by
    have : m = n := by simpa using h
    subst this
    simp [runsB]
  | k, m :: ns, i + 1, n, h => by
    have := runsB_get (k := k + m) (ns := ns) (i := i) (n := n) (by simpa using h)
    rw [runsB, List.getElem?_cons_succ, this, List.take_succ_cons, List.sum_cons, Nat.add_assoc]
theorem runsB_take (k : Nat) : ∀ (ns : List Nat) (j : Nat), runsB k (ns.take j) = (runsB k ns).take j := by
  intro ns
  induction ns generalizing k with
  | nil => intro j; simp [runsB]
  | cons n ns ih =>
    intro j
    cases j with
    | zero => simp [runsB]
    | succ j => simp [runsB, ih]
theorem runsB_set {rows : List (List Value)} {k j n : Nat} {ns : List Nat} (hl : rows.length = ns.length) (hj : ns[j]? = some n) : (runsB k (ns.take j) ++ rows.drop j).set j (runB (k + (ns.take j).sum) n) = runsB k (ns.take (j + 1)) ++ rows.drop (j + 1) := by
  obtain ⟨hlt, rfl⟩ := List.getElem?_eq_some_iff.1 hj
  have e1 : (runsB k (ns.take j)).length = j := by rw [runsB_length, List.length_take]; omega
  rw [List.set_append_right _ _ (by omega), e1, Nat.sub_self, List.drop_eq_getElem_cons (by omega), List.set_cons_zero, runsB_take k ns (j + 1), List.take_add_one, ← runsB_take, runsB_get hj]
  simp
theorem tmod_three (y : Nat) : (y : Int).tmod 3 = ((y % 3 : Nat) : Int) := by
  rw [Int.tmod_eq_emod_of_nonneg (by omega)]
  rfl
theorem mk3_eq (y : Nat) : (((y % 3 : Nat) : Int) == 0) = mk3 y := by
  unfold mk3
  rw [Bool.eq_iff_iff, beq_iff_eq, beq_iff_eq]
  omega
def MarkedBools (B : Nat) (v : Value) (n k : Nat) (w : World) (e : Ending) (w' : World) : Prop :=
  e = .returned (.int .i64 ((k + n : Nat) : Int)) ∧ w'.ownsRow B 4 1 v n (runB k n) ∧ w.grownBy w' v.ownBlock
theorem markBoolS_any (B : Nat) (v : Value) (n k : Nat) (cs : List Value) (w : World) (h : w.ownsRow B 4 1 v n cs) (hn : n ≤ 1048576) (hk : k ≤ 100000000) :
    Calls Try.prog 139 #[v, .int .i64 k] w (MarkedBools B v n k w) := by
  obtain ⟨A, c, hv, hc, hcm⟩ := (Row.of_own h).shape
  subst hv
  have H := Lib.hid h
  clear h
  go_enter Try.func139, Try.ntmps139
  go_wp2_with fail
  go_loopw [1, 5] (fun q i wr => ∃ (j : Nat) (ds : List Value), j ≤ n ∧ i = .int .i64 j ∧ q = .int .i64 ((k + j : Nat) : Int) ∧ wr.ownsRow B 4 1 (.slice A n c) n ds ∧ ds.take j = (runB k n).take j ∧ w.grownBy wr (Value.slice A n c).ownBlock) (fun _ i _ => n - (intOf i).toNat)
  case atStart => exact ⟨0, cs, Nat.zero_le _, rfl, rfl, H.out, rfl, World.grownBy.refl w _⟩
  case round =>
    obtain ⟨j, ds, hj, rfl, rfl, hown, htk, hg⟩ := hrel
    by_cases hlt : j < n
    · obtain ⟨g, c', hv, _, hgl, _⟩ := own_open hown (by omega)
      injection hv with hA _ hcc
      subst hA hcc
      have hl := hown.1
      obtain ⟨u0, _, hd0, hf0⟩ := own_slot hown (j := j) (by omega)
      have e1 := tmod_three (k + j)
      have e2 := mk3_eq (k + j)
      have s1 := Lib.hid (hown.stored j (.bool (mk3 (k + j))))
      have t1 := Lib.hid (take_set_succ (by omega) htk (runB_get hlt))
      have G := Lib.hid hg
      obtain ⟨q, hq⟩ : ∃ q, k + j = q := ⟨_, rfl⟩
      have Hq := Lib.hid hq
      have hqb : q ≤ 200000000 := by omega
      rw [hq] at s1 t1 e1 e2 ⊢
      clear hown htk hl hg H hq
      generalize mk3 q = bq at *
      generalize q % 3 = r3 at *
      go_wp2_with fail
      go_roundw
      case rel => exact ⟨j + 1, _, by omega, by go_num, by have := Hq.out; rw [show k + (j + 1) = q + 1 from by omega]; go_num, s1.out.1, t1.out, grownBy_comp G.out s1.out.2⟩
      case measure => simp [intOf]; omega
    · obtain rfl : j = n := by omega
      go_wp2
      go_ret
      refine ⟨rfl, ?_, hg⟩
      rw [List.take_of_length_le (by have := hown.1; omega), List.take_of_length_le (by rw [runB_length]; exact Nat.le_refl _)] at htk
      rw [← htk]
      exact hown
theorem heldBoolS_any (v : Value) (n k : Nat) (w : World) (h : Row w 1 v n (runB k n)) (hn : n ≤ 1048576) (hk : k ≤ 100000000) :
    Calls Try.prog 140 #[v, .int .i64 k] w fun e w' => e = .returned (.int .i64 ((k + n : Nat) : Int)) ∧ w = w' := by
  obtain ⟨A, c, hv, hc, hcm⟩ := h.shape
  subst hv
  go_enter Try.func140, Try.ntmps140
  go_wp2_with fail
  go_loop [1, 5] (fun q i => ∃ (j : Nat), j ≤ n ∧ i = .int .i64 j ∧ q = .int .i64 ((k + j : Nat) : Int)) (fun _ i => n - (intOf i).toNat)
  case atStart => exact ⟨0, Nat.zero_le _, rfl, rfl⟩
  case round =>
    obtain ⟨j, hj, rfl, rfl⟩ := hrel
    by_cases hlt : j < n
    · obtain ⟨b, o, c', hv, _, _, hbl, hcell⟩ := h.open (by omega)
      injection hv with hA _ hcc
      subst hA hcc
      have c0 := hcell j _ (runB_get (by omega))
      have e1 := tmod_three (k + j)
      have e2 := mk3_eq (k + j)
      obtain ⟨q, hq⟩ : ∃ q, k + j = q := ⟨_, rfl⟩
      have Hq := Lib.hid hq
      have hqb : q ≤ 200000000 := by omega
      rw [hq] at c0 e1 e2 ⊢
      clear hcell h hq
      generalize mk3 q = bq at *
      generalize q % 3 = r3 at *
      have hne : (bq != bq) = false := by simp
      go_wp2_with fail
      go_round
      case rel => exact ⟨j + 1, by omega, by go_num, by have := Hq.out; rw [show k + (j + 1) = q + 1 from by omega]; go_num⟩
      case measure => simp [intOf]; omega
    · obtain rfl : j = n := by omega
      go_wp2
      go_ret
      exact ⟨rfl, rfl⟩
def OwnVB (B : Nat) (E : Nat → Prop) (w : World) (v : Value) (rows : List (List Value)) : Prop := OwnSE id 78 4 B E w v rows
def MarkedBSS (B : Nat) (E : Nat → Prop) (v : Value) (ns : List Nat) (k : Nat) (w : World) (e : Ending) (w' : World) : Prop :=
    e = .returned (.int .i64 ((k + ns.sum : Nat) : Int)) ∧ OwnVB B E w' v (runsB k ns) ∧ Only (fun g => B ≤ g ∧ E g) w w'
theorem markBoolSS_any (B : Nat) (E : Nat → Prop) (v : Value) (k : Nat) (rows : List (List Value)) (ns : List Nat) (w : World) (h : OwnVB B E w v rows) (hns : rows.map List.length = ns) (hl : ns.length ≤ 1048576) (hn : ns.sum ≤ 1048576) (hk : k ≤ 10000000) :
    Calls Try.prog 104 #[v, .int .i64 k] w (MarkedBSS B E v ns k w) := by
  have hrl : rows.length = ns.length := by rw [← hns, List.length_map]
  have hsh : ∃ A c, v = .slice A ns.length c := by
    obtain ⟨A, c, hv, _⟩ := (OwnSE.at h).shape
    exact ⟨A, c, by rw [← hrl]; exact hv⟩
  obtain ⟨A, c, hv⟩ := hsh
  subst hv
  have H := Lib.hid h
  have Hns := Lib.hid hns
  have Hrl := Lib.hid hrl
  clear h hns hrl
  go_enter Try.func104, Try.ntmps104
  go_wp2_with fail
  go_loopw [1, 5] (fun q i wr => ∃ j : Nat, j ≤ ns.length ∧ i = .int .i64 j ∧ q = .int .i64 ((k + (ns.take j).sum : Nat) : Int) ∧ Hid (OwnVB B E wr (.slice A ns.length c) (runsB k (ns.take j) ++ rows.drop j)) ∧ Only (fun g => B ≤ g ∧ E g) w wr) (fun _ i _ => ns.length - (intOf i).toNat)
  case atStart => exact ⟨0, Nat.zero_le _, rfl, by simp, H, Only.refl _ _⟩
  case round =>
    obtain ⟨j, hj, rfl, rfl, Ho, hon⟩ := hrel
    clear H
    by_cases hlt : j < ns.length
    · obtain ⟨n, hnj⟩ := at_some hlt
      obtain ⟨r, hr, hrn⟩ := lens_get Hns.out hnj
      obtain ⟨vs, q1, q2, q3, q4, q5, q6, q7⟩ := Ho.out
      have hlenR : (runsB k (ns.take j) ++ rows.drop j).length = ns.length := by
        rw [List.length_append, runsB_length, List.length_take, List.length_drop, Hrl.out]; omega
      have hrj : (runsB k (ns.take j) ++ rows.drop j)[j]? = some r := by
        rw [List.getElem?_append_right (by rw [runsB_length, List.length_take]; omega), runsB_length, List.length_take, List.getElem?_drop, show j + (j - min j ns.length) = j from by omega]
        exact hr
      obtain ⟨u, hu⟩ : ∃ u, vs[j]? = some u := ⟨vs[j]'(by omega), List.getElem?_eq_getElem _⟩
      have hown := q3 j r u hrj hu
      rw [hrn] at hown
      have hS := Lib.hid (runsB_set (k := k) (rows := rows) Hrl.out hnj)
      have hT := Lib.hid (sum_take_succ hnj)
      have hsl := sum_take_le ns j
      have hsl2 := sum_take_le ns (j + 1)
      have hTT := hT.out
      have hQ := Lib.hid q2
      obtain ⟨b, o, c', hv, _, _, hbl, hcell⟩ := (Row.of_own q2).open (by omega)
      rw [hlenR] at hv
      injection hv with hA _ hcc
      subst hA hcc
      have hc0 := hcell j u hu
      obtain ⟨Au, cu, hvu, hcu, hcmu⟩ := (Row.of_own hown).shape
      subst hvu
      have Hown := Lib.hid hown
      have Hon := Lib.hid hon
      have HU := Lib.hid (fun (w' : World) (x' : List Value) (hg : wr.grownBy w' (Value.slice Au n cu).ownBlock) (hx : w'.ownsRow B 4 1 (.slice Au n cu) x'.length (id x')) => OwnSE.update (enc := id) q1 q2 q3 q4 q5 q6 q7 hu hg hx)
      have HE : Hid (∀ g, (Value.slice Au n cu).ownBlock = some g → B ≤ g ∧ E g) := Lib.hid fun g hg => ⟨(hown.lt g hg).1, q7 _ (List.mem_of_getElem? hu) g hg⟩
      generalize (ns.take j).sum = s at *
      clear hcell hown hon q1 q2 q3 q4 q5 q6 q7 hu hr hrn hrj hlenR hnj hTT
      go_wp2_with fail
      refine (markBoolS_any B _ n (k + s) _ _ Hown.out (by have := hT.out; omega) (by omega)).mono ?_
      rintro e w2 ⟨rfl, hown2, hg2⟩
      have Hown2 := Lib.hid hown2
      have Hg2 := Lib.hid hg2
      clear hown2 hg2
      go_wp2_with fail
      go_roundw
      case rel =>
        refine ⟨j + 1, by omega, by go_num, by have := hT.out; go_num, Lib.hid ?_, Hon.out.trans (Only.grown Hg2.out HE.out)⟩
        rw [← hS.out]
        exact HU.out w2 (runB (k + s) n) Hg2.out (by rw [runB_length]; exact Hown2.out)
      case measure => simp [intOf] <;> omega
    · obtain rfl : j = ns.length := by omega
      go_wp2_with fail
      go_ret
      refine ⟨ret_int (by rw [List.take_length]), ?_, hon⟩
      have := Ho.out
      rwa [List.take_length, List.drop_eq_nil_of_le (by rw [Hrl.out]; exact Nat.le_refl _), List.append_nil] at this
theorem heldBoolSS_any (v : Value) (k : Nat) (ns : List Nat) (w : World) (h : SSAt id w v (runsB k ns)) (hl : ns.length ≤ 1048576) (hn : ns.sum ≤ 1048576) (hk : k ≤ 10000000) :
    Calls Try.prog 105 #[v, .int .i64 k] w fun e w' => e = .returned (.int .i64 ((k + ns.sum : Nat) : Int)) ∧ w = w' := by
  have hsh : ∃ A c, v = .slice A ns.length c := by
    obtain ⟨A, c, hv, _⟩ := h.shape
    exact ⟨A, c, by rw [← runsB_length k ns]; exact hv⟩
  obtain ⟨A, c, hv⟩ := hsh
  subst hv
  have H := Lib.hid h
  clear h
  go_enter Try.func105, Try.ntmps105
  go_wp2_with fail
  go_loop [1, 5] (fun q i => ∃ j : Nat, j ≤ ns.length ∧ i = .int .i64 j ∧ q = .int .i64 ((k + (ns.take j).sum : Nat) : Int)) (fun _ i => ns.length - (intOf i).toNat)
  case atStart => exact ⟨0, Nat.zero_le _, rfl, by simp⟩
  case round =>
    obtain ⟨j, hj, rfl, rfl⟩ := hrel
    by_cases hlt : j < ns.length
    · obtain ⟨n, hnj⟩ := at_some hlt
      obtain ⟨b, o, Bx, m, rfl, hbl, hc1, hm1, hm2, hr⟩ := ss_open H.out (Below.refl _ _) (runsB_get hnj)
      rw [runB_length] at hc1 hm1 hr
      have Hr := Lib.hid hr
      have hT := Lib.hid (sum_take_succ hnj)
      have hsl := sum_take_le ns j
      have hsl2 := sum_take_le ns (j + 1)
      generalize (ns.take j).sum = s at *
      clear hr hnj
      go_wp2_with fail
      refine (heldBoolS_any _ n (k + s) _ Hr.out (by have := hT.out; omega) (by omega)).mono ?_
      rintro e w' ⟨rfl, rfl⟩
      have hpos : ¬ (((k + s + n : Nat) : Int) < 0) := by omega
      go_wp2_with fail
      go_round
      case rel => exact ⟨j + 1, by omega, by go_num, by have := hT.out; go_num⟩
      case measure => simp [intOf] <;> omega
    · obtain rfl : j = ns.length := by omega
      go_wp2_with fail
      go_ret
      exact ⟨ret_int (by simp), rfl⟩
end Go.Proofs.Ytmlcbikljlhhkaa
