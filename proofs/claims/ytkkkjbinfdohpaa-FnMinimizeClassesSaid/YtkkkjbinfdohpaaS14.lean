import Derived.Test.YtkkkjbinfdohpaaS13
import Derived.Test.YtkkkjbinfdohpaaS04
import Derived.Test.YtkkkjbinfdohpaaS07
import Derived.Test.YtkkkjbinfdohpaaS01
import Derived.Test.YtkkkjbinfdohpaaS03
import Derived.Test.YtkkkjbinfdohpaaProg
import Derived.RegionTactic
set_option linter.unusedVariables false
set_option linter.unusedSimpArgs false
set_option maxRecDepth 100000
set_option maxHeartbeats 16000000
namespace Go.Proofs.Ytkkkjbinfdohpaa
open Go.RowKit
namespace Mac
def Seek (key : Nat → Nat × List Int × List Nat) (n s T kk : Nat) : Prop :=
  ∃ t0, T ≤ t0 ∧ t0 ≤ s ∧ (t0 = s ∧ kk = s ∨ t0 < s ∧ key s = key t0 ∧ kk = cg (mkK key n) t0) ∧ ∀ t, T ≤ t → t < t0 → key s ≠ key t
theorem Seek.start (key : Nat → Nat × List Int × List Nat) (n s : Nat) : Seek key n s s s := ⟨s, Nat.le_refl _, Nat.le_refl _, .inl ⟨rfl, rfl⟩, fun t h1 h2 => by omega⟩
theorem Seek.no {key : Nat → Nat × List Int × List Nat} {n s t kk : Nat} (h : Seek key n s (t + 1) kk) (hk : key s ≠ key t) : Seek key n s t kk := by
 obtain ⟨t0, h1, h2, h3, h4⟩ := h
 refine ⟨t0, by omega, h2, h3, fun t' h5 h6 => ?_⟩
 by_cases e : t' = t
 ·subst e; exact hk
 ·exact h4 t' (by omega) h6
theorem Seek.yes {key : Nat → Nat × List Int × List Nat} {n s t kk : Nat} (h : Seek key n s (t + 1) kk) (hk : key s = key t) : Seek key n s t (cg (mkK key n) t) := by
 obtain ⟨t0, h1, h2, -⟩ := h
 exact ⟨t, Nat.le_refl _, by omega, .inr ⟨by omega, hk, rfl⟩, fun t' h5 h6 => by omega⟩
theorem Seek.done {key : Nat → Nat × List Int × List Nat} {n s kk : Nat} (h : Seek key n s 0 kk) (hs : s < n) : kk = cg (mkK key n) s := by
 obtain ⟨t0, -, h2, h3, h4⟩ := h
 obtain ⟨f1, f2, f3⟩ := mkK_facts key hs
 rcases h3 with ⟨rfl, rfl⟩ | ⟨h3, h5, rfl⟩
 ·rcases Nat.lt_or_ge (cg (mkK key n) kk) kk with hl | hl
  ·exact absurd f2.symm (h4 _ (Nat.zero_le _) hl)
  ·omega
 ·exact (mkK_iff key (by omega) hs).2 h5.symm
end Mac
theorem l29Classes_any (v : Value) (m : Mz) (w : World) (h : MachAt w v m) (hv : Mac.valid m = true) :
  Calls Try.prog 72 #[v] w (OwnInts (nats (Mac.classS m.next m.out)) w) := by
 have HC := Lib.hid h
 obtain ⟨An, cn, Ao, co, rfl, hcnm, hcom, hcn1, hco1⟩ := h.shape
 unfold maxLen at hcnm hcom
 obtain ⟨s1, s2, s3, s4, s5⟩ := Mac.valid_sizes hv
 have hb0 := bel_new w (.cells #[.int .i64 m.ins, .slice An m.next.length cn, .slice Ao m.out.length co] 53)
 have hmc := MCells.boxed w m.ins (.slice An m.next.length cn) (.slice Ao m.out.length co) 53
 have hmk := run_make_row' (P := Try.prog) 23 3 (.int .i64 0) 8 Try.underlying23 info_int rfl .i64 .i64 m.next.length (by omega) (by omega)
 have hHCb := HC.out.below hb0
 obtain ⟨W0, hW0⟩ : ∃ W0, w.alloc (.cells #[.int .i64 m.ins, .slice An m.next.length cn, .slice Ao m.out.length co] 53) = W0 := ⟨_, rfl⟩
 have hsW : W0.heap.size = w.heap.size + 1 := by rw [← hW0]; simp
 rw [hW0] at hb0 hmc hHCb
 have hbm := bel_new W0 (.cells (madeCells #[Value.int .i64 0] m.next.length) 3)
 have hown0 : Hid ((W0.alloc (.cells (madeCells #[Value.int .i64 0] m.next.length) 3)).ownsRow w.heap.size 3 1 (.slice (some ⟨W0.heap.size, 0, none⟩) m.next.length m.next.length) m.next.length (nints (Mac.seqS m.next m.out 0))) := Lib.hid (by
  have := World.ownsRow_lit (base := w.heap.size) (e := 3) (size := 1) W0 (madeCells #[Value.int .i64 0] m.next.length) m.next.length (by omega) (by unfold maxLen; omega) (by simp [madeCells])
  rw [made_one] at this ⊢
  unfold Mac.seqS
  rw [nints_rep]
  simpa using this)
 have B1 := Lib.hid (hb0.trans (hbm.mono hb0.size))
 have PC0 := Lib.hid hmc
 have PC1 := Lib.hid (hmc.below hbm)
 have HC1 := Lib.hid (hHCb.below hbm)
 have Hv := Lib.hid hv
 have hs1 : (W0.alloc (.cells (madeCells #[Value.int .i64 0] m.next.length) 3)).heap.size = W0.heap.size + 1 := by simp
 obtain ⟨z, p0, p1, p2⟩ := PC0.out
 clear h hv hb0 hmc hHCb hbm s1 s2 s5 HC
 go_enter Try.func72, Try.ntmps72
 go_wp2_with fail
 clear hmk z p0 p1 p2
 rw [hsW] at hown0
 generalize W0.alloc (.cells (madeCells #[Value.int .i64 0] m.next.length) 3) = W1 at *
 have hW1w : w.heap.size < W1.heap.size := by omega
 clear hW0 hsW hs1 PC0
 go_loopw [3, 4] (fun vc i wr => ∃ (vv : Value) (r : Nat), vv = vc ∧ i = .int .i64 r ∧ r ≤ m.next.length + 1 ∧ Hid (wr.ownsRow w.heap.size 3 1 vc m.next.length (nints (Mac.seqS m.next m.out r))) ∧ Hid (Below W1.heap.size W1 wr)) (fun _ i _ => m.next.length + 1 - (intOf i).toNat)
 case atStart => exact ⟨_, 0, rfl, rfl, Nat.zero_le _, hown0, Lib.hid (Below.refl _ _)⟩
 case round =>
  obtain ⟨vv, r, hvv, rfl, hr, Hc, Hb⟩ := hrel
  subst hvv
  clear hown0
  have hzb := Hb.out.size
  have hlr := (Mac.seqS_cl m.next m.out r).len
  have hlr1 := (Mac.seqS_cl m.next m.out (r + 1)).len
  have Hlr := Lib.hid hlr
  have Hlr1 := Lib.hid hlr1
  clear hlr hlr1
  obtain ⟨gC, cC, hvC, hgC, hgC2, hcC, hcCm⟩ := own_open Hc.out (by omega)
  subst hvC
  unfold maxLen at hcCm
  obtain ⟨z, p0, p1, p2⟩ := PC1.out.below Hb.out
  by_cases hlt : r ≤ m.next.length
  ·have hdr : decide ((r : Int) ≤ (m.next.length : Int)) = true := decide_eq_true (by omega)
   have hdr2 : decide (r ≤ m.next.length) = true := decide_eq_true hlt
   have hbl := bel_new wr (.cells #[] 3)
   have HX0 : Hid ((wr.alloc (.cells #[] 3)).ownsRow wr.heap.size 3 1 (.slice (some ⟨wr.heap.size, 0, none⟩) 0 0) 0 (nints ((Mac.seqS m.next m.out (r + 1)).take 0))) := Lib.hid (World.ownsRow_lit (base := wr.heap.size) (e := 3) (size := 1) wr #[] 0 (Nat.le_refl _) (by unfold maxLen; omega) rfl)
   have Hbl := Lib.hid hbl
   clear hbl
   go_wp2_with fail
   obtain ⟨Wk, hWk⟩ : ∃ Wk, Wk = wr := ⟨_, rfl⟩
   subst hWk
   clear p0 p1 p2 z
   go_loopw [5, 6] (fun vx i wi => ∃ (vv : Value) (s : Nat), vv = vx ∧ i = .int .i64 s ∧ s ≤ m.next.length ∧ Hid (wi.ownsRow Wk.heap.size 3 1 vx s (nints ((Mac.seqS m.next m.out (r + 1)).take s))) ∧ Hid (Below Wk.heap.size Wk wi)) (fun _ i _ => m.next.length - (intOf i).toNat)
   case atStart => exact ⟨_, 0, rfl, rfl, Nat.zero_le _, HX0, Hbl⟩
   case round =>
    obtain ⟨vx, s, hvx, rfl, hs, Hx, Hbi⟩ := hrel
    subst hvx
    clear HX0 Hbl
    have hzi := Hbi.out.size
    by_cases hls : s < m.next.length
    ·have hds : decide (s < m.next.length) = true := decide_eq_true hls
     have hws := IntWalk.i64_in ((s : Int) - 1) (by omega)
     have HK0 := Lib.hid (Mac.Seek.start (Mac.keyS m.next m.out (Mac.seqS m.next m.out r)) m.next.length s)
     go_wp2_with fail
     obtain ⟨Wi, hWi⟩ : ∃ Wi, Wi = wr := ⟨_, rfl⟩
     subst hWi
     go_loopw [7, 8] (fun vk vt wj => ∃ (kk T : Nat), vk = .int .i64 kk ∧ vt = .int .i64 ((T : Int) - 1) ∧ T ≤ s ∧ kk ≤ 8 ∧ Hid (Mac.Seek (Mac.keyS m.next m.out (Mac.seqS m.next m.out r)) m.next.length s T kk) ∧ Hid (Below Wi.heap.size Wi wj)) (fun _ vt _ => (intOf vt + 1).toNat)
     case atStart => exact ⟨s, s, rfl, rfl, Nat.le_refl _, by omega, HK0, Lib.hid (Below.refl _ _)⟩
     case round =>
      obtain ⟨kk, T, rfl, rfl, hT, hk8, HS, Hbj⟩ := hrel
      clear HK0
      have hzj := Hbj.out.size
      have Hbjk := Lib.hid (Hbi.out.trans (Hbj.out.mono hzi))
      have Hxj := Lib.hid (own_below Hx.out Hbj.out)
      rcases T with _ | t
      ·have e0 : (((0 : Nat) : Int) - 1) = -1 := by omega
       rw [e0]
       have hkk := HS.out.done hls
       have HKK : Hid (nints ((Mac.seqS m.next m.out (r + 1)).take (s + 1)) = nints ((Mac.seqS m.next m.out (r + 1)).take s) ++ [.int .i64 (kk : Int)]) := Lib.hid (by
        have h1 : (Mac.seqS m.next m.out (r + 1))[s]? = some kk := by
         rw [hkk]
         unfold Mac.cg
         have hl := Hlr1.out
         rw [List.getD_eq_getElem?_getD]
         show (Mac.mkK _ _)[s]? = _
         rw [Mac.mkK_get _ hls]
         rfl
        rw [take_snoc h1, nints_snoc])
       have Hlit := Lib.hid (Row.of_own (World.ownsRow_lit (base := wr.heap.size) (e := 3) (size := 1) wr #[.int .i64 kk] 1 (Nat.le_refl _) (by unfold maxLen; omega) rfl))
       clear hkk
       go_wp2_with (at_builtin; refine append_ints rfl (.tmp 43) (.tmp 45) rfl Wk.heap.size _ s _ rfl (Hxj.out.alloc _) _ 1 [.int .i64 kk] rfl Hlit.out (by simp [Value.oneCell']) (by omega) (by simp <;> omega) ?_; intro v7 w7 hown7 hg7 hat7; have Hx7 := Lib.hid hown7; have Hb7 := Lib.hid ((Hbjk.out.alloc (by omega) (.cells #[.int .i64 kk] 3)).grown hg7 (by simp <;> omega) (own_ge0 Hxj.out)); clear hown7 hg7 hat7)
       go_roundw
       case rel => exact ⟨_, s + 1, rfl, by go_num, by omega, Lib.hid (by rw [HKK.out]; exact Hx7.out), Hb7⟩
       case measure => simp [intOf] <;> omega
      ·have e0 : (((t + 1 : Nat) : Int) - 1) = (t : Int) := by omega
       rw [e0]
       have hts : t < m.next.length := by omega
       have hwt := IntWalk.i64_in ((t : Int) - 1) (by omega)
       have hMj := HC1.out.below (Hb.out.trans (Hbjk.out.mono hzb))
       have hCj := own_below Hc.out Hbjk.out
       have hA := l29Alike_any _ (.slice (some ⟨gC, 0, none⟩) m.next.length cC) m (Mac.seqS m.next m.out r) s t wr hMj Hv.out (nats_own hCj Hlr.out) Hlr.out hls hts
       obtain ⟨z, p0, p1, p2⟩ := PC1.out.below (Hb.out.trans (Hbjk.out.mono hzb))
       have htz : (0 : Int) ≤ t := by omega
       by_cases hkey : Mac.keyS m.next m.out (Mac.seqS m.next m.out r) s = Mac.keyS m.next m.out (Mac.seqS m.next m.out r) t
       ·rw [decide_eq_true hkey] at hA
        have HA := Lib.hid hA
        have HN := Lib.hid (HS.out.yes hkey)
        obtain ⟨c1, hc1⟩ : ∃ c1, Mac.cg (Mac.mkK (Mac.keyS m.next m.out (Mac.seqS m.next m.out r)) m.next.length) t = c1 := ⟨_, rfl⟩
        have hc8 : c1 ≤ t := by rw [← hc1]; exact (Mac.mkK_facts _ hts).1
        rw [hc1] at HN
        have HCt : Hid ((nints ((Mac.seqS m.next m.out (r + 1)).take s))[t]? = some (.int .i64 (c1 : Int))) := Lib.hid (by
         unfold nints ints nats
         rw [List.getElem?_map, List.getElem?_map, List.getElem?_take, if_pos (show t < s by omega)]
         show Option.map _ (Option.map _ ((Mac.mkK _ _)[t]?)) = _
         rw [Mac.mkK_get _ hts, ← hc1, Mac.mkK_cg _ hts]
         rfl)
        obtain ⟨gx, cx, hvx, hgx, hgx2, hcx, hcxm⟩ := own_open Hxj.out (by omega)
        subst hvx
        unfold maxLen at hcxm
        have hts2 : decide (t < s) = true := decide_eq_true (by omega)
        clear hA hkey hMj hCj hc1
        go_wp2_with fail
        refine HA.out.mono ?_
        rintro e w' ⟨rfl, hb'⟩
        have Hbj2 := Lib.hid (Hbj.out.trans (hb'.mono hzj))
        obtain ⟨u0, hu0, hcell, -⟩ := own_slot (own_below Hxj.out hb') (j := t) (by omega)
        rw [HCt.out] at hu0
        obtain rfl := Option.some.inj hu0
        clear hb' hu0 p0 p1 p2 z
        go_wp2_with fail
        go_roundw
        case rel => exact ⟨c1, t, rfl, rfl, by omega, by omega, HN, Hbj2⟩
        case measure => simp [intOf] <;> omega
       ·rw [decide_eq_false hkey] at hA
        have HA := Lib.hid hA
        have HN := Lib.hid (HS.out.no hkey)
        clear hA hkey hMj hCj
        go_wp2_with fail
        refine HA.out.mono ?_
        rintro e w' ⟨rfl, hb'⟩
        have Hbj2 := Lib.hid (Hbj.out.trans (hb'.mono hzj))
        clear hb' p0 p1 p2 z
        go_wp2_with fail
        go_roundw
        case rel => exact ⟨kk, t, rfl, rfl, by omega, by omega, HN, Hbj2⟩
        case measure => simp [intOf] <;> omega
    ·obtain rfl : s = m.next.length := by omega
     have hds : decide (m.next.length < m.next.length) = false := decide_eq_false (by omega)
     have HX1 : Hid (wr.ownsRow w.heap.size 3 1 vx m.next.length (nints (Mac.seqS m.next m.out (r + 1)))) := Lib.hid (own_mono (by
      have := Hx.out
      rwa [List.take_of_length_le (by have := Hlr1.out; omega)] at this) (by omega))
     have Hb2 := Lib.hid (Hb.out.trans (Hbi.out.mono hzb))
     go_wp2_with fail
     go_roundw
     case rel => exact ⟨_, r + 1, rfl, by go_num, by omega, HX1, Hb2⟩
     case measure => simp [intOf] <;> omega
  ·obtain rfl : r = m.next.length + 1 := by omega
   have hdr : decide (((m.next.length + 1 : Nat) : Int) ≤ (m.next.length : Int)) = false := decide_eq_false (by omega)
   have hdr2 : decide (m.next.length + 1 ≤ m.next.length) = false := decide_eq_false (by omega)
   have HF : Hid (wr.ownsRow w.heap.size 3 1 (.slice (some ⟨gC, 0, none⟩) m.next.length cC) (nats (Mac.classS m.next m.out)).length (ints (nats (Mac.classS m.next m.out)))) := Lib.hid (by
    rw [nats_length]
    unfold Mac.classS
    rw [Hlr.out]
    exact Hc.out)
   go_wp2_with fail
   go_ret
   exact ⟨_, rfl, HF.out, B1.out.trans (Hb.out.mono (by omega))⟩
end Go.Proofs.Ytkkkjbinfdohpaa
namespace Go.Proofs.Ytkkkjbinfdohpaa
open Go.RowKit
namespace Mac
theorem min_rowD {m : Mz} (hv : valid m = true) {L : List Nat} (h : Bfs m.next (classI m.next m.out) L.length L) {k s : Nat} (hs : L[k]? = some s) :
  (minI m).next.take (k + 1) = (minI m).next.take k ++ [nats ((succL m.next (classI m.next m.out) s).map (idxG L))] ∧ (∃ q, m.out[s]? = some q ∧ q.length = 2 ^ m.ins.toNat ∧ (minI m).out.take (k + 1) = (minI m).out.take k ++ [q]) ∧ ∀ c ∈ succL m.next (classI m.next m.out) s, c ∈ L := by
 have hsm := List.mem_of_getElem? hs
 have hsl := h.lt s hsm
 have hsz := valid_sizes hv
 obtain ⟨r, q, y, o, -, h2, -, h4, -⟩ := valid_row hv hsl (show 0 < 2 ^ m.ins.toNat from Nat.pow_pos (by decide))
 refine ⟨take_snoc ?_, ⟨q, h2, h4, take_snoc ?_⟩, fun c hc => ?_⟩
 ·rw [minI_next hv, List.getElem?_map, h.done, hs, Option.map_some]
  unfold nats
  rw [List.map_map]
  rfl
 ·rw [minI_out hv, List.getElem?_map, h.done, hs, Option.map_some, key0_get h2]
 ·have := ord_closed (rows_of m hv) (show 0 < m.next.length by omega) (show m.next.length ≤ 8 by omega) s (by rw [h.done]; exact hsm) c hc
  rwa [h.done] at this
end Mac
theorem specMinz_ok (v : Value) (m : Mz) (w : World) (h : MachAt w v m) (hv : Mac.valid m = true) :
  Calls Try.prog 28 #[v] w (OwnMachZ (Mac.minI m) w) := by
 have HC := Lib.hid h
 obtain ⟨An, cn, Ao, co, rfl, hcnm, hcom, hcn1, hco1⟩ := h.shape
 unfold maxLen at hcnm hcom
 obtain ⟨s1, s2, s3, s4, s5⟩ := Mac.valid_sizes hv
 obtain ⟨N, hN⟩ := Int.eq_ofNat_of_zero_le s1
 have hN4 : N ≤ 4 := by omega
 obtain ⟨M, eM, hM0⟩ : ∃ M : Nat, (2 : Int) ^ N = (M : Int) ∧ M = 2 ^ N := ⟨2 ^ N, two_pow N, rfl⟩
 have hp4 : M ≤ 16 := by rw [hM0]; exact Nat.pow_le_pow_right (show 0 < 2 by decide) hN4
 have hp1 : 0 < M := by rw [hM0]; exact Nat.pow_pos (by decide)
 have hwM := IntWalk.i64_in (M : Int) (by omega)
 have hM : 2 ^ m.ins.toNat = M := by rw [hN, hM0]; rfl
 have hb0 := bel_new w (.cells #[.int .i64 m.ins, .slice An m.next.length cn, .slice Ao m.out.length co] 53)
 have hb00 := bel_new (w.alloc (.cells #[.int .i64 m.ins, .slice An m.next.length cn, .slice Ao m.out.length co] 53)) (.cells #[.int .i64 0, .slice none 0 0, .slice none 0 0] 53)
 have hb000 := hb0.trans (hb00.mono hb0.size)
 have hpc := (MCells.boxed w m.ins (.slice An m.next.length cn) (.slice Ao m.out.length co) 53).below hb00
 have hsz : ((w.alloc (.cells #[.int .i64 m.ins, .slice An m.next.length cn, .slice Ao m.out.length co] 53)).alloc (.cells #[.int .i64 0, .slice none 0 0, .slice none 0 0] 53)).heap.size = w.heap.size + 2 := by simp
 have hR : ((w.alloc (.cells #[.int .i64 m.ins, .slice An m.next.length cn, .slice Ao m.out.length co] 53)).alloc (.cells #[.int .i64 0, .slice none 0 0, .slice none 0 0] 53)).heap[w.heap.size + 1]? = some (.cells #[.int .i64 0, .slice none 0 0, .slice none 0 0] 53 (0, 0)) := by
  have := heap_alloc_new (w.alloc (.cells #[.int .i64 m.ins, .slice An m.next.length cn, .slice Ao m.out.length co] 53)) (.cells #[.int .i64 0, .slice none 0 0, .slice none 0 0] 53)
  rwa [World.size_alloc] at this
 have hHC0 := HC.out.below hb000
 have hV := specMValid_any _ m _ hHC0
 have hL := fun w' hm => l29Classes_any (.agg #[.int .i64 m.ins, .slice An m.next.length cn, .slice Ao m.out.length co]) m w' hm hv
 rw [hv] at hV
 have HRes := Lib.hid hR
 have B0 := Lib.hid hb000
 have HSG := Lib.hid (fun s j hs hj => Mac.succ_get hv (s := s) (j := j) hs hj)
 have HSL := Lib.hid (fun s hs => Mac.succ_lt hv (s := s) hs)
 have HMR := Lib.hid (fun L k s h hs => Mac.min_row hv (L := L) (k := k) (s := s) h hs)
 have HMD := Lib.hid (fun L h => Mac.min_done hv (L := L) h)
 have HMW := Lib.hid (fun L k s h hs => Mac.min_rowD hv (L := L) (k := k) (s := s) h hs)
 have HClen := Lib.hid (show (Mac.classI m.next m.out).length = m.next.length from (Mac.seqI_cl m.next m.out (m.next.length + 1)).len)
 obtain ⟨C, hC⟩ : ∃ C, Mac.classI m.next m.out = C := ⟨_, rfl⟩
 have hCS : Mac.classS m.next m.out = C := by rw [Mac.class_same (Mac.rows_of m hv), hC]
 rw [hM] at HSG HSL HMR HMW
 rw [hC] at HSG HSL HMR HMD HClen HMW
 simp only [hCS] at hL
 rw [hN] at hsz HRes hpc hV hL B0 hHC0 ⊢
 have HC0 := Lib.hid hHC0
 have HV := Lib.hid hV
 have HLc := Lib.hid hL
 have PC := Lib.hid hpc
 have S5 := Lib.hid s5
 have HinsE : Hid ((Mac.minI m).ins = (N : Int)) := Lib.hid (by rw [Mac.min_ins hv, hN])
 obtain ⟨z, p0, p1, p2⟩ := PC.out
 clear hM hC hM0 hL hV hv hb0 hb00 hb000 hR s1 s2 s5 h hN hpc hHC0 hCS HC
 go_enter Try.func28, Try.ntmps28
 go_wp2_with fail
 generalize (w.alloc (.cells #[.int .i64 N, .slice An m.next.length cn, .slice Ao m.out.length co] 53)).alloc (.cells #[.int .i64 0, .slice none 0 0, .slice none 0 0] 53) = W at *
 refine HV.out.mono ?_
 rintro e w1 ⟨rfl, hb1⟩
 have B1 := Lib.hid (B0.out.trans (hb1.mono B0.out.size))
 have HC1 := Lib.hid (HC0.out.below hb1)
 have HRes1 := Lib.hid ((hb1.block _ (by omega)).trans HRes.out)
 have PC1 := Lib.hid (PC.out.below hb1)
 have z1 := hb1.size
 clear hb1 p0 p1 p2 z HV HC0 HRes PC
 obtain ⟨z, p0, p1, p2⟩ := PC1.out
 have HK := Lib.hid (HLc.out w1 HC1.out)
 clear HLc
 go_wp2_with fail
 refine HK.out.mono ?_
 rintro e w2 ⟨vC, rfl, hO2, hb2⟩
 have B2 := Lib.hid (B1.out.trans (hb2.mono B1.out.size))
 have HC2 := Lib.hid (HC1.out.below hb2)
 have HRes2 := Lib.hid ((hb2.block _ (by omega)).trans HRes1.out)
 have PC2 := Lib.hid (PC1.out.below hb2)
 have z2 := hb2.size
 rw [nats_length, HClen.out] at hO2
 obtain ⟨gC, cC, hvC, hgC, hgC2, hcC, hcCm⟩ := own_open hO2 (by omega)
 subst hvC
 unfold maxLen at hcCm
 have HCC : Hid (∀ y c, C[y]? = some c → w2.cell? ⟨gC, y, none⟩ = some (.int .i64 (c : Nat))) := Lib.hid fun y c hy => by
  have hyl := (List.getElem?_eq_some_iff.1 hy).1
  obtain ⟨u, hu, hcell, -⟩ := own_slot hO2 (j := y) (by have := HClen.out; omega)
  unfold ints nats at hu
  rw [List.getElem?_map, List.getElem?_map, hy] at hu
  rw [hcell, ← hu]
  rfl
 clear hb2 p0 p1 p2 z HC1 HRes1 PC1 HK hO2
 have hbl := bel_new w2 (.cells #[.int .i64 0] 3)
 have hsl : (w2.alloc (.cells #[.int .i64 0] 3)).heap.size = w2.heap.size + 1 := by simp
 have HOr : Hid ((w2.alloc (.cells #[.int .i64 0] 3)).ownsRow w2.heap.size 3 1 (.slice (some ⟨w2.heap.size, 0, none⟩) 1 1) [0].length (nints [0])) := Lib.hid (World.ownsRow_lit (base := w2.heap.size) (e := 3) (size := 1) w2 #[.int .i64 0] 1 (Nat.le_refl _) (by unfold maxLen; omega) rfl)
 have HBf := Lib.hid hbl
 have HBs := Lib.hid (Mac.Bfs.start (next := m.next) (C := C) (by omega))
 clear hbl
 go_wp2_with fail
 generalize w2.alloc (.cells #[.int .i64 0] 3) = w3 at *
 clear hsl
 go_loopw [4, 5] (fun vo i wr => ∃ (vv : Value) (k : Nat) (L : List Nat), vv = vo ∧ i = .int .i64 k ∧ Hid (Mac.Bfs m.next C k L) ∧ Hid (wr.ownsRow w2.heap.size 3 1 vo L.length (nints L)) ∧ Hid (Below w2.heap.size w2 wr)) (fun _ i _ => 9 - (intOf i).toNat)
 case atStart => exact ⟨_, 0, [0], rfl, rfl, HBs, HOr, HBf⟩
 case round =>
  obtain ⟨vv, k, L, hvv, rfl, HB, Ho, Hb⟩ := hrel
  subst hvv
  clear HOr HBf HBs
  have hzb := Hb.out.size
  have hL8 := HB.out.len
  have hkL := HB.out.kl
  obtain ⟨A1, c1, hv1⟩ := slice_of_own Ho.out
  subst hv1
  by_cases hlt : k < L.length
  ·have hdk : decide (k < L.length) = true := decide_eq_true hlt
   obtain ⟨s, hs⟩ := at_some hlt
   have hsN := HB.out.lt s (List.mem_of_getElem? hs)
   obtain ⟨rr, -, -, er, lr, -⟩ := HSG.out s 0 hsN hp1
   obtain ⟨un, uo, huv, rn, ro⟩ := HC2.out
   simp only [Value.agg.injEq, Array.mk.injEq, List.cons.injEq, and_true] at huv
   obtain ⟨-, rfl, rfl⟩ := huv
   obtain ⟨bn, on, Bn, mn, hAn, hbn, hcn0, hn1, hn2, hrn⟩ := ss_open rn (Below.refl _ _) er
   rw [lr] at hcn0 hn1
   unfold maxLen at hn2
   subst hAn
   obtain ⟨hSl, hSc⟩ := HSL.out s hsN
   have HSG2 : Hid (∀ j, j < M → ∃ y c : Nat, rr[j]? = some ((y : Nat) : Int) ∧ y < m.next.length ∧ C[y]? = some c ∧ (Mac.succL m.next C s)[j]? = some c ∧ c < m.next.length) := Lib.hid fun j hj => by
    obtain ⟨r', y, c, g1, g2, g3, g4, g5, g6, g7⟩ := HSG.out s j hsN hj
    rw [er] at g1
    obtain rfl := Option.some.inj g1
    exact ⟨y, c, g3, g4, g5, g6, g7⟩
   have HLe : Hid (∀ j, (Mac.pushesG L ((Mac.succL m.next C s).take j)).length ≤ m.next.length) := Lib.hid fun j => Mac.nodup_lt _ _ (Mac.pushesG_nodup _ HB.out.nd) (fun x hx => ((Mac.mem_pushesG _ _).1 hx).elim (HB.out.lt x) (fun h => hSc x (List.mem_of_mem_take h)))
   have HStep := Lib.hid (HB.out.step s4 hs hSc)
   have HRn := Lib.hid hrn
   have Hlr := Lib.hid lr
   have Hs := Lib.hid hs
   have HCn := Lib.hid hcn0
   obtain ⟨S, hS⟩ : ∃ S, Mac.succL m.next C s = S := ⟨_, rfl⟩
   rw [hS] at HSG2 HLe HStep hSl
   have HSl := Lib.hid hSl
   have hmn : decide (s < m.next.length) = true := decide_eq_true hsN
   have HPre : Hid (∀ j, (nints (Mac.pushesG L (S.take j)))[k]? = some (.int .i64 (s : Nat)) ∧ k < (Mac.pushesG L (S.take j)).length) := Lib.hid fun j => by
    obtain ⟨mm, hmm⟩ := Mac.pushesG_prefix (S.take j) L
    refine ⟨?_, by rw [hmm, List.length_append]; omega⟩
    unfold nints ints nats
    rw [List.getElem?_map, List.getElem?_map, hmm, List.getElem?_append_left (by omega), Hs.out]
    rfl
   have HoK : Hid (wr.ownsRow w2.heap.size 3 1 (.slice A1 L.length c1) (Mac.pushesG L (S.take 0)).length (nints (Mac.pushesG L (S.take 0)))) := Lib.hid Ho.out
   clear rn ro er lr hrn hSl hSc hs hS hcn0
   go_wp2_with fail
   clear Ho
   obtain ⟨Wr, hWr⟩ : ∃ Wr, Wr = wr := ⟨_, rfl⟩
   subst hWr
   go_loopw [4, 6] (fun vo i wi => ∃ (v1 : Value) (j : Nat), v1 = vo ∧ i = .int .i64 j ∧ j ≤ M ∧ Hid (wi.ownsRow w2.heap.size 3 1 vo (Mac.pushesG L (S.take j)).length (nints (Mac.pushesG L (S.take j)))) ∧ Hid (Below w2.heap.size w2 wi)) (fun _ i _ => M - (intOf i).toNat)
   case atStart => exact ⟨_, 0, rfl, rfl, Nat.zero_le _, HoK, Hb⟩
   case round =>
    obtain ⟨v1, j, h1, rfl, hj, Hov, HbI⟩ := hrel
    subst h1
    clear HoK Hb
    have hzi := HbI.out.size
    obtain ⟨z, p0, p1, p2⟩ := PC2.out.below HbI.out
    by_cases hlj : j < M
    ·have hdj : decide (j < M) = true := decide_eq_true hlj
     obtain ⟨y, c, hy, hyN, hCy, hSj, hcN⟩ := HSG2.out j hlj
     obtain ⟨b1, o1, rfl, hb1, hcy0⟩ := ints_row HRn.out rfl hy
     have hcy := (HbI.out.cell (p := ⟨b1, o1 + j, none⟩) hb1).trans hcy0
     have hcC := (HbI.out.cell (p := ⟨gC, y, none⟩) hgC2).trans (HCC.out y c hCy)
     have hcn := (HbI.out.cell (p := ⟨bn, on + s, none⟩) hbn).trans HCn.out
     have hyd : decide (y < m.next.length) = true := decide_eq_true hyN
     obtain ⟨hpk, hpl⟩ := HPre.out j
     obtain ⟨gP, cP, hvP, hgP, hgP2, hcP, hcPm⟩ := own_open Hov.out (by omega)
     subst hvP
     unfold maxLen at hcPm
     obtain ⟨u0, hu0, hcellP, -⟩ := own_slot Hov.out (j := k) (by omega)
     rw [hpk] at hu0
     obtain rfl := Option.some.inj hu0
     have hdp : decide (k < (Mac.pushesG L (S.take j)).length) = true := decide_eq_true hpl
     have hLS : Mac.pushesG L (S.take (j + 1)) = Mac.pushG (Mac.pushesG L (S.take j)) c := by rw [take_snoc hSj, Mac.pushesG_snoc]
     have hLl := HLe.out j
     have hLl1 := HLe.out (j + 1)
     have HIx := Lib.hid (fun w' (hn : NatsAt w' (.slice (some ⟨gP, 0, none⟩) (Mac.pushesG L (S.take j)).length cP) (Mac.pushesG L (S.take j))) => l29At_any _ (Mac.pushesG L (S.take j)) c w' hn (by omega))
     have HidG : Hid (idxOf (Mac.pushesG L (S.take j)) c = if c ∈ Mac.pushesG L (S.take j) then ((Mac.idxG (Mac.pushesG L (S.take j)) c : Nat) : Int) else -1) := Lib.hid Mac.idxOf_G
     have HLS := Lib.hid hLS
     have HNat := Lib.hid (own_nats Hov.out)
     obtain ⟨LJ, hLJ⟩ : ∃ LJ, Mac.pushesG L (S.take j) = LJ := ⟨_, rfl⟩
     rw [hLJ] at HIx HidG HLS Hov HNat hpk hpl hdp hcP hLl ⊢
     have HLJ := Lib.hid hLJ
     clear hy hCy hSj hcy0 hu0 hpk hLS hLJ
     go_wp2_with fail
     go_quiet (fail)
     go_wp2_with fail
     have HD := Lib.hid (Drew.by wr nq)
     generalize wr.drewN nq = Wd at *
     have Hov2 := Lib.hid (own_below Hov.out (HD.out.below wr.heap.size))
     have HbD := Lib.hid (HbI.out.trans (HD.out.below w2.heap.size))
     have HId := Lib.hid (HIx.out Wd (HNat.out.below (HD.out.below wr.heap.size)))
     have hzd := HbD.out.size
     by_cases hmem : c ∈ LJ
     ·have hidx : idxOf LJ c = ((Mac.idxG LJ c : Nat) : Int) := by rw [HidG.out, if_pos hmem]
      have hlse : Mac.pushesG L (S.take (j + 1)) = LJ := by rw [HLS.out]; unfold Mac.pushG; rw [if_pos hmem]
      obtain ⟨q, hq⟩ : ∃ q, Mac.idxG LJ c = q := ⟨_, rfl⟩
      rw [hq] at hidx
      rw [hidx] at HId
      have HLSe := Lib.hid hlse
      have hq0 : decide ((q : Int) < 0) = false := decide_eq_false (by omega)
      clear hmem hq hlse hidx HidG
      refine HId.out.mono ?_
      rintro e w' ⟨rfl, rfl⟩
      go_wp2_with fail
      go_roundw
      case rel => exact ⟨_, j + 1, rfl, by go_num, by omega, Lib.hid (by rw [HLSe.out]; exact Hov2.out), HbD⟩
      case measure => simp [intOf] <;> omega
     ·have hidx : idxOf LJ c = -1 := by rw [HidG.out, if_neg hmem]
      have hlse : Mac.pushesG L (S.take (j + 1)) = LJ ++ [c] := by rw [HLS.out]; unfold Mac.pushG; rw [if_neg hmem]
      rw [hidx] at HId
      have HLl : Hid ((Mac.pushesG L (S.take (j + 1))).length = LJ.length + 1) := Lib.hid (by rw [hlse, List.length_append]; rfl)
      have HLn : Hid (nints (Mac.pushesG L (S.take (j + 1))) = nints LJ ++ [.int .i64 (c : Int)]) := Lib.hid (by rw [hlse, nints_snoc])
      have Hlit := Lib.hid (Row.of_own (World.ownsRow_lit (base := Wd.heap.size) (e := 3) (size := 1) Wd #[.int .i64 c] 1 (Nat.le_refl _) (by unfold maxLen; omega) rfl))
      clear hmem hlse hidx HidG
      refine HId.out.mono ?_
      rintro e w' ⟨rfl, rfl⟩
      go_wp2_with (at_builtin; refine append_ints rfl (.tmp 50) (.tmp 52) rfl w2.heap.size _ LJ.length _ rfl (Hov2.out.alloc _) _ 1 [.int .i64 c] rfl Hlit.out (by simp [Value.oneCell']) (by omega) (by simp <;> omega) ?_; intro v7 w7 hown7 hg7 hat7; have Ho7 := Lib.hid hown7; have Hb7 := Lib.hid ((HbD.out.alloc hzd (.cells #[.int .i64 c] 3)).grown hg7 (by simp <;> omega) (own_ge0 Hov2.out)); clear hown7 hg7 hat7)
      go_roundw
      case rel => exact ⟨_, j + 1, rfl, by go_num, by omega, Lib.hid (by rw [HLl.out, HLn.out]; exact Ho7.out), Hb7⟩
      case measure => simp [intOf] <;> omega
    ·obtain rfl : j = M := by omega
     have hdj : decide (j < j) = false := decide_eq_false (by omega)
     have HoF : Hid (wr.ownsRow w2.heap.size 3 1 v1 (Mac.pushesG L S).length (nints (Mac.pushesG L S))) := Lib.hid (by
      have := Hov.out
      rwa [List.take_of_length_le (by have := HSl.out; omega)] at this)
     go_wp2_with fail
     go_roundw
     case rel => exact ⟨_, k + 1, _, rfl, by go_num, HStep, HoF, HbI⟩
     case measure => simp [intOf] <;> omega
  ·obtain rfl : k = L.length := by omega
   have hdk : decide (L.length < L.length) = false := decide_eq_false (by omega)
   have HNL := Lib.hid (own_nats Ho.out)
   have Lpos : 0 < L.length := by
    rcases Nat.eq_zero_or_pos L.length with h0 | h0
    ·have := HB.out.done
     have h1 := List.eq_nil_of_length_eq_zero h0
     have h2 : 0 < (Mac.ordL m.next C).length := by
      obtain ⟨mm, hmm⟩ := Mac.bfsG_prefix (Mac.succL m.next C) 9 0 [0]
      unfold Mac.ordL
      rw [hmm]; simp
     rw [this, h1] at h2
     simp at h2
    ·exact h0
   obtain ⟨gP, cP, hvP, hgP, hgP2, hcP, hcPm⟩ := own_open Ho.out Lpos
   injection hvP with hvP1 _ hvP2
   subst hvP1 hvP2
   unfold maxLen at hcPm
   have HPk : Hid (∀ k s, L[k]? = some s → wr.cell? ⟨gP, k, none⟩ = some (.int .i64 (s : Nat))) := Lib.hid fun k s hs => by
    obtain ⟨u, hu, hcell, -⟩ := own_slot Ho.out (j := k) (by have := (List.getElem?_eq_some_iff.1 hs).1; omega)
    unfold nints ints nats at hu
    rw [List.getElem?_map, List.getElem?_map, hs] at hu
    rw [hcell, ← hu]
    rfl
   obtain ⟨z, p0, p1, p2⟩ := PC2.out.below Hb.out
   have hbm := bel_new wr (.cells #[.int .i64 N, .slice none 0 0, .slice none 0 0] 53)
   have HMB0 := Lib.hid (MB.start (ins := (N : Int)) (w := wr) trivial)
   have HBm := Lib.hid hbm
   clear hbm Ho
   go_wp2_with fail
   clear z p0 p1 p2
   obtain ⟨W4, hW4⟩ : ∃ W4, W4 = wr := ⟨_, rfl⟩
   subst hW4
   generalize W4.alloc (.cells #[.int .i64 N, .slice none 0 0, .slice none 0 0] 53) = w5 at *
   obtain ⟨gm, hgm⟩ : ∃ gm, W4.heap.size = gm := ⟨_, rfl⟩
   rw [hgm] at HMB0 hgP2 hzb ⊢
   have Hgm := Lib.hid hgm
   clear hgm
   go_loopw [9] (fun i wr => ∃ (k : Nat) (E1 E2 : Nat → Prop) (vN vO : Value), i = .int .i64 k ∧ k ≤ L.length ∧ Hid (MB gm N E1 E2 vN vO ((Mac.minI m).next.take k) ((Mac.minI m).out.take k) wr) ∧ Hid (Below gm W4 wr)) (fun i _ => L.length - (intOf i).toNat)
   case atStart => exact ⟨0, _, _, _, _, rfl, Nat.zero_le _, HMB0, Lib.hid (by rw [← Hgm.out]; exact HBm.out)⟩
   case round =>
    obtain ⟨k, E1, E2, vN, vO, rfl, hk, HMB, Hbr⟩ := hrel
    clear HMB0 HBm
    have hgm1 := mb_lt HMB.out
    have hzr : gm ≤ wr.heap.size := by omega
    by_cases hlk : k < L.length
    ·have hdk2 : decide (k < L.length) = true := decide_eq_true hlk
     obtain ⟨s, hs⟩ := at_some hlk
     have hsN := HB.out.lt s (List.mem_of_getElem? hs)
     obtain ⟨hxN, ⟨qq, eq, lq, hxO⟩, hcl⟩ := HMW.out L k s HB.out hs
     obtain ⟨rr, -, -, er, lr, -⟩ := HSG.out s 0 hsN hp1
     obtain ⟨un, uo, huv, rn, ro⟩ := HC2.out
     simp only [Value.agg.injEq, Array.mk.injEq, List.cons.injEq, and_true] at huv
     obtain ⟨-, rfl, rfl⟩ := huv
     obtain ⟨bn, on, Bn, mn, hAn, hbn, hcn0, hn1, hn2, hrn⟩ := ss_open rn (Below.refl _ _) er
     obtain ⟨bo, oo, Bo, mo, hAo, hbo, hco0, ho1, ho2, hro⟩ := ss_open ro (Below.refl _ _) eq
     rw [lr] at hcn0 hn1
     rw [lq] at hco0 ho1
     unfold maxLen at hn2 ho2
     subst hAn hAo
     obtain ⟨hSl, -⟩ := HSL.out s hsN
     have HSG2 : Hid (∀ j, j < M → ∃ y c : Nat, rr[j]? = some ((y : Nat) : Int) ∧ y < m.next.length ∧ C[y]? = some c ∧ (Mac.succL m.next C s)[j]? = some c ∧ c < m.next.length) := Lib.hid fun j hj => by
      obtain ⟨r', y, c, g1, g2, g3, g4, g5, g6, g7⟩ := HSG.out s j hsN hj
      rw [er] at g1
      obtain rfl := Option.some.inj g1
      exact ⟨y, c, g3, g4, g5, g6, g7⟩
     have HRn := Lib.hid hrn
     have HRo := Lib.hid hro
     have Hlq := Lib.hid lq
     have HCn := Lib.hid hcn0
     have HCo := Lib.hid hco0
     have HXO := Lib.hid hxO
     have Hcl := Lib.hid hcl
     have HPs := Lib.hid (HPk.out k s hs)
     obtain ⟨S, hS⟩ : ∃ S, Mac.succL m.next C s = S := ⟨_, rfl⟩
     rw [hS] at HSG2 hxN hSl Hcl
     have HXN := Lib.hid hxN
     have HSl := Lib.hid hSl
     have hmn : decide (s < m.next.length) = true := decide_eq_true hsN
     have hso : s < m.out.length := by have := S5.out; omega
     have hsod : decide (s < m.out.length) = true := decide_eq_true hso
     -- facts of every later world
     have HW2 : Hid (∀ w', Below gm W4 w' → Below w2.heap.size w2 w') := Lib.hid fun w' hb => Hb.out.trans (hb.mono hzb)
     have HKK : Hid (∀ w', Below gm W4 w' → w'.cell? ⟨w.heap.size, 0, none⟩ = some (.int .i64 N) ∧ w'.cell? ⟨w.heap.size, 1, none⟩ = some (.slice (some ⟨bn, on, none⟩) m.next.length cn) ∧ w'.cell? ⟨w.heap.size, 2, none⟩ = some (.slice (some ⟨bo, oo, none⟩) m.out.length co) ∧ w'.cell? ⟨gP, k, none⟩ = some (.int .i64 s) ∧ w'.cell? ⟨bn, on + s, none⟩ = some (.slice Bn M mn) ∧ w'.cell? ⟨bo, oo + s, none⟩ = some (.slice Bo M mo)) := Lib.hid fun w' hb => by
      have h2 := HW2.out w' hb
      obtain ⟨x0, x1, x2, x3⟩ := PC2.out.below h2
      exact ⟨x1, x2, x3, (hb.cell (p := ⟨gP, k, none⟩) hgP2).trans HPs.out, (h2.cell (p := ⟨bn, on + s, none⟩) hbn).trans HCn.out, (h2.cell (p := ⟨bo, oo + s, none⟩) hbo).trans HCo.out⟩
     have hbl := bel_new wr (.cells #[] 3)
     have HX0 : Hid ((wr.alloc (.cells #[] 3)).ownsRow wr.heap.size 3 1 (.slice (some ⟨wr.heap.size, 0, none⟩) 0 0) 0 (nints ((S.take 0).map (Mac.idxG L)))) := Lib.hid (World.ownsRow_lit (base := wr.heap.size) (e := 3) (size := 1) wr #[] 0 (Nat.le_refl _) (by unfold maxLen; omega) rfl)
     have Hbl := Lib.hid hbl
     clear hbl rn ro er eq lr lq hxN hxO hrn hro hSl hs hS hcn0 hco0 hcl
     go_wp2_with fail
     obtain ⟨Wk, hWk⟩ : ∃ Wk, Wk = wr := ⟨_, rfl⟩
     subst hWk
     go_loopw [10, 11] (fun vx i wi => ∃ (v1 : Value) (j : Nat), v1 = vx ∧ i = .int .i64 j ∧ j ≤ M ∧ Hid (wi.ownsRow Wk.heap.size 3 1 vx j (nints ((S.take j).map (Mac.idxG L)))) ∧ Hid (Below Wk.heap.size Wk wi)) (fun _ i _ => M - (intOf i).toNat)
     case atStart => exact ⟨_, 0, rfl, rfl, Nat.zero_le _, HX0, Hbl⟩
     case round =>
      obtain ⟨vx, j, hvx, rfl, hj, Hx, Hbi⟩ := hrel
      subst hvx
      clear HX0 Hbl
      have hzi := Hbi.out.size
      have Hbg := Lib.hid (Hbr.out.trans (Hbi.out.mono hzr))
      obtain ⟨p0, p1, p2, p3, p4, p5⟩ := HKK.out wr Hbg.out
      by_cases hlj : j < M
      ·have hdj : decide (j < M) = true := decide_eq_true hlj
       obtain ⟨y, c, hy, hyN, hCy, hSj, hcN⟩ := HSG2.out j hlj
       obtain ⟨b1, o1, rfl, hb1, hcy0⟩ := ints_row HRn.out rfl hy
       have HY : Hid (∀ w', Below gm W4 w' → w'.cell? ⟨b1, o1 + j, none⟩ = some (.int .i64 y) ∧ w'.cell? ⟨gC, y, none⟩ = some (.int .i64 c)) := Lib.hid fun w' hb =>
        ⟨((HW2.out w' hb).cell (p := ⟨b1, o1 + j, none⟩) hb1).trans hcy0, ((HW2.out w' hb).cell (p := ⟨gC, y, none⟩) hgC2).trans (HCC.out y c hCy)⟩
       have hyd : decide (y < m.next.length) = true := decide_eq_true hyN
       have hcL := Hcl.out c (List.mem_of_getElem? hSj)
       have HIdx : Hid (idxOf L c = ((Mac.idxG L c : Nat) : Int)) := Lib.hid (by rw [Mac.idxOf_G, if_pos hcL])
       have HXs : Hid (nints ((S.take (j + 1)).map (Mac.idxG L)) = nints ((S.take j).map (Mac.idxG L)) ++ [.int .i64 (idxOf L c)]) := Lib.hid (by rw [take_snoc hSj, List.map_append, List.map_singleton, nints_snoc, HIdx.out])
       have HBx : ∀ w', Only (fun g => vx.ownBlock = some g) wr w' → Below gm W4 w' := fun w' ho => Only.below Hbg.out ho (by omega) (fun g hg => by have := (Hx.out.lt g hg).1; omega)
       have HNw : Hid (∀ w', Below gm W4 w' → NatsAt w' (.slice (some ⟨gP, 0, none⟩) L.length c1) L) := Lib.hid fun w' hb => HNL.out.below (by rw [Hgm.out]; exact hb)
       obtain ⟨cs, hcs⟩ : ∃ cs, nints ((S.take j).map (Mac.idxG L)) = cs := ⟨_, rfl⟩
       rw [hcs] at Hx HXs
       clear hy hCy hSj hcy0 hcL hcs
       go_wp2_with fail
       obtain ⟨W6, hW6⟩ : ∃ W6, W6 = wr := ⟨_, rfl⟩
       subst hW6
       clear p0 p1 p2 p3 p4 p5
       obtain ⟨i0, hi0, hz0, hz1, hz2⟩ := info_parts info_int
       have hO := fun ops a => appRS2_ok (Pg := Try.prog) (ops := ops) (a := a) (news := [.int .i64 (idxOf L c)]) (d := 18) (Hx.out)
       refine wp_region_rs (appRS2 Try.prog _ W6 _ (Wk.heap.size) 3 1 (vx) (j) (cs) [.int .i64 (idxOf L c)] 18) (hO _ _) (by kernel_rfl) (by kernel_rfl) (by kernel_rfl) (nlb rfl) trivial Hx.out ?_
       refine rs_old (hO _ _) (.inl (nnb rfl)) _ (.inl rfl) _ rfl rfl ?_
       refine rs_old (hO _ _) (.inl (nnb rfl)) _ (.inl rfl) _ rfl rfl ?_
       refine rs_old (hO _ _) (.inl (nnb rfl)) _ (.inl rfl) _ rfl rfl ?_
       apply rs_eq (hO _ _) (.inl (nnb rfl))
       ·intro ρ w' ho hK
        have ho : Only _ W6 w' := ho
        obtain ⟨h0, -⟩ := hK
        have h0' : ρ (.tmp 1) = _ := h0
        go_simp
        try exact rfl
       apply rs_eq (hO _ _) (.inl (nnb rfl))
       ·intro ρ w' ho hK
        have ho : Only _ W6 w' := ho
        obtain ⟨h0, -⟩ := hK
        have h0' : ρ (.tmp 74) = _ := h0
        obtain ⟨r0, r1, r2, r3, r4, r5⟩ := HKK.out w' (HBx w' ho)
        obtain ⟨r6, r7⟩ := HY.out w' (HBx w' ho)
        go_simp
        try exact rfl
       refine rs_old (hO _ _) (.inl (nnb rfl)) _ (.inl rfl) _ rfl rfl ?_
       refine rs_old (hO _ _) (.inl (nnb rfl)) _ (.inl rfl) _ rfl rfl ?_
       apply rs_eq (hO _ _) (.inl (nnb rfl))
       ·intro ρ w' ho hK
        have ho : Only _ W6 w' := ho
        obtain ⟨h0, h1, -⟩ := hK
        have h0' : ρ (.tmp 76) = _ := h0
        have h1' : ρ (.tmp 77) = _ := h1
        go_simp
        try exact rfl
       apply rs_eq (hO _ _) (.inl (nnb rfl))
       ·intro ρ w' ho hK
        have ho : Only _ W6 w' := ho
        obtain ⟨h0, -⟩ := hK
        have h0' : ρ (.tmp 78) = _ := h0
        obtain ⟨r0, r1, r2, r3, r4, r5⟩ := HKK.out w' (HBx w' ho)
        obtain ⟨r6, r7⟩ := HY.out w' (HBx w' ho)
        go_simp
        try exact rfl
       apply rs_eq (hO _ _) (.inl (nnb rfl))
       ·intro ρ w' ho hK
        have ho : Only _ W6 w' := ho
        obtain ⟨h0, h1, -⟩ := hK
        have h0' : ρ (.tmp 75) = _ := h0
        have h1' : ρ (.tmp 79) = _ := h1
        go_simp
        try exact rfl
       apply rs_eq (hO _ _) (.inl (nnb rfl))
       ·intro ρ w' ho hK
        have ho : Only _ W6 w' := ho
        obtain ⟨h0, -⟩ := hK
        have h0' : ρ (.tmp 80) = _ := h0
        obtain ⟨r0, r1, r2, r3, r4, r5⟩ := HKK.out w' (HBx w' ho)
        obtain ⟨r6, r7⟩ := HY.out w' (HBx w' ho)
        go_simp
        try exact rfl
       refine rs_old (hO _ _) (.inl (nnb rfl)) _ (.inl rfl) _ rfl rfl ?_
       apply rs_eq (hO _ _) (.inl (nnb rfl))
       ·intro ρ w' ho hK
        have ho : Only _ W6 w' := ho
        obtain ⟨h0, h1, -⟩ := hK
        have h0' : ρ (.tmp 81) = _ := h0
        have h1' : ρ (.tmp 82) = _ := h1
        go_simp
        try exact rfl
       apply rs_eq (hO _ _) (.inl (nnb rfl))
       ·intro ρ w' ho hK
        have ho : Only _ W6 w' := ho
        obtain ⟨h0, -⟩ := hK
        have h0' : ρ (.tmp 83) = _ := h0
        obtain ⟨r0, r1, r2, r3, r4, r5⟩ := HKK.out w' (HBx w' ho)
        obtain ⟨r6, r7⟩ := HY.out w' (HBx w' ho)
        go_simp
        try exact rfl
       apply rs_eq (hO _ _) (.inl (nnb rfl))
       ·intro ρ w' ho hK
        have ho : Only _ W6 w' := ho
        obtain ⟨h0, h1, -⟩ := hK
        have h0' : ρ (.tmp 73) = _ := h0
        have h1' : ρ (.tmp 84) = _ := h1
        go_simp
        try exact rfl
       apply rs_eq (hO _ _) (.inl (nnb rfl))
       ·intro ρ w' ho hK
        have ho : Only _ W6 w' := ho
        obtain ⟨h0, -⟩ := hK
        have h0' : ρ (.tmp 85) = _ := h0
        obtain ⟨r0, r1, r2, r3, r4, r5⟩ := HKK.out w' (HBx w' ho)
        obtain ⟨r6, r7⟩ := HY.out w' (HBx w' ho)
        go_simp
        try exact rfl
       refine rs_call (hO _ _) (.inl (nnb rfl)) (TEq (.int .i64 (idxOf L c))) (stb_eq _ _) 73 _ _ rfl (fun ρ w' ho hK => by
        have ho : Only _ W6 w' := ho
        obtain ⟨h0, h1, h2, -⟩ := hK
        have h0' : ρ (.func 73) = .func (.func 73) #[] #[] := h0
        have h1' : ρ (.tmp 72) = _ := h1
        have h2' : ρ (.tmp 86) = _ := h2
        refine ⟨#[ρ (.tmp 72), ρ (.tmp 86)], ?_, ?_⟩
        ·go_simp
        ·rw [h1', h2']
         refine (l29At_any _ L c w' (HNw.out w' (HBx w' ho)) (by omega)).mono ?_
         rintro e w2 ⟨rfl, rfl⟩
         exact ⟨_, rfl, rfl, Below.refl _ _⟩) ?_
       refine rs_build1 (hO _ _) (.inl (nnb rfl)) 1 [.int .i64 (idxOf L c)] 3 rfl (fun ρ w' ho hK => by
        have ho : Only _ W6 w' := ho
        obtain ⟨h0, -⟩ := hK
        have h0' : ρ (.tmp 87) = _ := h0
        go_simp) ?_
       refine rs_append2 rfl (Wk.heap.size) 3 23 1 (vx) (j) (cs) _ rfl rfl (fun g hg => hg) (show Wk.heap.size ≤ W6.heap.size by omega) _ _ rfl _ _ rfl rfl rfl rfl i0 _ 8 Try.underlying23 hi0 hz0 hz1 hz2 rfl (by decide) (by omega) (by decide) (by simp [Value.oneCell']) ?_
       refine rs_same (hO _ _) (.inl (nnb rfl)) 89 18 (.inr rfl) rfl _ rfl ?_
       intro f w9 k9 hk9 hI9 ht9 hcp9
       have E0 : f 0 = _ := ht9 0 (nlb rfl)
       conv at E0 => rhs; whnf
       have E1 : f 1 = _ := ht9 1 (nlb rfl)
       conv at E1 => rhs; whnf
       have E2 : f 2 = _ := ht9 2 (nlb rfl)
       conv at E2 => rhs; whnf
       have E3 : f 3 = _ := ht9 3 (nlb rfl)
       have E4 : f 4 = _ := ht9 4 (nlb rfl)
       have E5 : f 5 = _ := ht9 5 (nlb rfl)
       conv at E5 => rhs; whnf
       have E6 : f 6 = _ := ht9 6 (nlb rfl)
       conv at E6 => rhs; whnf
       have E7 : f 7 = _ := ht9 7 (nlb rfl)
       have E8 : f 8 = _ := ht9 8 (nlb rfl)
       have E9 : f 9 = _ := ht9 9 (nlb rfl)
       have E10 : f 10 = _ := ht9 10 (nlb rfl)
       have E11 : f 11 = _ := ht9 11 (nlb rfl)
       conv at E11 => rhs; whnf
       have E12 : f 12 = _ := ht9 12 (nlb rfl)
       have E13 : f 13 = _ := ht9 13 (nlb rfl)
       have E14 : f 14 = _ := ht9 14 (nlb rfl)
       have E15 : f 15 = _ := ht9 15 (nlb rfl)
       have E16 : f 16 = _ := ht9 16 (nlb rfl)
       have E17 : (TNew _ 1 1 [.int .i64 (idxOf L c)]) w9 (f 17) := ht9 17 (nlb rfl)
       have E18 : (TAny) w9 (f 18) := ht9 18 (nlb rfl)
       have E19 : (TAny) w9 (f 19) := ht9 19 (nlb rfl)
       have Ho9 : Only _ W6 w9 := hI9.2.1
       have hown9 : w9.ownsRow (Wk.heap.size) 3 1 (f 18) (j + 1) (cs ++ [.int .i64 (idxOf L c)]) := hI9.2.2.1
       have hat9 : ∀ g, (f 18).ownBlock = some g → (vx).ownBlock = some g ∨ W6.heap.size ≤ g := hI9.2.2.2
       have C19 : f 19 = f 18 := (hcp9 19 _ 89 18 rfl rfl rfl rfl).2
       simp only [putAll, E0, E1, E2, E3, E4, E5, E6, E7, E8, E9, E10, E11, E12, E13, E14, E15, E16, C19, Nat.zero_add, Nat.reduceAdd, Act.put, List.setIfInBounds_toArray, List.set_cons_succ, List.set_cons_zero]
       clear E0 E1 E2 E3 E4 E5 E6 E7 E8 E9 E10 E11 E12 E13 E14 E15 E16
       clear hI9 ht9 hcp9 hk9
       generalize f 17 = r17 at *
       generalize f 18 = r18 at *
       have Hx9 := Lib.hid hown9
       have Hb9 := Lib.hid (Only.below Hbi.out Ho9 (by omega) (fun g hg => (Hx.out.lt g hg).1))
       clear Ho9 hown9 hat9 HBx hO
       go_wp2_with fail
       go_roundw
       case rel => exact ⟨_, j + 1, rfl, by go_num, by omega, Lib.hid (by rw [HXs.out]; exact Hx9.out), Hb9⟩
       case measure => simp [intOf] <;> omega
      ·obtain rfl : j = M := by omega
       have hdj : decide (j < j) = false := decide_eq_false (by omega)
       have hfull : (S.take j).map (Mac.idxG L) = S.map (Mac.idxG L) := by rw [List.take_of_length_le (by have := HSl.out; omega)]
       have hxv := Hx.out
       rw [hfull] at hxv
       have hpl : (nats (S.map (Mac.idxG L))).length = j := by rw [nats_length, List.length_map]; exact HSl.out
       have HPL := Lib.hid hpl
       obtain ⟨ga, ca, hva, hga, hga2, hca, hcam⟩ := own_open hxv (by omega)
       subst hva
       unfold maxLen at hcam
       have HMB5 := Lib.hid (HMB.out.below Hbi.out)
       have Na1 : Hid (∀ g, (Value.slice (some ⟨ga, 0, none⟩) j ca).ownBlock = some g → ¬ E1 g ∧ ¬ E2 g) := Lib.hid fun g hg => ⟨fun he => by have h1 := HMB.out.l1 g he; have h2 := (hxv.lt g hg).1; omega, fun he => by have h1 := HMB.out.l2 g he; have h2 := (hxv.lt g hg).1; omega⟩
       have Oa5 : Hid (wr.ownsRow (gm + 1) 3 1 (.slice (some ⟨ga, 0, none⟩) j ca) (nats (S.map (Mac.idxG L))).length (ints (nats (S.map (Mac.idxG L))))) := Lib.hid (by rw [HPL.out]; exact own_mono hxv (by omega))
       have hx1 : ((Mac.minI m).next.take k).length = k ∧ ((Mac.minI m).out.take k).length = k := by
        have h1 := congrArg List.length HXN.out
        have h2 := congrArg List.length HXO.out
        simp only [List.length_take, List.length_append, List.length_singleton] at h1 h2 ⊢
        omega
       have Hl1 := Lib.hid hx1.1
       have Hl2 := Lib.hid hx1.2
       have HMl := HMB5.out.below (bel_new wr (.cells #[.slice (some ⟨ga, 0, none⟩) j ca] 23))
       obtain ⟨us, q1, q2, q3, q4, q5, q6, q7⟩ := HMl.n
       rw [hx1.1] at q1 q2
       have Q2 := Lib.hid q2
       have HML := Lib.hid HMl
       have Q := Lib.hid (And.intro q1 (And.intro q3 (And.intro q4 (And.intro q5 (And.intro q6 q7)))))
       have Oal := Lib.hid (Oa5.out.alloc (.cells #[.slice (some ⟨ga, 0, none⟩) j ca] 23))
       have Hlit := Lib.hid (Row.of_own (World.ownsRow_lit (base := wr.heap.size) (e := 23) (size := 1) wr #[.slice (some ⟨ga, 0, none⟩) j ca] 1 (Nat.le_refl _) (by unfold maxLen; omega) rfl))
       have hgm5 := mb_lt HMB5.out
       obtain ⟨k0, k1, k2, k3, k4⟩ := HMB5.out.cells
       clear hfull hpl hx1 HMl q1 q2 q3 q4 q5 q6 q7 hxv Hx HMD HMR HSG HSL HSG2
       go_wp2_with (at_builtin; refine append_intss rfl (.tmp 91) (.tmp 93) rfl (gm + 1) vN k us rfl Q2.out _ 1 [.slice (some ⟨ga, 0, none⟩) j ca] rfl Hlit.out (by simp [Value.oneCell']) (by omega) (by first | omega | (simp <;> omega)) ?_; intro v7 w7 hown7 hg7 hat7; obtain ⟨A7, c7, hv7⟩ := slice_of_own hown7; subst hv7; have HMB7 := Lib.hid (MB.addN HML.out (Q.out.1.trans Hl1.out.symm) Q.out.2.1 Q.out.2.2.1 Q.out.2.2.2.1 Q.out.2.2.2.2.1 Q.out.2.2.2.2.2 Oal.out (fun g hg => (Na1.out g hg).1) (fun g hg => (Na1.out g hg).2) (by rw [Hl1.out]; exact hown7) hg7 hat7); have hbx := (hg7.block gm (mb_lt HML.out) (fun e => by obtain ⟨_, _, p2, _⟩ := HML.out.n; have := (p2.lt _ e.symm).1; omega)).trans HML.out.box; have x1 := blk_cell hbx 1; have y1 := blk_free hbx 1; have Hg7 := Lib.hid hg7; clear hown7 hg7 hat7 hbx)
       clear p0 p1 p2 p3 p4 p5
       have hz7 := Hg7.out.size
       rw [World.size_alloc] at hz7
       have hox : Only (· = gm) w7 (w7.setCell ⟨gm, 1, none⟩ (.slice A7 (k + 1) c7)) := Only.grown (set_grown w7 gm 1 _) (fun g hg => (Option.some.inj hg).symm)
       have Hb8 := Lib.hid (Only.below ((Hbg.out.alloc (by omega) (.cells #[.slice (some ⟨ga, 0, none⟩) j ca] 23)).grown Hg7.out (by simp <;> omega) (fun q hq => by have := (Q2.out.lt q hq).1; omega)) hox (by omega) (fun g hg => by omega))
       have hz8 : wr.heap.size + 1 ≤ (w7.setCell ⟨gm, 1, none⟩ (.slice A7 (k + 1) c7)).heap.size := Nat.le_trans hz7 hox.size
       clear hox x1 y1 k0 k1 k2 k3 k4 Q Q2 Oal HML Hlit hz7 Oa5
       generalize w7.setCell ⟨gm, 1, none⟩ (.slice A7 (k + 1) c7) = W8 at *
       obtain ⟨E3, hE3⟩ : ∃ E3 : Nat → Prop, (fun g => E1 g ∨ (Value.slice (some ⟨ga, 0, none⟩) j ca).ownBlock = some g ∨ (Value.slice A7 (k + 1) c7).ownBlock = some g) = E3 := ⟨_, rfl⟩
       have HMB8 : Hid (MB gm N E3 E2 (.slice A7 (k + 1) c7) vO ((Mac.minI m).next.take (k + 1)) ((Mac.minI m).out.take k) W8) := Lib.hid (by rw [← hE3, HXN.out]; exact HMB7.out)
       clear HMB7 hE3
       obtain ⟨us2, t1, t2, t3, t4, t5, t6, t7⟩ := HMB8.out.o
       rw [Hl2.out] at t1 t2
       have T2 := Lib.hid t2
       have TQ := Lib.hid (And.intro t1 (And.intro t3 (And.intro t4 (And.intro t5 (And.intro t6 t7)))))
       have hgm8 := mb_lt HMB8.out
       obtain ⟨-, -, kk2, -, kf2⟩ := HMB8.out.cells
       have HKP : Hid (∀ w', Below W8.heap.size W8 w' → w'.cell? ⟨gm, 2, none⟩ = some vO ∧ w'.cell? ⟨w.heap.size, 2, none⟩ = some (.slice (some ⟨bo, oo, none⟩) m.out.length co) ∧ w'.cell? ⟨gP, k, none⟩ = some (.int .i64 s) ∧ w'.cell? ⟨bo, oo + s, none⟩ = some (.slice Bo j mo)) := Lib.hid fun w' hb => by
        obtain ⟨-, -, x1, x2, -, x3⟩ := HKK.out w' (Hb8.out.trans (hb.mono (by omega)))
        exact ⟨(hb.cell (p := ⟨gm, 2, none⟩) hgm8).trans kk2, x1, x2, x3⟩
       have HRo8 : Hid (∀ w', Below W8.heap.size W8 w' → Row w' 1 (.slice Bo j mo) j (ints qq)) := Lib.hid fun w' hb => by
        have := HRo.out.below (HW2.out w' (Hb8.out.trans (hb.mono (by omega))))
        rwa [Hlq.out] at this
       obtain ⟨i0, hi0, hz0, hz1, hz2⟩ := info_parts info_ints
       obtain ⟨j0, hj0, hy0, hy1, hy2⟩ := info_parts info_int
       have hd0 : Below W8.heap.size W8 W8.drew := (Below.refl W8.heap.size W8).drew
       have hd1 : Below W8.heap.size W8 (W8.alloc (.cells #[] 3)).drew := ((Below.refl W8.heap.size W8).alloc (Nat.le_refl _) (.cells #[] 3)).drew
       obtain ⟨d1, d2, d3, d4⟩ := HKP.out _ hd0
       obtain ⟨f1, f2, f3, f4⟩ := HKP.out _ hd1
       have Hd1 := Lib.hid hd1
       have Hown0 : Hid ((W8.alloc (.cells #[] 3)).drew.ownsRow W8.heap.size 3 1 (.slice (some ⟨W8.heap.size, 0, none⟩) 0 0) 0 []) := Lib.hid (World.ownsRow_lit (base := W8.heap.size) (e := 3) (size := 1) W8 #[] 0 (Nat.le_refl _) (by unfold maxLen; omega) rfl)
       clear t1 t2 t3 t4 t5 t6 t7 kk2 kf2 hd0 hd1
       clear HC2 HRes2 HCC HMW HB HNL HPk PC2 B0 B1 B2 HClen S5 HinsE HW2 HKK HPs HCn HCo HRn HRo Hcl HXN HSl HPL Hbg Hbi Hbr HMB HMB5 Hg7 Na1 Hb
       go_region_law (first
        | (refine step_appZ (by simp [Region.wanted, yielded, Act.put]) (.tmp 98) (.tmp 106) 23 rfl W8.heap.size 3 j0 _ 1 8 Try.underlying23 hj0 hy0 hy1 hy2 rfl (by decide) (.slice (some ⟨W8.heap.size, 0, none⟩) 0 0) 0 [] (by simp [Act.eval, Act.put]) Hown0.out (.slice Bo j mo) j (ints qq) (by simp [Act.eval, Act.put]) (HRo8.out _ Hd1.out) (ints_one _) (by unfold maxLen; omega) (by omega) (by simp <;> omega) ?_; intro v3 w3 hown3 hg3 hat3; have hb3 := Hd1.out.grown hg3 Hd1.out.size (own_ge0 Hown0.out); rw [Nat.zero_add, List.nil_append] at hown3; obtain ⟨A3, c3, hv3⟩ := slice_of_own hown3; subst hv3; obtain ⟨e1, e2, e3, e4⟩ := HKP.out _ hb3; obtain ⟨g1, g2, g3, g4⟩ := HKP.out _ (hb3.alloc hb3.size (.cells #[.slice A3 j c3] 23)))
        | (refine step_appZ (by simp [Region.wanted, yielded, Act.put]) (.tmp 97) (.tmp 108) 51 rfl (gm + 1) 23 i0 _ 1 24 Try.underlying51 hi0 hz0 hz1 hz2 rfl (by decide) vO k us2 (by simp [Act.eval, Act.put]) (own_below T2.out (hb3.alloc hb3.size (.cells #[.slice A3 j c3] 23))) (.slice (some ⟨w3.heap.size, 0, none⟩) 1 1) 1 [.slice A3 j c3] (by simp [Act.eval, Act.put]) (Row.of_own (World.ownsRow_lit (base := w3.heap.size) (e := 23) (size := 1) w3 #[.slice A3 j c3] 1 (Nat.le_refl _) (by unfold maxLen; omega) rfl)) (by simp [Value.oneCell']) (by unfold maxLen; omega) (by omega) (by have := hb3.size; simp <;> omega) ?_; intro v9 w9 hown9 hg9 hat9; obtain ⟨A9, c9, hv9⟩ := slice_of_own hown9; subst hv9; have HMB9 := Lib.hid (MB.addO (u := .slice A3 j c3) (x := qq) (HMB8.out.below (hb3.alloc hb3.size (.cells #[.slice A3 j c3] 23))) (TQ.out.1.trans Hl2.out.symm) (fun i x u hx hu => own_below (TQ.out.2.1 i x u hx hu) (hb3.alloc hb3.size (.cells #[.slice A3 j c3] 23))) TQ.out.2.2.1 TQ.out.2.2.2.1 TQ.out.2.2.2.2.1 TQ.out.2.2.2.2.2 (by rw [Hlq.out]; exact own_mono (hown3.alloc (.cells #[.slice A3 j c3] 23)) (by omega)) (fun g hg he => by have h1 := (hown3.lt g hg).1; have h2 := HMB8.out.l1 g he; omega) (fun g hg he => by have h1 := (hown3.lt g hg).1; have h2 := HMB8.out.l2 g he; omega) (by rw [Hl2.out]; exact hown9) hg9 hat9); have hbx := (hg9.block gm (by have := hb3.size; simp <;> omega) (fun e => by have := (T2.out.lt _ e.symm).1; omega)).trans ((hb3.alloc hb3.size (.cells #[.slice A3 j c3] 23)).block gm hgm8 |>.trans HMB8.out.box); have x2 := blk_cell hbx 2; have y2 := blk_free hbx 2))
       all_goals
        have HB9 := Lib.hid (Only.below (((Hb8.out.trans (hb3.mono (by omega))).alloc (Nat.le_trans (show gm ≤ W8.heap.size by omega) hb3.size) (.cells #[.slice A3 j c3] 23)).grown hg9 (by have h4 := hb3.size; simp <;> omega) (fun q hq => by have := (T2.out.lt q hq).1; omega)) (Only.grown (E := (· = gm)) (set_grown w9 gm 2 (.slice A9 (k + 1) c9)) (fun g hg => (Option.some.inj hg).symm)) (by have h4 := hb3.size; have h5 := hg9.size; rw [World.size_alloc] at h5; omega) (fun g hg => by omega))
        clear hown3 hown9 hg9 hat9 hb3 hbx x2 y2 hg3 hat3
        go_wp2_with fail
        go_roundw
        case rel => exact ⟨k + 1, _, _, _, _, by go_num, by omega, Lib.hid (by rw [HXO.out]; exact HMB9.out), HB9⟩
        case measure => simp [intOf] <;> omega
    ·obtain rfl : k = L.length := by omega
     have hdk3 : decide (L.length < L.length) = false := decide_eq_false (by omega)
     obtain ⟨hd1, hd2⟩ := HMD.out L HB.out
     have HMf : Hid (MB gm N E1 E2 vN vO (Mac.minI m).next (Mac.minI m).out wr) := Lib.hid (by have := HMB.out; rwa [hd1, hd2] at this)
     obtain ⟨k0, k1, k2, k3, k4⟩ := HMf.out.cells
     have hW2 := Hb.out.trans (Hbr.out.mono hzb)
     have hR := (hW2.block (w.heap.size + 1) (by omega)).trans HRes2.out
     have o0 := blk_cell hR 0
     have o1 := blk_cell hR 1
     have o2 := blk_cell hR 2
     have b0 := blk_free hR 0
     have b1 := blk_free hR 1
     have b2 := blk_free hR 2
     simp at o0 o1 o2
     have HB9 := Lib.hid (B2.out.trans (hW2.mono B2.out.size))
     obtain ⟨An', cn', hvN, -, -⟩ := SSAt.shape (OwnSE.at HMf.out.n)
     obtain ⟨Ao', co', hvO, -, -⟩ := SSAt.shape (OwnSE.at HMf.out.o)
     have HMF2 := Lib.hid (And.intro HMf.out.n (And.intro HMf.out.o HMf.out.d))
     have HlN := Lib.hid HMf.out.l1
     have HlO := Lib.hid HMf.out.l2
     have Hsz : Hid (w.heap.size + 1 < gm) := Lib.hid (by omega)
     clear hR HMf HMB hd1 hd2 HMD HMR HSG HSL hW2
     subst hvN hvO
     go_wp2_with fail
     refine bodyPost_ret (v := .agg #[.int .i64 N, .slice An' (Mac.minI m).next.length cn', .slice Ao' (Mac.minI m).out.length co']) (by simp [results, Try.results28, go_sem, o0, o1, o2]) rfl ⟨_, rfl, ⟨_, _, E1, E2, by rw [HinsE.out], fun g he => ?_, fun g he => ?_, HMF2.out.2.2, ?_, ?_⟩, ?_⟩
     ·have h1 := HlN.out g he; simp [World.setCell]; omega
     ·have h1 := HlO.out g he; simp [World.setCell]; omega
     ·exact OwnSE.mono (((OwnSE.set (OwnSE.set (OwnSE.set HMF2.out.1 (by have := Hsz.out; omega)) (by have := Hsz.out; omega)) (by have := Hsz.out; omega)))) (by have := Hsz.out; omega) (fun _ h => h)
     ·exact OwnSE.mono (((OwnSE.set (OwnSE.set (OwnSE.set HMF2.out.2.1 (by have := Hsz.out; omega)) (by have := Hsz.out; omega)) (by have := Hsz.out; omega)))) (by have := Hsz.out; omega) (fun _ h => h)
     ·exact ((HB9.out.setCell (by simp only; omega) _).setCell (by simp only; omega) _).setCell (by simp only; omega) _
theorem specMinz_any (v : Value) (m : Mz) (w : World) (h : MachAt w v m) :
  Calls Try.prog 28 #[v] w (OwnMachZ (Mac.minI m) w) := by
 cases hv : Mac.valid m
 ·have HC := Lib.hid h
  obtain ⟨An, cn, Ao, co, rfl, hcnm, hcom, hcn1, hco1⟩ := h.shape
  have hb0 := bel_new w (.cells #[.int .i64 m.ins, .slice An m.next.length cn, .slice Ao m.out.length co] 53)
  have hb00 := bel_new (w.alloc (.cells #[.int .i64 m.ins, .slice An m.next.length cn, .slice Ao m.out.length co] 53)) (.cells #[.int .i64 0, .slice none 0 0, .slice none 0 0] 53)
  have B0 := Lib.hid (hb0.trans (hb00.mono hb0.size))
  have PC := Lib.hid ((MCells.boxed w m.ins (.slice An m.next.length cn) (.slice Ao m.out.length co) 53).below hb00)
  have hR : ((w.alloc (.cells #[.int .i64 m.ins, .slice An m.next.length cn, .slice Ao m.out.length co] 53)).alloc (.cells #[.int .i64 0, .slice none 0 0, .slice none 0 0] 53)).heap[w.heap.size + 1]? = some (.cells #[.int .i64 0, .slice none 0 0, .slice none 0 0] 53 (0, 0)) := by
   have := heap_alloc_new (w.alloc (.cells #[.int .i64 m.ins, .slice An m.next.length cn, .slice Ao m.out.length co] 53)) (.cells #[.int .i64 0, .slice none 0 0, .slice none 0 0] 53)
   rwa [World.size_alloc] at this
  have HRes := Lib.hid hR
  have hsz : ((w.alloc (.cells #[.int .i64 m.ins, .slice An m.next.length cn, .slice Ao m.out.length co] 53)).alloc (.cells #[.int .i64 0, .slice none 0 0, .slice none 0 0] 53)).heap.size = w.heap.size + 2 := by simp
  obtain ⟨z, p0, p1, p2⟩ := PC.out
  have HC0 := Lib.hid (HC.out.below B0.out)
  have HV := Lib.hid (specMValid_any _ m _ HC0.out)
  rw [hv] at HV
  have HE : Hid (Mac.minI m = ⟨0, [], []⟩) := Lib.hid (by unfold Mac.minI; rw [hv]; rfl)
  rw [HE.out]
  clear hv hb0 hb00 hR h HE
  go_enter Try.func28, Try.ntmps28
  go_wp2_with fail
  generalize (w.alloc (.cells #[.int .i64 m.ins, .slice An m.next.length cn, .slice Ao m.out.length co] 53)).alloc (.cells #[.int .i64 0, .slice none 0 0, .slice none 0 0] 53) = W at *
  refine HV.out.mono ?_
  rintro e w1 ⟨rfl, hb1⟩
  have B1 := Lib.hid (B0.out.trans (hb1.mono B0.out.size))
  have hR := (hb1.block _ (by omega)).trans HRes.out
  have z1 := hb1.size
  have o0 := blk_cell hR 0
  have o1 := blk_cell hR 1
  have o2 := blk_cell hR 2
  have b0 := blk_free hR 0
  have b1 := blk_free hR 1
  have b2 := blk_free hR 2
  simp at o0 o1 o2
  clear hb1 hR p0 p1 p2 z HV
  go_wp2_with fail
  refine bodyPost_ret (v := .agg #[.int .i64 0, .slice none 0 0, .slice none 0 0]) (by simp [results, Try.results28, go_sem, o0, o1, o2]) rfl ⟨_, rfl, ⟨_, _, (fun _ => False), (fun _ => False), rfl, fun g he => he.elim, fun g he => he.elim, fun g he => he.elim, OwnSE.nil _ _ _ _ _ _, OwnSE.nil _ _ _ _ _ _⟩, ?_⟩
  exact ((B1.out.setCell (by simp only; omega) _).setCell (by simp only; omega) _).setCell (by simp only; omega) _
 ·exact specMinz_ok v m w h hv
theorem specMinz_read (v : Value) (m : Mz) (w : World) (h : MachAt w v m) :
  Calls Try.prog 28 #[v] w fun e w' => (∃ u, e = .returned u ∧ MachAt w' u (Mac.minI m)) ∧ Below w.heap.size w w' :=
 (specMinz_any v m w h).mono fun e w' ⟨u, h1, h2, h3⟩ => ⟨⟨u, h1, h2.at⟩, h3⟩
end Go.Proofs.Ytkkkjbinfdohpaa
namespace Go.Proofs.Ytkkkjbinfdohpaa
open Go.RowKit
namespace Cir
def rowOk (i : Int) (r : List Bool) : Bool := decide ((r.length : Int) = i)
def rowsOk (c : Cz) (rss : List (List Bool)) : Bool := valid c && (decide (rss.length ≤ 40) && rss.all (rowOk c.ins))
def terns (r : List Bool) : List Nat := r.map Bool.toNat
end Cir
end Go.Proofs.Ytkkkjbinfdohpaa
namespace Go.Proofs.Ytkkkjbinfdohpaa
open Go.RowKit
end Go.Proofs.Ytkkkjbinfdohpaa
namespace Go.Proofs.Ytkkkjbinfdohpaa
open Go.RowKit
namespace Cir
def tstep (d : Ci) (st : List Nat) (r : List Bool) : List Nat := tnext d (tvals d st (terns r))
def tst (d : Ci) (rss : List (List Bool)) : List Nat := rss.foldl (tstep d) (List.replicate d.next.length 2)
def resets (c : Cz) (rss : List (List Bool)) : Bool := rowsOk c rss && !memB (tst (nat c) rss) 2
def Tst (d : Ci) (st : List Nat) : Prop := st.length = d.next.length ∧ ∀ x ∈ st, x ≤ 2
end Cir
end Go.Proofs.Ytkkkjbinfdohpaa
namespace Go.Proofs.Ytkkkjbinfdohpaa
open Go.RowKit
namespace Cir
end Cir
theorem lawContains_any (v : Value) (xs : List Nat) (n : Nat) (w : World) (h : NatsAt w v xs) (hn : n ≤ 1000000) :
  Calls Try.prog 32 #[v, .int .i64 n] w fun e w' => e = .returned (.bool (Cir.memB xs n)) ∧ w = w' := by
 obtain ⟨A, c, rfl, hc, hcm⟩ := h.shape
 unfold maxLen at hcm
 have H := Lib.hid h
 have h0 : Hid (Cir.memB xs n = (xs.drop 0).contains n) := Lib.hid rfl
 generalize Cir.memB xs n = res at h0 ⊢
 clear h
 go_enter Try.func32, Try.ntmps32
 go_wp2_with fail
 go_loop [5] (fun i => ∃ k : Nat, k ≤ xs.length ∧ i = .int .i64 k ∧ Hid (res = (xs.drop k).contains n)) (fun i => xs.length - (intOf i).toNat)
 case atStart => exact ⟨0, Nat.zero_le _, rfl, h0⟩
 case round =>
  obtain ⟨k, hk, rfl, hres⟩ := hrel
  clear h0
  by_cases hlt : k < xs.length
  ·obtain ⟨b, o, x, rfl, hbl, hx, hs1⟩ := nats_cell (nats_row H.out) rfl hlt
   have Hstep : Hid ((xs.drop k).contains n = (n == x || (xs.drop (k + 1)).contains n)) := Lib.hid (by
    obtain ⟨hk', e⟩ := List.getElem?_eq_some_iff.1 hx.out
    rw [List.drop_eq_getElem_cons hk', e, List.contains_cons])
   by_cases hxn : x = n
   ·obtain rfl : res = true := by rw [hres.out, Hstep.out, hxn]; simp
    have hq : ((x : Int) == (n : Int)) = true := by simp [hxn]
    clear hxn
    go_wp2_with fail
    go_ret
    exact ⟨rfl, rfl⟩
   ·have Hn : Hid (res = (xs.drop (k + 1)).contains n) := Lib.hid (by rw [hres.out, Hstep.out, show (n == x) = false from by simpa using fun e => hxn e.symm]; rfl)
    have hq : ((x : Int) == (n : Int)) = false := by simp; omega
    clear hxn
    go_wp2_with fail
    go_round
    case rel => exact ⟨k + 1, by omega, by go_num, Hn⟩
    case measure => simp [intOf] <;> omega
  ·obtain rfl : res = false := by rw [hres.out, List.drop_eq_nil_of_le (by omega : xs.length ≤ k)]; rfl
   go_wp2_with fail
   go_ret
   exact ⟨rfl, rfl⟩
end Go.Proofs.Ytkkkjbinfdohpaa
namespace Go.Proofs.Ytkkkjbinfdohpaa
open Go.RowKit
end Go.Proofs.Ytkkkjbinfdohpaa
namespace Go.Proofs.Ytkkkjbinfdohpaa
open Go.RowKit
theorem append_nil_nil (w : World) : (Builtin.append_ #[23, 23] 23 #[.slice none 0 0, .slice none 0 0]).run Try.prog w = .ok (.slice none 0 0) w := by kernel_rfl
theorem roots_zero (g : Nat) (w : World) (h1 : w.cell? ⟨g, 1, none⟩ = some (.slice none 0 0)) (h3 : w.cell? ⟨g, 3, none⟩ = some (.slice none 0 0)) :
  Calls Try.prog 81 #[.pointer (some ⟨g, 0, none⟩)] w fun e w' => e = .returned (.slice none 0 0) ∧ Drew w w' := by
 have hap := append_nil_nil
 go_enter Try.func81, Try.ntmps81
 go_wp2_with fail
 go_quiet (fail)
 go_wp2_with fail
 go_ret
 exact ⟨rfl, Drew.by _ _⟩
theorem valid_zero (w : World) : Calls Try.prog 38 #[.agg #[.int .i64 0, .slice none 0 0, .slice none 0 0, .slice none 0 0]] w fun e w' => e = .returned (.bool true) ∧ Below w.heap.size w w' := by
 go_enter Try.func38, Try.ntmps38
 go_wp2
 go_loop [44] (fun i => i = .int .i64 0) (fun _ => 0)
 case atStart => rfl
 case round =>
  obtain rfl := hrel
  go_wp2_with fail
  refine (roots_zero w.heap.size _ ?_ ?_).mono ?_
  ·simp [World.cell?_alloc_new]
  ·simp [World.cell?_alloc_new]
  rintro e w' ⟨rfl, hd⟩
  go_wp2
  go_loop [68] (fun i => i = .int .i64 0) (fun _ => 0)
  case atStart => rfl
  case round =>
   obtain rfl := hrel
   go_wp2
   go_ret
   exact ⟨rfl, ((Below.refl _ _).alloc (Nat.le_refl _) _).trans (hd.below _)⟩
theorem alive_any (w : World) : Calls Try.prog 10 #[] w fun e w' => e = .returned (.bool true) ∧ Below w.heap.size w w' := by
 go_enter Try.func10, Try.ntmps10
 go_wp2_with (go_at_call 38; refine (valid_zero _).mono ?_; rintro e w' ⟨rfl, hb⟩)
 go_ret
 exact ⟨rfl, hb⟩
end Go.Proofs.Ytkkkjbinfdohpaa