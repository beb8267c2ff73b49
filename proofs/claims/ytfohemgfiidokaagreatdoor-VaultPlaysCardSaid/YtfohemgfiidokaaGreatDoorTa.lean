/- The document's padded text. -/
import Derived.Test.YtfohemgfiidokaaGreatDoorSh
namespace Go.Proofs.YtfohemgfiidokaaGreatDoor
open Go.RowKit Go.Sort
attribute [local go_sem ↓] Go.wp_at_zero Go.wp_at_succ

theorem RdB.form {w : World} {v : Value} {xs : List Int} (h : RdB w v xs) : ∃ p c, v = .slice p xs.length c := by
  rcases h with ⟨rfl, rfl⟩ | ⟨a, g, o, cap, rfl, _⟩
  · exact ⟨_, _, rfl⟩
  · exact ⟨_, _, rfl⟩
theorem rowO_empty (w : World) : RowO (w.alloc (.cells #[] 5)) w.heap.size (.slice (some ⟨w.heap.size, 0, none⟩) 0 0) [] :=
  ⟨rfl, .inr ⟨_, 0, #[], rfl, Nat.le_refl _, heap_alloc_new _ _, Nat.le_refl _, by unfold maxLen; omega, rfl, rfl⟩⟩
set_option maxRecDepth 100000 in
set_option maxHeartbeats 4000000 in
theorem text_c (v : Value) (xs : List Int) (w : World) (hv : RdB w v xs) (hsz : xs.length ≤ 100000000) :
    Calls Tryz.prog 106 #[v] w fun e w' => ∃ v', e = .returned v' ∧ RowO w' w.heap.size v' (padL xs) ∧ Below w.heap.size w w' := by
  obtain ⟨p, c, rfl⟩ := hv.form
  have hpz : padZ xs.length = (119 - xs.length % 64) % 64 := rfl
  have hO0 := Lib.hid (rowO_empty w)
  have hB0 := Lib.hid (bel_alloc (Below.refl _ w) (.cells #[] 5))
  have hV0 := Lib.hid (hv.keep (bel_alloc (Below.refl _ w) (.cells #[] 5)))
  have HV := Lib.hid hv
  clear hv
  go_enter Tryz.func106, Tryz.ntmps106
  go_upto_region 2 with (at_builtin; refine wpList_append_rd rfl _ _ rfl w.heap.size hB0.out.size _ [] rfl hO0.out _ xs rfl hV0.out (by simp; omega) ?_; intro v1 w1 hr1 hg1; have hb1 := Lib.hid (grown_below hO0.out hB0.out hB0.out.size hg1); have HR1 := Lib.hid hr1; clear hg1 hr1)
  have HR1' := Lib.hid (RowO.keep HR1.out (bel_alloc (Below.refl _ w1) (.cells #[.int .u8 128] 5)))
  have hB1' := Lib.hid (bel_alloc hb1.out (.cells #[.int .u8 128] 5))
  go_upto_region 3 with (at_builtin; refine wpList_append_rd rfl _ _ rfl w.heap.size hB1'.out.size _ _ rfl HR1'.out _ [128] rfl (rdb_one _ _) (by simp; omega) ?_; intro v2 w2 hr2 hg2; have hb2 := Lib.hid (grown_below HR1'.out hB1'.out hB1'.out.size hg2); have HR2 := Lib.hid hr2; clear hg2 hr2)
  go_loopw [3] (fun v wr => ∃ j : Nat, j ≤ padZ xs.length ∧ RowO wr w.heap.size v (xs ++ [128] ++ List.replicate j 0) ∧ Below w.heap.size w wr) (fun v _ => xs.length + 65 - sliceLen v)
  case atStart => exact ⟨0, by omega, by simpa using HR2.out, hb2.out⟩
  case round =>
    clear HR2 hb2 HR1' hB1' HR1 hb1 hO0 hB0 hV0
    obtain ⟨j, hj, hR, hB⟩ := hrel
    have hxl : (xs ++ [128] ++ List.replicate j 0).length = xs.length + 1 + j := by simp; omega
    obtain ⟨q, cq, hform⟩ := (RowO.rd hR).form
    subst hform
    rw [hxl] at hR ⊢
    by_cases hmod : (xs.length + 1 + j) % 64 = 56
    · have hjz : j = padZ xs.length := by omega
      have hI : ((xs.length : Int) + 1 + (j : Int)) % 64 = 56 := by omega
      subst hjz
      have HR := Lib.hid hR; have HB := Lib.hid hB
      clear hR hB
      obtain ⟨N, hN⟩ : ∃ N : Int, (xs.length : Int) * 8 = N := ⟨_, rfl⟩
      have hN0 : 0 ≤ N := by omega
      have hN1 : N ≤ 1000000000000 := by omega
      have HNN := Lib.hid hN
      have hPl : (xs ++ [128] ++ List.replicate (padZ xs.length) 0).length = xs.length + 1 + padZ xs.length := by simp; omega
      obtain ⟨P0, hP0⟩ : ∃ P0, xs ++ [128] ++ List.replicate (padZ xs.length) (0 : Int) = P0 := ⟨_, rfl⟩
      rw [hP0] at HR hPl
      have HP := Lib.hid hP0
      have hp64 : padZ xs.length < 64 := by omega
      clear hP0 hpz
      go_upto_region 7 with fail
      go_loopw [3, 5] (fun v i wr => ∃ t : Nat, t ≤ 8 ∧ i = .int .i64 (7 - (t : Int)) ∧ RowO wr w.heap.size v (P0 ++ (be8 N).take t) ∧ Below w.heap.size w wr) (fun _ i _ => (intOf i + 1).toNat)
      case atStart => exact ⟨0, by omega, by simp, by simpa using HR.out, HB.out⟩
      case round =>
        clear HR HB hI hmod
        obtain ⟨t, ht, rfl, hR, hB⟩ := hrel
        have htl : (P0 ++ (be8 N).take t).length = P0.length + t := by simp [be8_len]; omega
        by_cases hlt : t < 8
        · have hbt : (be8 N).take (t + 1) = (be8 N).take t ++ [N / 2 ^ (8 * (7 - t)) % 256] := by rw [List.take_add_one, be8_get N t hlt, show 56 - 8 * t = 8 * (7 - t) by omega]; rfl
          have HBT := Lib.hid hbt
          have i0 : (0 : Int) ≤ (t : Int) := by omega
          have j0 : (t : Int) < 8 := by omega
          have HR := Lib.hid (RowO.keep hR (bel_alloc (Below.refl _ wr) (.cells #[.int .u8 (N / 2 ^ (8 * (7 - t)) % 256)] 5)))
          have HB := Lib.hid (hB.alloc hB.size (.cells #[.int .u8 (N / 2 ^ (8 * (7 - t)) % 256)] 5))
          have HL := Lib.hid (show (P0 ++ (be8 N).take t).length + [N / 2 ^ (8 * (7 - t)) % 256].length ≤ 1000000000 by rw [htl]; simp; omega)
          clear hR hB hbt
          go_wp2_with (at_builtin; refine wpList_append_rd rfl _ _ rfl w.heap.size HB.out.size _ _ rfl HR.out _ [N / 2 ^ (8 * (7 - t)) % 256] rfl (rdb_one _ _) HL.out ?_; intro v3 w3 hr3 hg3; have hb3 := Lib.hid (grown_below HR.out HB.out HB.out.size hg3); have HR3 := Lib.hid hr3; clear hg3 hr3)
          have hr3 := HR3.out
          rw [List.append_assoc, ← HBT.out] at hr3
          go_roundw
          case rel => exact ⟨t + 1, by omega, by go_num, hr3, hb3.out⟩
          case measure => simp [intOf]; omega
        · obtain rfl : t = 8 := by omega
          rw [List.take_of_length_le (by rw [be8_len]; omega), ← HP.out, padL_eq _ _ HNN.out] at hR
          have HR := Lib.hid hR; have HB := Lib.hid hB
          clear hR hB
          go_wp2_with fail
          go_ret
          exact ⟨_, rfl, HR.out, HB.out⟩
    · have hI : ¬ ((xs.length : Int) + 1 + (j : Int)) % 64 = 56 := by omega
      have HR := Lib.hid (RowO.keep hR (bel_alloc (Below.refl _ wr) (.cells #[.int .u8 0] 5)))
      have HB := Lib.hid (hB.alloc hB.size (.cells #[.int .u8 0] 5))
      clear hR hB
      go_wp2_with (at_builtin; refine wpList_append_rd rfl _ _ rfl w.heap.size HB.out.size _ _ rfl HR.out _ [0] rfl (rdb_one _ _) (by simp; omega) ?_; intro v3 w3 hr3 hg3; have hb3 := Lib.hid (grown_below HR.out HB.out HB.out.size hg3); have HR3 := Lib.hid hr3; clear hg3 hr3)
      have hr3 := HR3.out
      rw [stV_add] at hr3
      have hl3 := (RowO.rd hr3).len
      exact ⟨⟨j + 1, by omega, hr3, hb3.out⟩, by rw [hl3]; simp [sliceLen]; omega⟩
end Go.Proofs.YtfohemgfiidokaaGreatDoor
