/- Contracts of big.OfHash and big.ToHash. -/
import Derived.Test.YtefnlmiephombaaMem
import Derived.Test.YtefnlmiephombaaHs
import Derived.Lib.Hide
namespace Go.Proofs.Ytefnlmiephombaa
open Go.RowKit
/-- 'a[i]' of an array of integers by value -/
theorem run_index_ints {P : Program} (t e : TypeId) (q : IntKind) (n : Nat) (bs : List Int) (i : Int) (ht : P.underlying t = some (.array n e)) (he : P.underlying e = some (.int q)) (hsz : ∀ w, (sizeOf e).run P w = .ok 1 w) (hl : bs.length = n)
    (h0 : 0 ≤ i) (h1 : i < n) (w : World) : (Instr.index t (.agg (bs.map (Value.int q)).toArray) (.int .i64 i)).run P w = .ok (.int q (bs.getD i.toNat 0)) w := by
  have hi : i.toNat < bs.length := by omega
  simp [Instr.index, run_underlying ht, asIntOf, h0, h1, part, isAgg, run_underlying he, hsz, List.getD, List.getElem?_eq_getElem hi]

set_option maxHeartbeats 400000 in
theorem ofhash_c (bs : List Int) (hl : bs.length = 32) (hbs : Bytes bs) (w : World) :
    Calls Try.prog 33 #[.agg (bs.map (Value.int .u8)).toArray] w fun e w' => e = .returned (big (ofBytes bs)) ∧ Below w.heap.size w w' := by
  unfold big
  go_enter Try.func33, Try.ntmps33
  have hg : (((w.alloc (.cells (bs.map (Value.int .u8)).toArray 42)).alloc (.cells #[.int .u64 0, .int .u64 0, .int .u64 0, .int .u64 0] 24)).alloc (.cells #[.int .u64 0, .int .u64 0, .int .u64 0, .int .u64 0] 24)).heap[w.heap.size]? = some (.cells (bs.map (Value.int .u8)).toArray 42 (0, 0)) := by
    rw [Below.heap_alloc _ _ _ (by simp; omega), Below.heap_alloc _ _ _ (by simp), heap_alloc_new]
  have hsz : (Try.prog.info? 42).map (·.size) = some (bs.map (Value.int .u8)).toArray.size := by
    rw [show (bs.map (Value.int .u8)).toArray.size = 32 by simp [hl]]; kernel_rfl
  have hix := fun (i : Int) (h0 : 0 ≤ i) (h1 : i < 32) (w : World) => run_index_ints (P := Try.prog) 42 5 .u8 32 bs i (Try.underlying42.trans rfl) Try.underlying5 (fun _ => by simp [go_sem]) hl h0 h1 w
  have Hg := Lib.hid hg
  have Hs := Lib.hid hsz
  clear hg hsz
  go_wp2_with (refine wpList_load_row rfl 42 _ rfl w.heap.size rfl 42 _ _ _ Hg.out Try.underlying42 rfl Hs.out ?_)
  have HL := Lib.hid hl
  clear hl Hg
  refine wp_gen (fun W => Cells4 W (w.heap.size + 1) 0 ∧ Cells4 W (w.heap.size + 1 + 1) 0 ∧ Below w.heap.size w W) ⟨(cells4_new' (w.alloc _) _ 0 (by simp)).alloc _, cells4_new' ((w.alloc _).alloc _) _ 0 (by simp), bel_alloc (bel_alloc (bel_alloc (Below.refl _ _) _) _) _⟩ ?_
  rintro W ⟨cR, cO, hB⟩
  go_loopw [7] (fun i wr => ∃ k : Nat, k ≤ 32 ∧ i = .int .i64 k ∧ Cells4 wr (w.heap.size + 1) 0 ∧ Cells4 wr (w.heap.size + 1 + 1) (ofBytes (bs.take k)) ∧ Below w.heap.size w wr) (fun i _ => 32 - (intOf i).toNat)
  case atStart => exact ⟨0, by omega, rfl, cR, cO, hB⟩
  case round =>
    obtain ⟨k, hk, rfl, cR, cO, hB⟩ := hrel
    by_cases hlt : k < 32
    · obtain ⟨r, hr, hc⟩ : ∃ r : Nat, r < 8 ∧ (k = r ∨ k = 8 + r ∨ k = 16 + r ∨ k = 24 + r) := ⟨k % 8, by omega, by omega⟩
      have hm : (k : Int) % 8 = r := by omega
      obtain ⟨c0, c1, c2, c3, f0, f1, f2, f3⟩ := id cO
      have hkl : (bs.take k).length = k := by simp [HL.out]; omega
      obtain ⟨hv0, hv1⟩ := ofBytes_bd _ (bytes_take bs hbs k)
      have hvM : ofBytes (bs.take k) < M := by
        rw [hkl] at hv1
        have : (256 : Int) ^ k ≤ M := by
          have h := Int.ofNat_le.2 (Nat.pow_le_pow_right (show 0 < 256 by omega) (show k ≤ 32 by omega))
          rw [Int.natCast_pow, Int.natCast_pow] at h
          exact Int.le_trans h (by unfold M; decide)
        omega
      have hb : 0 ≤ bs[k]?.getD 0 ∧ bs[k]?.getD 0 ≤ 255 := by
        rw [List.getElem?_eq_getElem (by rw [HL.out]; exact hlt)]; exact hbs _ (List.getElem_mem _)
      have hsn : ofBytes (bs.take (k + 1)) = ofBytes (bs.take k) + bs[k]?.getD 0 * 256 ^ k := by
        rw [List.take_add_one, List.getElem?_eq_getElem (by rw [HL.out]; exact hlt)]
        simp only [Option.toList_some, Option.getD_some]
        rw [ofBytes_snoc, hkl]
      have hb0 := hb.1
      have hb1 := hb.2
      rcases hc with hc | hc | hc | hc
      · have hq : (k : Int) / 8 = 0 := by omega
        have hqN : k / 8 = 0 := by omega
        have hpow : (256 : Int) ^ k = 256 ^ r := by rw [hc]
        have hv := (limb_lt (ofBytes (bs.take k)) hv0 hvM (256 ^ r)).1 (by rw [hkl, hpow] at hv1; exact hv1)
        obtain ⟨o1, o2, o3⟩ := or_byte (L0 (ofBytes (bs.take k))) (bs[k]?.getD 0) r hr (L0_nn _) hv hb.1 hb.2
        obtain ⟨l0, l1, l2, l3⟩ := addlimb0 (ofBytes (bs.take k)) (bs[k]?.getD 0 * 256 ^ r) hv0 hvM o2 o3
        have hst : ofBytes (bs.take (k + 1)) = ofBytes (bs.take k) + (bs[k]?.getD 0 * 256 ^ r) := by rw [hsn, hpow]
        rw [← hst] at l0 l1 l2 l3
        rw [← l0] at o1
        have T0 := Lib.hid l0; have T1 := Lib.hid l1; have T2 := Lib.hid l2; have T3 := Lib.hid l3
        have HC := Lib.hid hc
        clear hst l0 l1 l2 l3 hv o2 o3 hpow hsn hv0 hv1 hvM hkl hb hc
        go_wp2
        go_region
        all_goals go_wp2
        go_roundw
        case rel => exact ⟨k + 1, by omega, by go_num, (cR.set_other (by omega) _).drew, (cO.set0 _ T1.out T2.out T3.out).drew, (hB.setCell (p := ⟨_, 0, none⟩) (by simp; omega) _).drew⟩
        case measure => simp [intOf]; omega
      · have hq : (k : Int) / 8 = 1 := by omega
        have hqN : k / 8 = 1 := by omega
        have hpow : (256 : Int) ^ k = 18446744073709551616 * 256 ^ r := by rw [hc]; simp only [Int.pow_add, Int.pow_succ, Int.pow_zero]; omega
        have hv := (limb_lt (ofBytes (bs.take k)) hv0 hvM (256 ^ r)).2.1 (by rw [hkl, hpow] at hv1; exact hv1)
        obtain ⟨o1, o2, o3⟩ := or_byte (L1 (ofBytes (bs.take k))) (bs[k]?.getD 0) r hr (L1_nn _) hv hb.1 hb.2
        obtain ⟨l0, l1, l2, l3⟩ := addlimb1 (ofBytes (bs.take k)) (bs[k]?.getD 0 * 256 ^ r) hv0 hvM o2 o3
        have hst : ofBytes (bs.take (k + 1)) = ofBytes (bs.take k) + 18446744073709551616 * (bs[k]?.getD 0 * 256 ^ r) := by rw [hsn, hpow]; simp only [Int.mul_left_comm (bs[k]?.getD 0)]
        rw [← hst] at l0 l1 l2 l3
        rw [← l1] at o1
        have T0 := Lib.hid l0; have T1 := Lib.hid l1; have T2 := Lib.hid l2; have T3 := Lib.hid l3
        have HC := Lib.hid hc
        clear hst l0 l1 l2 l3 hv o2 o3 hpow hsn hv0 hv1 hvM hkl hb hc
        go_wp2
        go_region
        all_goals go_wp2
        go_roundw
        case rel => exact ⟨k + 1, by omega, by go_num, (cR.set_other (by omega) _).drew, (cO.set1 _ T0.out T2.out T3.out).drew, (hB.setCell (p := ⟨_, 1, none⟩) (by simp; omega) _).drew⟩
        case measure => simp [intOf]; omega
      · have hq : (k : Int) / 8 = 2 := by omega
        have hqN : k / 8 = 2 := by omega
        have hpow : (256 : Int) ^ k = 18446744073709551616 * (18446744073709551616 * 256 ^ r) := by rw [hc]; simp only [Int.pow_add, Int.pow_succ, Int.pow_zero]; omega
        have hv := (limb_lt (ofBytes (bs.take k)) hv0 hvM (256 ^ r)).2.2.1 (by rw [hkl, hpow] at hv1; exact hv1)
        obtain ⟨o1, o2, o3⟩ := or_byte (L2 (ofBytes (bs.take k))) (bs[k]?.getD 0) r hr (L2_nn _) hv hb.1 hb.2
        obtain ⟨l0, l1, l2, l3⟩ := addlimb2 (ofBytes (bs.take k)) (bs[k]?.getD 0 * 256 ^ r) hv0 hvM o2 o3
        have hst : ofBytes (bs.take (k + 1)) = ofBytes (bs.take k) + 18446744073709551616 * (18446744073709551616 * (bs[k]?.getD 0 * 256 ^ r)) := by rw [hsn, hpow]; simp only [Int.mul_left_comm (bs[k]?.getD 0)]
        rw [← hst] at l0 l1 l2 l3
        rw [← l2] at o1
        have T0 := Lib.hid l0; have T1 := Lib.hid l1; have T2 := Lib.hid l2; have T3 := Lib.hid l3
        have HC := Lib.hid hc
        clear hst l0 l1 l2 l3 hv o2 o3 hpow hsn hv0 hv1 hvM hkl hb hc
        go_wp2
        go_region
        all_goals go_wp2
        go_roundw
        case rel => exact ⟨k + 1, by omega, by go_num, (cR.set_other (by omega) _).drew, (cO.set2 _ T0.out T1.out T3.out).drew, (hB.setCell (p := ⟨_, 2, none⟩) (by simp; omega) _).drew⟩
        case measure => simp [intOf]; omega
      · have hq : (k : Int) / 8 = 3 := by omega
        have hqN : k / 8 = 3 := by omega
        have hpow : (256 : Int) ^ k = 18446744073709551616 * (18446744073709551616 * (18446744073709551616 * 256 ^ r)) := by rw [hc]; simp only [Int.pow_add, Int.pow_succ, Int.pow_zero]; omega
        have hv := (limb_lt (ofBytes (bs.take k)) hv0 hvM (256 ^ r)).2.2.2 (by rw [hkl, hpow] at hv1; exact hv1)
        obtain ⟨o1, o2, o3⟩ := or_byte (L3 (ofBytes (bs.take k))) (bs[k]?.getD 0) r hr (L3_nn _) hv hb.1 hb.2
        obtain ⟨l0, l1, l2, l3⟩ := addlimb3 (ofBytes (bs.take k)) (bs[k]?.getD 0 * 256 ^ r) hv0 hvM o2 o3
        have hst : ofBytes (bs.take (k + 1)) = ofBytes (bs.take k) + 18446744073709551616 * (18446744073709551616 * (18446744073709551616 * (bs[k]?.getD 0 * 256 ^ r))) := by rw [hsn, hpow]; simp only [Int.mul_left_comm (bs[k]?.getD 0)]
        rw [← hst] at l0 l1 l2 l3
        rw [← l3] at o1
        have T0 := Lib.hid l0; have T1 := Lib.hid l1; have T2 := Lib.hid l2; have T3 := Lib.hid l3
        have HC := Lib.hid hc
        clear hst l0 l1 l2 l3 hv o2 o3 hpow hsn hv0 hv1 hvM hkl hb hc
        go_wp2
        go_region
        all_goals go_wp2
        go_roundw
        case rel => exact ⟨k + 1, by omega, by go_num, (cR.set_other (by omega) _).drew, (cO.set3 _ T0.out T1.out T2.out).drew, (hB.setCell (p := ⟨_, 3, none⟩) (by simp; omega) _).drew⟩
        case measure => simp [intOf]; omega
    · have hk32 : k = 32 := by omega
      have hbt : bs.take k = bs := by rw [hk32]; exact List.take_of_length_le (by rw [HL.out]; omega)
      rw [hbt] at cO
      clear hbt
      obtain ⟨c0, c1, c2, c3, f0, f1, f2, f3⟩ := id cO
      obtain ⟨r0, r1, r2, r3, r4, r5, r6, r7⟩ := id cR
      go_wp2
      exact bodyPost_ret (v := .agg #[.int .u64 (L0 (ofBytes bs)), .int .u64 (L1 (ofBytes bs)), .int .u64 (L2 (ofBytes bs)), .int .u64 (L3 (ofBytes bs))]) (by simp [results, Try.results33, go_sem, r0, r1, r2, r3]) rfl
        ⟨rfl, below_put4 hB (by omega) _⟩
end Go.Proofs.Ytefnlmiephombaa
