/- The contract of scantlingref02.From. -/
import Derived.Test.YtefnlmiephombaaRc
namespace Go.Proofs.Ytefnlmiephombaa
open Go.RowKit Go.Sort

theorem or_bit (a : Int) (r : Nat) (hr : r < 64) (ha : 0 ≤ a) (ha' : a < 2 ^ r) :
    bits .or .u64 a (IntKind.u64.wrap (2 ^ r)) = a + 2 ^ r ∧ 0 ≤ (2 : Int) ^ r ∧ a + 2 ^ r ≤ 18446744073709551615 := by
  obtain ⟨a, rfl⟩ := Int.eq_ofNat_of_zero_le ha
  have e : ((2 : Int) ^ r) = ((2 ^ r : Nat) : Int) := by rw [Int.natCast_pow]; rfl
  rw [e] at ha' ⊢
  have ha2 : a < 2 ^ r := by omega
  have hp : 2 ^ r + 2 ^ r ≤ 18446744073709551616 := by
    have := Nat.pow_le_pow_right (show 0 < 2 by omega) (show r + 1 ≤ 64 by omega)
    rw [Nat.pow_succ] at this; omega
  have hp0 : 0 < 2 ^ r := Nat.pow_pos (by omega)
  have e4 : lo ((2 ^ r : Nat) : Int) = ((2 ^ r : Nat) : Int) := by
    generalize 2 ^ r = z at *
    unfold lo; omega
  rw [wrap_lo, e4]
  have h1 : 2 ^ r < 2 ^ 64 := by generalize 2 ^ r = z at *; omega
  have h2 : a < 2 ^ 64 := by omega
  have e5 := or_add _ _ _ (Nat.dvd_refl (2 ^ r)) ha2 h1 h2
  rw [bits_or_u64 _ _ h1 h2] at e5
  rw [bits_or_u64 _ _ h2 h1, Nat.or_comm, e5]
  generalize 2 ^ r = y at *
  omega

set_option maxRecDepth 100000 in
set_option maxHeartbeats 1600000 in
theorem from_c (g o n cap : Nat) (bs : List Int) (hl : bs.length = n) (hbs : Bits bs) (hn : 256 ≤ n) (hn2 : n ≤ 1000000) (w : World) (hg : g < w.heap.size)
    (hcell : ∀ j, j < n → w.cell? ⟨g, o + j, none⟩ = some (.int .i64 (bs[j]?.getD 0))) :
    Calls Try.prog 49 #[.slice (some ⟨g, o, none⟩) n cap] w fun e w' => e = .returned (big (ofBits (bs.take 256))) ∧ Below w.heap.size w w' := by
  unfold big
  go_enter Try.func49, Try.ntmps49
  go_wp2
  refine wp_gen (fun W => Cells4 W w.heap.size 0 ∧ Cells4 W (w.heap.size + 1) 0 ∧ Below w.heap.size w W) ⟨(cells4_new' w _ 0 (by simp)).alloc _, cells4_new' (w.alloc _) _ 0 (by simp), bel_alloc (bel_alloc (Below.refl _ _) _) _⟩ ?_
  rintro W ⟨cR, cO, hB⟩
  go_loopw [4] (fun i wr => ∃ k : Nat, k ≤ 256 ∧ i = .int .i64 k ∧ Cells4 wr w.heap.size 0 ∧ Cells4 wr (w.heap.size + 1) (ofBits (bs.take k)) ∧ Below w.heap.size w wr) (fun i _ => 256 - (intOf i).toNat)
  case atStart => exact ⟨0, by omega, rfl, cR, cO, hB⟩
  case round =>
    clear cR cO hB
    obtain ⟨k, hk, rfl, cR, cO, hB⟩ := hrel
    by_cases hlt : k < 256
    · obtain ⟨r, hr, hc⟩ : ∃ r : Nat, r < 64 ∧ (k = r ∨ k = 64 + r ∨ k = 128 + r ∨ k = 192 + r) := ⟨k % 64, by omega, by omega⟩
      have hm : (k : Int) % 64 = r := by omega
      have hck : wr.cell? ⟨g, o + k, none⟩ = some (.int .i64 (bs[k]?.getD 0)) := by rw [hB.cell hg]; exact hcell k (by omega)
      obtain ⟨c0, c1, c2, c3, f0, f1, f2, f3⟩ := id cO
      have hkl : (bs.take k).length = k := by simp; omega
      obtain ⟨hv0, hv1⟩ := ofBits_bd _ (bits_take bs hbs k)
      have hvM : ofBits (bs.take k) < M := by
        rw [hkl] at hv1
        have := pow_mono (show k ≤ 256 by omega)
        rw [← M_two] at this
        omega
      have hb : 0 ≤ bs[k]?.getD 0 ∧ bs[k]?.getD 0 ≤ 1 := by
        rw [List.getElem?_eq_getElem (by omega)]; exact hbs _ (List.getElem_mem _)
      have hsn : ofBits (bs.take (k + 1)) = ofBits (bs.take k) + bs[k]?.getD 0 * 2 ^ k := by
        rw [List.take_add_one, List.getElem?_eq_getElem (by omega)]
        simp only [Option.toList_some, Option.getD_some]
        rw [ofBits_snoc, hkl]
      have hkn : (k : Int) < n := by omega
      have hb01 : bs[k]?.getD 0 = 0 ∨ bs[k]?.getD 0 = 1 := by omega
      clear hcell
      rcases hb01 with hb | hb
      · have hst : ofBits (bs.take (k + 1)) = ofBits (bs.take k) := by rw [hsn, hb, Int.zero_mul, Int.add_zero]
        rw [hb] at hck
        have HS := Lib.hid hst
        clear hst hsn hv0 hv1 hvM hkl hb hc
        go_wp2
        go_roundw
        case rel => exact ⟨k + 1, by omega, by go_num, cR, by rw [HS.out]; exact cO, hB⟩
        case measure => simp [intOf]; omega
      rw [hb] at hck
      rcases hc with hc | hc | hc | hc
      · have hq : (k : Int) / 64 = 0 := by omega
        have hqN : k / 64 = 0 := by omega
        have hpow : (2:Int) ^ k = 2 ^ r := by rw [hc]
        have hv := (limb_lt (ofBits (bs.take k)) hv0 hvM (2 ^ r)).1 (by rw [hkl, hpow] at hv1; exact hv1)
        obtain ⟨o1, o2, o3⟩ := or_bit (L0 (ofBits (bs.take k))) r hr (L0_nn _) hv
        obtain ⟨l0, l1, l2, l3⟩ := addlimb0 (ofBits (bs.take k)) (2 ^ r) hv0 hvM o2 o3
        have hst : ofBits (bs.take (k + 1)) = ofBits (bs.take k) + 2 ^ r := by rw [hsn, hb, Int.one_mul, hpow]
        rw [← hst] at l0 l1 l2 l3
        rw [← l0] at o1
        have T0 := Lib.hid l0; have T1 := Lib.hid l1; have T2 := Lib.hid l2; have T3 := Lib.hid l3
        have HC := Lib.hid hc
        clear hst l0 l1 l2 l3 hv o2 o3 hpow hsn hv0 hv1 hvM hkl hb hc
        go_wp2
        go_roundw
        case rel => exact ⟨k + 1, by omega, by go_num, cR.set_other (by omega) _, cO.set0 _ T1.out T2.out T3.out, hB.setCell (p := ⟨_, 0, none⟩) (by simp) _⟩
        case measure => simp [intOf]; omega
      · have hq : (k : Int) / 64 = 1 := by omega
        have hqN : k / 64 = 1 := by omega
        have hpow : (2:Int) ^ k = 18446744073709551616 * 2 ^ r := by rw [hc]; simp only [Int.pow_add, Int.pow_succ, Int.pow_zero]; omega
        have hv := (limb_lt (ofBits (bs.take k)) hv0 hvM (2 ^ r)).2.1 (by rw [hkl, hpow] at hv1; exact hv1)
        obtain ⟨o1, o2, o3⟩ := or_bit (L1 (ofBits (bs.take k))) r hr (L1_nn _) hv
        obtain ⟨l0, l1, l2, l3⟩ := addlimb1 (ofBits (bs.take k)) (2 ^ r) hv0 hvM o2 o3
        have hst : ofBits (bs.take (k + 1)) = ofBits (bs.take k) + 18446744073709551616 * 2 ^ r := by rw [hsn, hb, Int.one_mul, hpow]
        rw [← hst] at l0 l1 l2 l3
        rw [← l1] at o1
        have T0 := Lib.hid l0; have T1 := Lib.hid l1; have T2 := Lib.hid l2; have T3 := Lib.hid l3
        have HC := Lib.hid hc
        clear hst l0 l1 l2 l3 hv o2 o3 hpow hsn hv0 hv1 hvM hkl hb hc
        go_wp2
        go_roundw
        case rel => exact ⟨k + 1, by omega, by go_num, cR.set_other (by omega) _, cO.set1 _ T0.out T2.out T3.out, hB.setCell (p := ⟨_, 1, none⟩) (by simp) _⟩
        case measure => simp [intOf]; omega
      · have hq : (k : Int) / 64 = 2 := by omega
        have hqN : k / 64 = 2 := by omega
        have hpow : (2:Int) ^ k = 18446744073709551616 * (18446744073709551616 * 2 ^ r) := by rw [hc]; simp only [Int.pow_add, Int.pow_succ, Int.pow_zero]; omega
        have hv := (limb_lt (ofBits (bs.take k)) hv0 hvM (2 ^ r)).2.2.1 (by rw [hkl, hpow] at hv1; exact hv1)
        obtain ⟨o1, o2, o3⟩ := or_bit (L2 (ofBits (bs.take k))) r hr (L2_nn _) hv
        obtain ⟨l0, l1, l2, l3⟩ := addlimb2 (ofBits (bs.take k)) (2 ^ r) hv0 hvM o2 o3
        have hst : ofBits (bs.take (k + 1)) = ofBits (bs.take k) + 18446744073709551616 * (18446744073709551616 * 2 ^ r) := by rw [hsn, hb, Int.one_mul, hpow]
        rw [← hst] at l0 l1 l2 l3
        rw [← l2] at o1
        have T0 := Lib.hid l0; have T1 := Lib.hid l1; have T2 := Lib.hid l2; have T3 := Lib.hid l3
        have HC := Lib.hid hc
        clear hst l0 l1 l2 l3 hv o2 o3 hpow hsn hv0 hv1 hvM hkl hb hc
        go_wp2
        go_roundw
        case rel => exact ⟨k + 1, by omega, by go_num, cR.set_other (by omega) _, cO.set2 _ T0.out T1.out T3.out, hB.setCell (p := ⟨_, 2, none⟩) (by simp) _⟩
        case measure => simp [intOf]; omega
      · have hq : (k : Int) / 64 = 3 := by omega
        have hqN : k / 64 = 3 := by omega
        have hpow : (2:Int) ^ k = 18446744073709551616 * (18446744073709551616 * (18446744073709551616 * 2 ^ r)) := by rw [hc]; simp only [Int.pow_add, Int.pow_succ, Int.pow_zero]; omega
        have hv := (limb_lt (ofBits (bs.take k)) hv0 hvM (2 ^ r)).2.2.2 (by rw [hkl, hpow] at hv1; exact hv1)
        obtain ⟨o1, o2, o3⟩ := or_bit (L3 (ofBits (bs.take k))) r hr (L3_nn _) hv
        obtain ⟨l0, l1, l2, l3⟩ := addlimb3 (ofBits (bs.take k)) (2 ^ r) hv0 hvM o2 o3
        have hst : ofBits (bs.take (k + 1)) = ofBits (bs.take k) + 18446744073709551616 * (18446744073709551616 * (18446744073709551616 * 2 ^ r)) := by rw [hsn, hb, Int.one_mul, hpow]
        rw [← hst] at l0 l1 l2 l3
        rw [← l3] at o1
        have T0 := Lib.hid l0; have T1 := Lib.hid l1; have T2 := Lib.hid l2; have T3 := Lib.hid l3
        have HC := Lib.hid hc
        clear hst l0 l1 l2 l3 hv o2 o3 hpow hsn hv0 hv1 hvM hkl hb hc
        go_wp2
        go_roundw
        case rel => exact ⟨k + 1, by omega, by go_num, cR.set_other (by omega) _, cO.set3 _ T0.out T1.out T2.out, hB.setCell (p := ⟨_, 3, none⟩) (by simp) _⟩
        case measure => simp [intOf]; omega
    · have hk32 : k = 256 := by omega
      subst hk32
      obtain ⟨c0, c1, c2, c3, f0, f1, f2, f3⟩ := id cO
      obtain ⟨r0, r1, r2, r3, r4, r5, r6, r7⟩ := id cR
      go_wp2
      all_goals exact bodyPost_ret (v := .agg #[.int .u64 (L0 (ofBits (bs.take 256))), .int .u64 (L1 (ofBits (bs.take 256))), .int .u64 (L2 (ofBits (bs.take 256))), .int .u64 (L3 (ofBits (bs.take 256)))]) (by simp [results, Try.results49, go_sem, r0, r1, r2, r3]) rfl ⟨rfl, below_put4 hB (by omega) _⟩
end Go.Proofs.Ytefnlmiephombaa
