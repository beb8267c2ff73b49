/- The contract of scantlingref02.Bit. -/
import Derived.Test.YtefnlmiephombaaRb
namespace Go.Proofs.Ytefnlmiephombaa
open Go.RowKit Go.Sort

theorem pow2_64 (r : Nat) (hr : r < 64) : (2 : Int) ^ r * 2 ^ (64 - r) = 18446744073709551616 := by
  rw [← Int.pow_add, show r + (64 - r) = 64 by omega]; rfl
theorem lo_bit (x : Int) (r : Nat) (hr : r < 64) : lo x / 2 ^ r % 2 = x / 2 ^ r % 2 := by
  have hp : (0 : Int) < 2 ^ r := Int.pow_pos (by omega)
  have e := pow2_64 r hr
  have e2 : (2 : Int) ^ (64 - r) = 2 * 2 ^ (63 - r) := by rw [show 64 - r = (63 - r) + 1 by omega, Int.pow_succ, Int.mul_comm]
  have h : x / 2 ^ r = lo x / 2 ^ r + 2 * (2 ^ (63 - r) * hi x) := by
    have : x = lo x + 2 ^ r * (2 ^ (64 - r) * hi x) := by
      rw [← Int.mul_assoc, e]; exact lohi x
    conv => lhs; rw [this]
    rw [Int.add_mul_ediv_left _ _ (by omega), e2, Int.mul_assoc]
  rw [h]; omega
theorem bit_words (v : Int) (r : Nat) (hr : r < 64) :
    L0 v / 2 ^ r % 2 = bt v r ∧ L1 v / 2 ^ r % 2 = bt v (64 + r) ∧ L2 v / 2 ^ r % 2 = bt v (128 + r) ∧ L3 v / 2 ^ r % 2 = bt v (192 + r) := by
  have hs : ∀ (x : Int) (j : Nat), hi x / 2 ^ j = x / 2 ^ (64 + j) := by
    intro x j
    rw [Int.pow_add, ← Int.ediv_ediv_of_nonneg (by decide)]; rfl
  unfold L0 L1 L2 L3 bt
  rw [lo_bit _ _ hr, lo_bit _ _ hr, lo_bit _ _ hr, lo_bit _ _ hr, hs, hs, hs, hs, hs, hs]
  refine ⟨rfl, rfl, ?_, ?_⟩
  · rw [show 64 + (64 + r) = 128 + r by omega]
  · rw [show 64 + (64 + (64 + r)) = 192 + r by omega]
theorem bits_and_one (x : Int) (h0 : 0 ≤ x) : bits .and .u64 x 1 = x % 2 := by
  obtain ⟨a, rfl⟩ := Int.eq_ofNat_of_zero_le h0
  have e1 : (BitVec.ofInt 64 (a : Int) &&& BitVec.ofInt 64 1).toNat = a % 2 := by
    rw [BitVec.toNat_and]
    simp only [BitVec.toNat_ofInt]
    rw [show ((1 : Int) % ((2 ^ 64 : Nat) : Int)).toNat = 1 by decide +kernel, Nat.and_one_is_mod]
    omega
  have e2 : bits .and .u64 (a : Int) 1 = IntKind.u64.wrap ((BitVec.ofInt 64 (a : Int) &&& BitVec.ofInt 64 1).toNat : Nat) := rfl
  rw [e2, e1, wrap_lo]; unfold lo; omega

/-- what 'Bit' answers -/
def bitv (v i : Int) : Int := if i < 0 ∨ 256 ≤ i then 0 else bt v i.toNat
theorem bitv_bd (v i : Int) : 0 ≤ bitv v i ∧ bitv v i ≤ 1 := by
  unfold bitv
  split
  · omega
  · exact bt_bd _ _
theorem bitv_nat (v : Int) (k : Nat) (h : k < 256) : bitv v k = bt v k := by
  unfold bitv
  rw [if_neg (by omega)]; rfl

set_option maxHeartbeats 800000 in
theorem bit_c (v i : Int) (w : World) : Calls Try.prog 48 #[big v, .int .i64 i] w fun e w' => e = .returned (.int .i64 (bitv v i)) ∧ Below w.heap.size w w' := by
  by_cases h0 : i < 0
  · rw [show bitv v i = 0 from if_pos (Or.inl h0)]
    unfold big
    go_enter Try.func48, Try.ntmps48
    go_wp2
    go_ret
    exact ⟨rfl, by repeat (first | exact Below.refl _ _ | refine bel_drew ?_ | refine bel_alloc ?_ _)⟩
  by_cases h1 : 256 ≤ i
  · rw [show bitv v i = 0 from if_pos (Or.inr h1)]
    unfold big
    go_enter Try.func48, Try.ntmps48
    go_wp2
    go_ret
    exact ⟨rfl, by repeat (first | exact Below.refl _ _ | refine bel_drew ?_ | refine bel_alloc ?_ _)⟩
  obtain ⟨r, hr, hc⟩ : ∃ r : Nat, r < 64 ∧ (i = r ∨ i = 64 + r ∨ i = 128 + r ∨ i = 192 + r) := ⟨(i % 64).toNat, by omega, by omega⟩
  have hm : i % 64 = r := by omega
  have hb : bitv v i = bt v i.toNat := if_neg (by omega)
  obtain ⟨b0, b1, b2, b3⟩ := bit_words v r hr
  have n0 := L0_nn v
  have n1 := L1_nn v
  have n2 := L2_nn v
  have n3 := L3_nn v
  have hp := pow_pos' r
  have a0 := bits_and_one (L0 v / 2 ^ r) (Int.ediv_nonneg n0 (by omega))
  have a1 := bits_and_one (L1 v / 2 ^ r) (Int.ediv_nonneg n1 (by omega))
  have a2 := bits_and_one (L2 v / 2 ^ r) (Int.ediv_nonneg n2 (by omega))
  have a3 := bits_and_one (L3 v / 2 ^ r) (Int.ediv_nonneg n3 (by omega))
  rw [b0] at a0
  rw [b1] at a1
  rw [b2] at a2
  rw [b3] at a3
  rw [hb]
  have hbd := bt_bd v i.toNat
  have hw : IntKind.i64.wrap (bt v i.toNat) = bt v i.toNat := by rw [IntKind.wrap_i64]; omega
  rcases hc with hc | hc | hc | hc
  · have hq : i / 64 = 0 := by omega
    rw [show i.toNat = r by omega] at *
    have HC := Lib.hid hc
    clear hc hb b0 b1 b2 b3 a1 a2 a3
    unfold big
    go_enter Try.func48, Try.ntmps48
    go_wp2
    go_ret
    exact ⟨rfl, by repeat (first | exact Below.refl _ _ | refine bel_drew ?_ | refine bel_alloc ?_ _)⟩
  · have hq : i / 64 = 1 := by omega
    rw [show i.toNat = 64 + r by omega] at *
    have HC := Lib.hid hc
    clear hc hb b0 b1 b2 b3 a0 a2 a3
    unfold big
    go_enter Try.func48, Try.ntmps48
    go_wp2
    go_ret
    exact ⟨rfl, by repeat (first | exact Below.refl _ _ | refine bel_drew ?_ | refine bel_alloc ?_ _)⟩
  · have hq : i / 64 = 2 := by omega
    rw [show i.toNat = 128 + r by omega] at *
    have HC := Lib.hid hc
    clear hc hb b0 b1 b2 b3 a0 a1 a3
    unfold big
    go_enter Try.func48, Try.ntmps48
    go_wp2
    go_ret
    exact ⟨rfl, by repeat (first | exact Below.refl _ _ | refine bel_drew ?_ | refine bel_alloc ?_ _)⟩
  · have hq : i / 64 = 3 := by omega
    rw [show i.toNat = 192 + r by omega] at *
    have HC := Lib.hid hc
    clear hc hb b0 b1 b2 b3 a0 a1 a2
    unfold big
    go_enter Try.func48, Try.ntmps48
    go_wp2
    go_ret
    exact ⟨rfl, by repeat (first | exact Below.refl _ _ | refine bel_drew ?_ | refine bel_alloc ?_ _)⟩
end Go.Proofs.Ytefnlmiephombaa
