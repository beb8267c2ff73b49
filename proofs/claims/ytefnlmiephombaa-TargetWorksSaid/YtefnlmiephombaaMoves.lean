/- The walk of BigMoves: whatever number and whatever count, it answers true. -/
import Derived.Test.YtefnlmiephombaaMv
namespace Go.Proofs.Ytefnlmiephombaa
open Go.RowKit Go.Sort

theorem upv_nat (x : Int) (j : Nat) : upv x j = x * 2 ^ j := by
  unfold upv
  by_cases h : (j : Int) ≤ 0
  · have : j = 0 := by omega
    subst this
    simp
  · rw [if_neg h]; simp
theorem downv_nat (x : Int) (j : Nat) (h0 : 0 ≤ x) (h1 : x < M) : downv x j = x / 2 ^ j := by
  unfold downv
  by_cases h : (j : Int) ≤ 0
  · have : j = 0 := by omega
    subst this
    simp
  · rw [if_neg h, m_of x h0 h1]; simp
theorem M_pow : M = 2 ^ 256 := by decide +kernel
theorem pow_lt_M (j : Nat) (h : j ≤ 255) : (2 : Int) ^ j < M := by
  have h1 := pow_mono h
  have h2 : (2 : Int) ^ 255 < M := by decide +kernel
  omega
theorem bl_div (x : Int) (j : Nat) (h0 : 0 ≤ x) : max 0 (bl x - j) = bl (x / 2 ^ j) := by
  have hp := pow_pos' j
  by_cases h : bl x ≤ j
  · have := (bl_le_iff x h0 j).1 h
    rw [Int.ediv_eq_zero_of_lt h0 this, bl_zero]
    omega
  · have hx : ¬ x < 2 ^ j := fun hh => h ((bl_le_iff x h0 j).2 hh)
    have hq : 0 < x / 2 ^ j := by
      have : 1 ≤ x / 2 ^ j := (Int.le_ediv_iff_mul_le hp).2 (by omega)
      omega
    have := bl_up (x % 2 ^ j) (x / 2 ^ j) j (Int.emod_nonneg _ (by omega)) (Int.emod_lt_of_pos _ hp) hq
    rw [Int.emod_add_mul_ediv] at this
    have := bl_nn (x / 2 ^ j)
    omega
theorem bl_full (x : Int) (h0 : 0 ≤ x) (h1 : x < M) : (bl x == 256) = decide (M ≤ x + x) := by
  have a := bl_le_iff x h0 255
  have b := bl_le_iff x h0 256
  rw [← M_pow] at b
  have c : (2 : Int) ^ 255 + 2 ^ 255 = M := by decide +kernel
  by_cases h : x < 2 ^ 255
  · have h2 := a.2 h
    have e1 : (bl x == 256) = false := by simp; omega
    have e2 : decide (M ≤ x + x) = false := by simp; omega
    rw [e1, e2]
  · have h2 := mt a.1 h
    have h3 := b.2 h1
    have e1 : (bl x == 256) = true := by simp; omega
    have e2 : decide (M ≤ x + x) = true := by simp; omega
    rw [e1, e2]

theorem bigMoves.walk (x k : Int) (hx : 0 ≤ x) (hx' : x < M) (hk : 0 ≤ k) (hk' : k ≤ 255) (w : World) :
    Calls Try.prog 4 #[big x, .int .u8 k] w fun e w' => e = .returned (.bool true) ∧ Below w.heap.size w w' := by
  obtain ⟨j, rfl⟩ := Int.eq_ofNat_of_zero_le hk
  have hj : j ≤ 255 := by omega
  have hp := pow_pos' j
  have hpM := pow_lt_M j hj
  have hb := bl_m_le x
  rw [m_of x hx hx'] at hb
  have hb0 := bl_nn x
  have w1 : IntKind.i64.wrap (j : Int) = j := by rw [IntKind.wrap_i64]; omega
  have w2 : IntKind.i64.wrap (256 - (j : Int)) = 256 - j := by rw [IntKind.wrap_i64]; omega
  have w3 : IntKind.i64.wrap (bl x - (j : Int)) = bl x - j := by rw [IntKind.wrap_i64]; omega
  have kadd := fun w => add_c x x w
  have kup1 := fun w => up_c x 1 (by omega) w
  have kbx := fun w => bits_k x hx hx' w
  have hq0 : 0 ≤ x / 2 ^ j := Int.ediv_nonneg hx (by omega)
  have hq1 : x / 2 ^ j ≤ x := Int.ediv_le_self _ hx
  have kbq := fun w => bits_k (x / 2 ^ j) hq0 (by omega) w
  have kpw := fun w => up_c 1 j (by omega) w
  have kdv := fun w => div_c x (2 ^ j) w
  have kdn := fun w => down_c x j w
  have kuq := fun w => up_c (x / 2 ^ j) j (by omega) w
  have ksb := fun w => sub_c x (x / 2 ^ j * 2 ^ j) w
  have kux := fun w => up_c x j (by omega) w
  have kdu := fun w => down_c (x * 2 ^ j) j w
  have hdm := Int.mul_ediv_add_emod x (2 ^ j)
  have hr := Int.emod_nonneg x (b := 2 ^ j) (by omega)
  rw [Int.mul_comm] at hdm
  rw [upv_nat] at kpw kuq kux
  rw [upv_one] at kup1
  rw [downv_nat _ _ hx hx'] at kdn
  have hz : ¬ (2 : Int) ^ j = 0 := by omega
  rw [m_of x hx hx'] at kadd
  unfold divErr at kdv
  rw [m_of x hx hx', m_of (2 ^ j) (by omega) hpM, if_neg hz, if_neg hz, if_neg hz] at kdv
  rw [m_of x hx hx', m_of (x / 2 ^ j * 2 ^ j) (Int.mul_nonneg hq0 (by omega)) (by omega), show x - x / 2 ^ j * 2 ^ j = x % 2 ^ j by omega, show decide (x < x / 2 ^ j * 2 ^ j) = false by simp; omega] at ksb
  rw [Int.one_mul] at kpw
  rw [show x * 2 = x + x by omega] at kup1
  by_cases hf : 256 - (j : Int) < bl x
  · exact mov_far x j (x + x) (2 ^ j) (x / 2 ^ j) (x % 2 ^ j) (x / 2 ^ j * 2 ^ j) (bl (x / 2 ^ j)) _ w w1 w2 w3 kadd kup1 kbx kbq kpw kdv kdn kuq ksb (bl_full x hx hx') (bl_div x j hx) (by simp; omega)
  · have hlt : x * 2 ^ j < M := by
      have := (bl_le_iff x hx (256 - j)).1 (by omega)
      have e : (2 : Int) ^ (256 - j) * 2 ^ j = M := by rw [← Int.pow_add, show 256 - j + j = 256 by omega, M_pow]
      rw [← e]
      exact Int.mul_lt_mul_of_pos_right this hp
    rw [downv_nat _ _ (Int.mul_nonneg hx (by omega)) hlt, Int.mul_ediv_cancel _ hz] at kdu
    exact mov_near x j (x + x) (2 ^ j) (x / 2 ^ j) (x % 2 ^ j) (x / 2 ^ j * 2 ^ j) (x * 2 ^ j) (bl (x / 2 ^ j)) _ w w1 w2 w3 kadd kup1 kbx kbq kpw kdv kdn kuq ksb kux kdu (bl_full x hx hx') (bl_div x j hx) (by simp; omega)
end Go.Proofs.Ytefnlmiephombaa
