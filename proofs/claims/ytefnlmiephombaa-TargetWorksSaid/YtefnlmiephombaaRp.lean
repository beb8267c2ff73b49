/- Bits of differences, of what is moved up and down, of lengths. -/
import Derived.Test.YtefnlmiephombaaRa
namespace Go.Proofs.Ytefnlmiephombaa
open Go.RowKit Go.Sort

theorem half_bit (z : Int) (k : Nat) : z / 2 ^ k = 2 * (z / 2 ^ (k + 1)) + bt z k := by
  have hp := pow_pos' k
  have : z / 2 ^ (k + 1) = z / 2 ^ k / 2 := by rw [Int.pow_succ, Int.ediv_ediv_of_nonneg (by omega)]
  rw [this]; unfold bt; omega

/-- the borrow out of the bits below k -/
def br (x y : Int) (k : Nat) : Int := if x % 2 ^ k < y % 2 ^ k then 1 else 0
theorem br_bd (x y : Int) (k : Nat) : 0 ≤ br x y k ∧ br x y k ≤ 1 := by unfold br; split <;> omega
theorem br_step (x y : Int) (k : Nat) :
    (bt x k - bt y k - br x y k < 0 → bt x k - bt y k - br x y k + 2 = bt (x - y) k ∧ br x y (k + 1) = 1) ∧
    (0 ≤ bt x k - bt y k - br x y k → bt x k - bt y k - br x y k = bt (x - y) k ∧ br x y (k + 1) = 0) := by
  have hp := pow_pos' k
  have d1 := Int.mul_ediv_add_emod x (2 ^ k)
  have d2 := Int.mul_ediv_add_emod y (2 ^ k)
  have rx0 := Int.emod_nonneg x (b := 2 ^ k) (by omega)
  have rx1 := Int.emod_lt_of_pos x hp
  have ry0 := Int.emod_nonneg y (b := 2 ^ k) (by omega)
  have ry1 := Int.emod_lt_of_pos y hp
  have e2 : (x - y) / 2 ^ k = x / 2 ^ k - y / 2 ^ k - br x y k := by
    have : x - y = (x % 2 ^ k - y % 2 ^ k) + 2 ^ k * (x / 2 ^ k - y / 2 ^ k) := by rw [Int.mul_sub]; omega
    conv => lhs; rw [this]
    rw [Int.add_mul_ediv_left _ _ (by omega)]
    unfold br
    split
    · have : (x % 2 ^ k - y % 2 ^ k) / 2 ^ k = -1 := by
        have h : x % 2 ^ k - y % 2 ^ k = (x % 2 ^ k - y % 2 ^ k + 2 ^ k) + 2 ^ k * (-1) := by omega
        rw [h, Int.add_mul_ediv_left _ _ (by omega), Int.ediv_eq_zero_of_lt (by omega) (by omega)]; rfl
      omega
    · rw [Int.ediv_eq_zero_of_lt (by omega) (by omega)]; omega
  have a := half_bit x k
  have b := half_bit y k
  have c := half_bit (x - y) k
  have bx := bt_bd x k
  have by' := bt_bd y k
  have bz := bt_bd (x - y) k
  have mx := mod_succ x k
  have my := mod_succ y k
  have hbr := br_bd x y k
  have hbx : bt x k = 0 ∨ bt x k = 1 := by omega
  have hby : bt y k = 0 ∨ bt y k = 1 := by omega
  have key : br x y (k + 1) = if bt x k - bt y k - br x y k < 0 then 1 else 0 := by
    unfold br
    rw [mx, my]
    rcases hbx with hbx | hbx <;> rcases hby with hby | hby <;> rw [hbx, hby] <;> simp only [Int.zero_mul, Int.one_mul, Int.add_zero] <;> repeat' split <;> omega
  constructor
  · intro h
    rw [key, if_pos h]
    exact ⟨by omega, rfl⟩
  · intro h
    rw [key, if_neg (by omega)]
    exact ⟨by omega, rfl⟩
theorem br_end (x y : Int) : (br x y 256 == 1) = decide (m x < m y) := by
  unfold br
  rw [← M_two]
  have h1 : x % M = m x := rfl
  have h2 : y % M = m y := rfl
  rw [h1, h2]
  split <;> simp <;> omega

theorem bl_bit (x : Int) (k : Nat) : bl (x % 2 ^ (k + 1)) = if bt x k = 1 then (k : Int) + 1 else bl (x % 2 ^ k) := by
  have hp := pow_pos' k
  have h := bt_bd x k
  rw [mod_succ]
  split
  · next h1 =>
    rw [h1, Int.mul_comm, bl_up _ 1 k (Int.emod_nonneg _ (by omega)) (Int.emod_lt_of_pos _ hp) (by omega)]
    rfl
  · have : bt x k = 0 := by omega
    rw [this]; simp

theorem bt_up (x : Int) (n k : Nat) : bt (x * 2 ^ n) k = if k < n then 0 else bt x (k - n) := by
  unfold bt
  have hp := pow_pos' k
  have hn := pow_pos' n
  split
  · next h =>
    have e : (2 : Int) ^ n = 2 ^ k * (2 * 2 ^ (n - k - 1)) := by
      rw [← Int.mul_assoc, ← Int.pow_succ, ← Int.pow_add]; congr 1; omega
    rw [e, show x * (2 ^ k * (2 * 2 ^ (n - k - 1))) = 2 ^ k * (x * (2 * 2 ^ (n - k - 1))) by rw [Int.mul_left_comm], Int.mul_ediv_cancel_left _ (by omega), Int.mul_left_comm]
    omega
  · next h =>
    have e : (2 : Int) ^ k = 2 ^ n * 2 ^ (k - n) := by rw [← Int.pow_add]; congr 1; omega
    rw [e, ← Int.ediv_ediv_of_nonneg (by omega), Int.mul_ediv_cancel _ (by omega)]
theorem bt_down (x : Int) (n k : Nat) : bt (x / 2 ^ n) k = bt x (k + n) := by
  unfold bt
  rw [Int.ediv_ediv_of_nonneg (Int.le_of_lt (pow_pos' n)), ← Int.pow_add, Nat.add_comm]
theorem bt_high (x : Int) (h0 : 0 ≤ x) (k n : Nat) (h : x < 2 ^ n) (hk : n ≤ k) : bt x k = 0 := by
  have := pow_mono hk
  unfold bt
  rw [Int.ediv_eq_zero_of_lt h0 (by omega)]; rfl
theorem bitv_up (x : Int) (n k : Nat) (hk : k < 256) : bitv x ((k : Int) - n) = bt (x * 2 ^ n) k := by
  rw [bt_up]
  unfold bitv
  by_cases h : k < n
  · rw [if_pos h, if_pos (by omega)]
  · rw [if_neg h, if_neg (by omega), show ((k : Int) - n).toNat = k - n by omega]
theorem bitv_down (x : Int) (h0 : 0 ≤ x) (h1 : x < M) (n k : Nat) : bitv x ((k : Int) + n) = bt (x / 2 ^ n) k := by
  rw [bt_down]
  unfold bitv
  by_cases h : k + n < 256
  · rw [if_neg (by omega), show ((k : Int) + n).toNat = k + n by omega]
  · rw [if_pos (by omega), bt_high x h0 (k + n) 256 (by rw [← M_two]; exact h1) (by omega)]

theorem cmp_bit (x y : Int) (k : Nat) (h : x / 2 ^ (k + 1) = y / 2 ^ (k + 1)) :
    (bt x k = bt y k → x / 2 ^ k = y / 2 ^ k) ∧ (¬ bt x k = bt y k → decide (bt x k < bt y k) = decide (x < y)) := by
  have hp := pow_pos' k
  have a := half_bit x k
  have b := half_bit y k
  have bx := bt_bd x k
  have by' := bt_bd y k
  refine ⟨fun e => by omega, fun e => ?_⟩
  have d1 := Int.mul_ediv_add_emod x (2 ^ k)
  have d2 := Int.mul_ediv_add_emod y (2 ^ k)
  have rx0 := Int.emod_nonneg x (b := 2 ^ k) (by omega)
  have rx1 := Int.emod_lt_of_pos x hp
  have ry0 := Int.emod_nonneg y (b := 2 ^ k) (by omega)
  have ry1 := Int.emod_lt_of_pos y hp
  have hc : (bt x k = 0 ∧ bt y k = 1) ∨ (bt x k = 1 ∧ bt y k = 0) := by omega
  rcases hc with ⟨h1, h2⟩ | ⟨h1, h2⟩
  · rw [h1, h2]
    have : y / 2 ^ k = x / 2 ^ k + 1 := by omega
    rw [this, Int.mul_add] at d2
    simp; omega
  · rw [h1, h2]
    have : x / 2 ^ k = y / 2 ^ k + 1 := by omega
    rw [this, Int.mul_add] at d1
    simp; omega
end Go.Proofs.Ytefnlmiephombaa
