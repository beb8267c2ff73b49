/- The walk of BigBack: whatever two numbers and whatever number of 64 bits, it answers true. -/
import Derived.Test.YtefnlmiephombaaBk
import Derived.Test.YtefnlmiephombaaBl
namespace Go.Proofs.Ytefnlmiephombaa
open Go.RowKit Go.Sort

theorem M_val : M = 115792089237316195423570985008687907853269984665640564039457584007913129639936 := by decide +kernel

theorem m_sum_case (x y : Int) (hx : 0 ≤ x) (hx' : x < M) (hy : 0 ≤ y) (hy' : y < M) :
    m (x + y) = if M ≤ x + y then x + y - M else x + y := by
  unfold m
  split
  · rw [← Int.sub_emod_right, Int.emod_eq_of_lt (by omega) (by omega)]
  · exact Int.emod_eq_of_lt (by omega) (by omega)
theorem m_diff_case (x y : Int) (hx : 0 ≤ x) (hx' : x < M) (hy : 0 ≤ y) (hy' : y < M) :
    m (x - y) = if x < y then x - y + M else x - y := by
  unfold m
  split
  · rw [← Int.add_emod_right, Int.emod_eq_of_lt (by omega) (by omega)]
  · exact Int.emod_eq_of_lt (by omega) (by omega)

theorem bigBack.walk (x y n : Int) (hx : 0 ≤ x) (hx' : x < M) (hy : 0 ≤ y) (hy' : y < M) (hn : 0 ≤ n) (hn' : n ≤ 18446744073709551615) (w : World) :
    Calls Try.prog 6 #[big x, big y, .int .u64 n] w fun e w' => e = .returned (.bool true) ∧ Below w.heap.size w w' := by
  have hM := M_val
  have hs := m_sum_case x y hx hx' hy hy'
  have hd := m_diff_case x y hx hx' hy hy'
  have kadd := fun w => add_c x y w
  have ksub := fun w => sub_c (x + y) y w
  have kl1 := fun w => less_c (x + y) x w
  have ksb2 := fun w => sub_c x y w
  have kad2 := fun w => add_c (x - y) y w
  have kl2 := fun w => less_c x y w
  rw [m_of x hx hx', m_of y hy hy'] at kadd ksb2 kl2
  rw [m_of y hy hy', show x + y - y = x by omega, show decide (m (x + y) < y) = decide (M ≤ x + y) by rw [hs]; congr 1; split <;> (apply propext; constructor <;> intro h <;> omega)] at ksub
  rw [m_of x hx hx', show decide (m (x + y) < x) = decide (M ≤ x + y) by rw [hs]; congr 1; split <;> (apply propext; constructor <;> intro h <;> omega)] at kl1
  rw [m_of y hy hy', show x - y + y = x by omega, show decide (M ≤ m (x - y) + y) = decide (x < y) by rw [hd]; congr 1; split <;> (apply propext; constructor <;> intro h <;> omega)] at kad2
  by_cases h0 : n = 0
  · subst h0
    exact back_n0 x y (x + y) (x - y) _ _ w kadd ksub kl1 ksb2 kad2 kl2
  have kof := fun w => of_c n hn hn' w
  have hnM : n < M := by omega
  have kdv := fun w => div_c x n w
  unfold divErr at kdv
  rw [m_of x hx hx', m_of n hn hnM, if_neg h0, if_neg h0, if_neg h0] at kdv
  have hq0 : 0 ≤ x / n := Int.ediv_nonneg hx hn
  have hq1 : x / n ≤ x := Int.ediv_le_self _ hx
  have hdm := Int.mul_ediv_add_emod x n
  rw [Int.mul_comm] at hdm
  have hr0 := Int.emod_nonneg x h0
  have hr1 := Int.emod_lt_of_pos x (show 0 < n by omega)
  have hqn : 0 ≤ x / n * n := Int.mul_nonneg hq0 hn
  have kmu := fun w => mul_c (x / n) n hn hn' w
  rw [m_of (x / n) hq0 (by omega), show x / n * n / M = 0 from Int.ediv_eq_zero_of_lt hqn (by omega)] at kmu
  have kad3 := fun w => add_c (x / n * n) (x % n) w
  rw [m_of (x / n * n) hqn (by omega), m_of (x % n) hr0 (by omega), show x / n * n + x % n = x by omega, show decide (M ≤ x) = false by simp; omega] at kad3
  have kl3 := fun w => less_k (x % n) n hr0 (by omega) hn hnM true (by simp; omega) w
  have hnb : (n == 0) = false := by simp; omega
  have hyb : ∀ w, (binOp .eql 24 (big y) (big 0)).run Try.prog w = .ok (.bool (y == 0)) w := fun w => by
    have := eq_run y 0 w
    rwa [m_of y hy hy', show m 0 = 0 by decide +kernel] at this
  by_cases h1 : y = 0
  · rw [show (y == 0) = true by simp; omega] at hyb
    exact back_y0 x y (x + y) (x - y) n (x / n) (x % n) (x / n * n) _ _ w kadd ksub kl1 ksb2 kad2 kl2 hnb kof kdv kmu kad3 kl3 hyb
  rw [show (y == 0) = false by simp; omega] at hyb
  have kdy := fun w => div_c x y w
  unfold divErr at kdy
  rw [m_of x hx hx', m_of y hy hy', if_neg h1, if_neg h1, if_neg h1] at kdy
  have hl0 := Int.emod_nonneg x h1
  have hl1 := Int.emod_lt_of_pos x (show 0 < y by omega)
  have hk0 : 0 ≤ x / y := Int.ediv_nonneg hx hy
  have hdm2 := Int.mul_ediv_add_emod x y
  rw [Int.mul_comm] at hdm2
  have kdl := fun w => div_c (x % y) y w
  unfold divErr at kdl
  rw [m_of (x % y) hl0 (by omega), m_of y hy hy', if_neg h1, if_neg h1, if_neg h1, Int.ediv_eq_zero_of_lt hl0 hl1, Int.emod_eq_of_lt hl0 hl1] at kdl
  have kl4 := fun w => less_k (x % y) y hl0 (by omega) hy hy' true (by simp; omega) w
  have hky : 0 ≤ x / y * y := Int.mul_nonneg hk0 hy
  have ksb3 := fun w => sub_c x (x % y) w
  rw [m_of x hx hx', m_of (x % y) hl0 (by omega), show x - x % y = x / y * y by omega, show decide (x < x % y) = false by simp; omega] at ksb3
  have kdw := fun w => div_c (x / y * y) y w
  unfold divErr at kdw
  rw [m_of (x / y * y) hky (by omega), m_of y hy hy', if_neg h1, if_neg h1, if_neg h1, Int.mul_ediv_cancel _ h1, Int.mul_emod_left] at kdw
  exact back_all x y (x + y) (x - y) n (x / n) (x % n) (x / n * n) (x / y) (x % y) (x / y * y) _ _ w kadd ksub kl1 ksb2 kad2 kl2 hnb kof kdv kmu kad3 kl3 hyb kdy kdl kl4 ksb3 kdw
end Go.Proofs.Ytefnlmiephombaa
