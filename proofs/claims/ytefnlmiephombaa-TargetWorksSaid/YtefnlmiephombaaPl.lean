/- Plain numbers: a number of 256 bits by its four words of 64 bits. No program in sight. -/
namespace Go.Proofs.Ytefnlmiephombaa

/-- the lowest 64 bits, and the rest -/
def lo (v : Int) : Int := v % 18446744073709551616
def hi (v : Int) : Int := v / 18446744073709551616
/-- 2^256, behind a name -/
def M : Int := 115792089237316195423570985008687907853269984665640564039457584007913129639936
def m (v : Int) : Int := v % M

def L0 (v : Int) : Int := lo v
def L1 (v : Int) : Int := lo (hi v)
def L2 (v : Int) : Int := lo (hi (hi v))
def L3 (v : Int) : Int := lo (hi (hi (hi v)))
def L4 (v : Int) : Int := hi (hi (hi (hi v)))

theorem lo_nn (v : Int) : 0 ≤ lo v := by unfold lo; omega
theorem lo_lt (v : Int) : lo v ≤ 18446744073709551615 := by unfold lo; omega
theorem L0_nn (v : Int) : 0 ≤ L0 v := lo_nn _
theorem L1_nn (v : Int) : 0 ≤ L1 v := lo_nn _
theorem L2_nn (v : Int) : 0 ≤ L2 v := lo_nn _
theorem L3_nn (v : Int) : 0 ≤ L3 v := lo_nn _
theorem L0_le (v : Int) : L0 v ≤ 18446744073709551615 := lo_lt _
theorem L1_le (v : Int) : L1 v ≤ 18446744073709551615 := lo_lt _
theorem L2_le (v : Int) : L2 v ≤ 18446744073709551615 := lo_lt _
theorem L3_le (v : Int) : L3 v ≤ 18446744073709551615 := lo_lt _

theorem lohi (v : Int) : v = lo v + 18446744073709551616 * hi v := by unfold lo hi; omega

theorem L4_eq (v : Int) : L4 v = v / M := by unfold L4 hi M; omega

theorem m_eq (v : Int) : m v = v - M * L4 v := by
  rw [L4_eq, m, Int.emod_def]
theorem m_nn (v : Int) : 0 ≤ m v := by unfold m M; omega
theorem m_lt (v : Int) : m v < M := by unfold m M; omega
theorem m_of (v : Int) (h : 0 ≤ v) (h' : v < M) : m v = v := by unfold m; exact Int.emod_eq_of_lt h h'
theorem m_m (v : Int) : m (m v) = m v := m_of _ (m_nn _) (m_lt _)

theorem split (v : Int) : v = L0 v + 18446744073709551616 * (L1 v + 18446744073709551616 * (L2 v + 18446744073709551616 * (L3 v + 18446744073709551616 * L4 v))) := by
  unfold L0 L1 L2 L3 L4
  have h0 := lohi v
  have h1 := lohi (hi v)
  have h2 := lohi (hi (hi v))
  have h3 := lohi (hi (hi (hi v)))
  omega

theorem m_split (v : Int) : m v = L0 v + 18446744073709551616 * (L1 v + 18446744073709551616 * (L2 v + 18446744073709551616 * L3 v)) := by
  rw [m_eq]; have h := split v; unfold M; omega

/-- the words of a number that is written by its words -/
theorem limbs_of (a b c d : Int) (ha : 0 ≤ a) (ha' : a ≤ 18446744073709551615) (hb : 0 ≤ b) (hb' : b ≤ 18446744073709551615) (hc : 0 ≤ c) (hc' : c ≤ 18446744073709551615) (hd : 0 ≤ d) (hd' : d ≤ 18446744073709551615) :
    L0 (a + 18446744073709551616 * (b + 18446744073709551616 * (c + 18446744073709551616 * d))) = a ∧
    L1 (a + 18446744073709551616 * (b + 18446744073709551616 * (c + 18446744073709551616 * d))) = b ∧
    L2 (a + 18446744073709551616 * (b + 18446744073709551616 * (c + 18446744073709551616 * d))) = c ∧
    L3 (a + 18446744073709551616 * (b + 18446744073709551616 * (c + 18446744073709551616 * d))) = d := by
  have e1 : hi (a + 18446744073709551616 * (b + 18446744073709551616 * (c + 18446744073709551616 * d))) = b + 18446744073709551616 * (c + 18446744073709551616 * d) := by unfold hi; omega
  have e2 : hi (b + 18446744073709551616 * (c + 18446744073709551616 * d)) = c + 18446744073709551616 * d := by unfold hi; omega
  have e3 : hi (c + 18446744073709551616 * d) = d := by unfold hi; omega
  unfold L0 L1 L2 L3
  rw [e1, e2, e3]
  refine ⟨?_, ?_, ?_, ?_⟩ <;> unfold lo <;> omega

theorem limbs_m (v : Int) : L0 (m v) = L0 v ∧ L1 (m v) = L1 v ∧ L2 (m v) = L2 v ∧ L3 (m v) = L3 v := by
  rw [m_split v]
  exact limbs_of _ _ _ _ (L0_nn v) (L0_le v) (L1_nn v) (L1_le v) (L2_nn v) (L2_le v) (L3_nn v) (L3_le v)

theorem eq_of_limbs {u v : Int} (h0 : L0 u = L0 v) (h1 : L1 u = L1 v) (h2 : L2 u = L2 v) (h3 : L3 u = L3 v) : m u = m v := by
  rw [m_split u, m_split v, h0, h1, h2, h3]

theorem limbs_of_eq {u v : Int} (h : m u = m v) : L0 u = L0 v ∧ L1 u = L1 v ∧ L2 u = L2 v ∧ L3 u = L3 v := by
  obtain ⟨a, b, c, d⟩ := limbs_m u
  obtain ⟨a', b', c', d'⟩ := limbs_m v
  exact ⟨by rw [← a, ← a', h], by rw [← b, ← b', h], by rw [← c, ← c', h], by rw [← d, ← d', h]⟩

/-- one word of a sum -/
theorem addc_lo (X Y c : Int) : lo (lo X + lo Y + c) = lo (X + Y + c) := by unfold lo; omega
theorem addc_hi (X Y c : Int) : hi X + hi Y + hi (lo X + lo Y + c) = hi (X + Y + c) := by unfold lo hi; omega
theorem carry_nn (X Y c : Int) (h : 0 ≤ c) : 0 ≤ hi (lo X + lo Y + c) := by unfold lo hi; omega
theorem carry_le (X Y c : Int) (h : c ≤ 1) : hi (lo X + lo Y + c) ≤ 1 := by unfold lo hi; omega

theorem carry0_nn (x y : Int) : 0 ≤ hi (L0 x + L0 y) := by have := carry_nn x y 0 (by omega); rw [Int.add_zero] at this; exact this
theorem carry0_le (x y : Int) : hi (L0 x + L0 y) ≤ 1 := by have := carry_le x y 0 (by omega); rw [Int.add_zero] at this; exact this

theorem add_words (x y : Int) :
    lo (L0 x + L0 y) = L0 (x + y) ∧ lo (L1 x + L1 y + hi (L0 x + L0 y)) = L1 (x + y) ∧
    lo (L2 x + L2 y + hi (L1 x + L1 y + hi (L0 x + L0 y))) = L2 (x + y) ∧
    lo (L3 x + L3 y + hi (L2 x + L2 y + hi (L1 x + L1 y + hi (L0 x + L0 y)))) = L3 (x + y) ∧
    L4 x + L4 y + hi (L3 x + L3 y + hi (L2 x + L2 y + hi (L1 x + L1 y + hi (L0 x + L0 y)))) = L4 (x + y) := by
  have a0 := addc_lo x y 0
  have b0 := addc_hi x y 0
  simp only [Int.add_zero] at a0 b0
  have a1 := addc_lo (hi x) (hi y) (hi (lo x + lo y))
  have b1 := addc_hi (hi x) (hi y) (hi (lo x + lo y))
  rw [b0] at a1 b1
  have a2 := addc_lo (hi (hi x)) (hi (hi y)) (hi (lo (hi x) + lo (hi y) + hi (lo x + lo y)))
  have b2 := addc_hi (hi (hi x)) (hi (hi y)) (hi (lo (hi x) + lo (hi y) + hi (lo x + lo y)))
  rw [b1] at a2 b2
  have a3 := addc_lo (hi (hi (hi x))) (hi (hi (hi y))) (hi (lo (hi (hi x)) + lo (hi (hi y)) + hi (lo (hi x) + lo (hi y) + hi (lo x + lo y))))
  have b3 := addc_hi (hi (hi (hi x))) (hi (hi (hi y))) (hi (lo (hi (hi x)) + lo (hi (hi y)) + hi (lo (hi x) + lo (hi y) + hi (lo x + lo y))))
  rw [b2] at a3 b3
  exact ⟨a0, a1, a2, a3, b3⟩

/-- one word of a difference: what is borrowed -/
def bw (x : Int) : Int := if x < 0 then 1 else 0
theorem bw_nn (x : Int) : 0 ≤ bw x := by unfold bw; split <;> omega
theorem bw_le (x : Int) : bw x ≤ 1 := by unfold bw; split <;> omega
theorem subc_lo (X Y c : Int) : lo (lo X - lo Y - c) = lo (X - Y - c) := by unfold lo; omega
theorem subc_hi (X Y c : Int) (h : 0 ≤ c) (h' : c ≤ 1) : hi X - hi Y - bw (lo X - lo Y - c) = hi (X - Y - c) := by
  unfold bw lo hi; split <;> omega

theorem sub_words (x y : Int) :
    lo (L0 x - L0 y) = L0 (x - y) ∧ lo (L1 x - L1 y - bw (L0 x - L0 y)) = L1 (x - y) ∧
    lo (L2 x - L2 y - bw (L1 x - L1 y - bw (L0 x - L0 y))) = L2 (x - y) ∧
    lo (L3 x - L3 y - bw (L2 x - L2 y - bw (L1 x - L1 y - bw (L0 x - L0 y)))) = L3 (x - y) ∧
    L4 x - L4 y - bw (L3 x - L3 y - bw (L2 x - L2 y - bw (L1 x - L1 y - bw (L0 x - L0 y)))) = L4 (x - y) := by
  have a0 := subc_lo x y 0
  have b0 := subc_hi x y 0 (by omega) (by omega)
  simp only [Int.sub_zero] at a0 b0
  have a1 := subc_lo (hi x) (hi y) (bw (lo x - lo y))
  have b1 := subc_hi (hi x) (hi y) (bw (lo x - lo y)) (bw_nn _) (bw_le _)
  rw [b0] at a1 b1
  have a2 := subc_lo (hi (hi x)) (hi (hi y)) (bw (lo (hi x) - lo (hi y) - bw (lo x - lo y)))
  have b2 := subc_hi (hi (hi x)) (hi (hi y)) (bw (lo (hi x) - lo (hi y) - bw (lo x - lo y))) (bw_nn _) (bw_le _)
  rw [b1] at a2 b2
  have a3 := subc_lo (hi (hi (hi x))) (hi (hi (hi y))) (bw (lo (hi (hi x)) - lo (hi (hi y)) - bw (lo (hi x) - lo (hi y) - bw (lo x - lo y))))
  have b3 := subc_hi (hi (hi (hi x))) (hi (hi (hi y))) (bw (lo (hi (hi x)) - lo (hi (hi y)) - bw (lo (hi x) - lo (hi y) - bw (lo x - lo y)))) (bw_nn _) (bw_le _)
  rw [b2] at a3 b3
  exact ⟨a0, a1, a2, a3, b3⟩

/-- one word of a product -/
theorem mulc_lo (X n c : Int) : lo (lo X * n + c) = lo (X * n + c) := by
  have h := lohi X
  have e : X * n + c = lo X * n + c + 18446744073709551616 * (hi X * n) := by
    conv => lhs; rw [h]
    rw [Int.add_mul, Int.mul_assoc]; omega
  rw [e]; unfold lo; omega
theorem mulc_hi (X n c : Int) : hi X * n + hi (lo X * n + c) = hi (X * n + c) := by
  have h := lohi X
  have e : X * n + c = lo X * n + c + 18446744073709551616 * (hi X * n) := by
    conv => lhs; rw [h]
    rw [Int.add_mul, Int.mul_assoc]; omega
  rw [e]; unfold hi; omega

theorem mul_words (x n : Int) :
    lo (L0 x * n) = L0 (x * n) ∧ lo (L1 x * n + hi (L0 x * n)) = L1 (x * n) ∧
    lo (L2 x * n + hi (L1 x * n + hi (L0 x * n))) = L2 (x * n) ∧
    lo (L3 x * n + hi (L2 x * n + hi (L1 x * n + hi (L0 x * n)))) = L3 (x * n) ∧
    L4 x * n + hi (L3 x * n + hi (L2 x * n + hi (L1 x * n + hi (L0 x * n)))) = L4 (x * n) := by
  have a0 := mulc_lo x n 0
  have b0 := mulc_hi x n 0
  simp only [Int.add_zero] at a0 b0
  have a1 := mulc_lo (hi x) n (hi (lo x * n))
  have b1 := mulc_hi (hi x) n (hi (lo x * n))
  rw [b0] at a1 b1
  have a2 := mulc_lo (hi (hi x)) n (hi (lo (hi x) * n + hi (lo x * n)))
  have b2 := mulc_hi (hi (hi x)) n (hi (lo (hi x) * n + hi (lo x * n)))
  rw [b1] at a2 b2
  have a3 := mulc_lo (hi (hi (hi x))) n (hi (lo (hi (hi x)) * n + hi (lo (hi x) * n + hi (lo x * n))))
  have b3 := mulc_hi (hi (hi (hi x))) n (hi (lo (hi (hi x)) * n + hi (lo (hi x) * n + hi (lo x * n))))
  rw [b2] at a3 b3
  exact ⟨a0, a1, a2, a3, b3⟩

theorem hi_mul_nn (x n : Int) (hx : 0 ≤ x) (hn : 0 ≤ n) : 0 ≤ hi (x * n) := by
  have := Int.mul_nonneg hx hn; unfold hi; omega
/-- a carry of a product with one more number of 64 bits is one of 64 bits -/
theorem mul_bd (x n c : Int) (hx : 0 ≤ x) (hx' : x ≤ 18446744073709551615) (hn : 0 ≤ n) (hn' : n ≤ 18446744073709551615) (hc : 0 ≤ c) (hc' : c ≤ 18446744073709551615) :
    0 ≤ hi (x * n + c) ∧ hi (x * n + c) ≤ 18446744073709551615 := by
  have h0 := Int.mul_nonneg hx hn
  have h1 : x * n ≤ 18446744073709551615 * 18446744073709551615 := Int.mul_le_mul hx' hn' hn (by omega)
  unfold hi; omega
theorem mul_lo (x n c : Int) : lo (lo (x * n) + c) = lo (x * n + c) := by unfold lo; omega
theorem mul_hi (x n c : Int) : hi (x * n) + hi (lo (x * n) + c) = hi (x * n + c) := by unfold lo hi; omega

theorem L4_m (v : Int) : L4 (m v) = 0 := by
  rw [L4_eq]; exact Int.ediv_eq_zero_of_lt (m_nn v) (m_lt v)

end Go.Proofs.Ytefnlmiephombaa
