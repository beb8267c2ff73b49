/- Contracts of package big: Of, Add, Sub, Less, Mul: what each call answers, of numbers of 256 bits; nothing that was there has turned. -/
import Derived.Test.YtefnlmiephombaaOps
import Derived.Test.YtefnlmiephombaaShelf
namespace Go.Proofs.Ytefnlmiephombaa
open Go.RowKit
attribute [local go_sem] add64_run sub64_run ix0 ix1 ix2 ix3

theorem of_c (n : Int) (hn : 0 ≤ n) (hn' : n ≤ 18446744073709551615) (w : World) :
    Calls Try.prog 23 #[.int .u64 n] w fun e w' => e = .returned (big n) ∧ Below w.heap.size w w' := by
  have hb : big n = .agg #[.int .u64 n, .int .u64 0, .int .u64 0, .int .u64 0] := by
    obtain ⟨h0, h1, h2, h3⟩ := limbs_of n 0 0 0 hn hn' (by omega) (by omega) (by omega) (by omega) (by omega) (by omega)
    simp only [Int.mul_zero, Int.add_zero] at h0 h1 h2 h3
    unfold big; rw [h0, h1, h2, h3]
  rw [hb]
  clear hb hn hn'
  go_enter Try.func23, Try.ntmps23
  go_wp2
  exact bodyPost_ret (v := .agg #[.int .u64 n, .int .u64 0, .int .u64 0, .int .u64 0]) (by simp [results, Try.results23, go_sem]) rfl ⟨rfl, (Below.refl _ _).alloc (Nat.le_refl _) _⟩

set_option maxHeartbeats 400000 in
theorem add_words_c (a0 a1 a2 a3 b0 b1 b2 b3 c1 c2 c3 c4 : Int) (w : World) (ha0 : 0 ≤ a0) (ha1 : 0 ≤ a1) (ha2 : 0 ≤ a2) (ha3 : 0 ≤ a3) (hb0 : 0 ≤ b0) (hb1 : 0 ≤ b1) (hb2 : 0 ≤ b2) (hb3 : 0 ≤ b3)
    (h1 : hi (a0 + b0) = c1) (h2 : hi (a1 + b1 + c1) = c2) (h3 : hi (a2 + b2 + c2) = c3) (h4 : hi (a3 + b3 + c3) = c4)
    (p1 : 0 ≤ c1) (q1 : c1 ≤ 1) (p2 : 0 ≤ c2) (q2 : c2 ≤ 1) (p3 : 0 ≤ c3) (q3 : c3 ≤ 1) :
    Calls Try.prog 21 #[.agg #[.int .u64 a0, .int .u64 a1, .int .u64 a2, .int .u64 a3], .agg #[.int .u64 b0, .int .u64 b1, .int .u64 b2, .int .u64 b3]] w fun e w' =>
      e = .returned (.tuple #[.agg #[.int .u64 (lo (a0 + b0)), .int .u64 (lo (a1 + b1 + c1)), .int .u64 (lo (a2 + b2 + c2)), .int .u64 (lo (a3 + b3 + c3))], .bool (c4 != 0)]) ∧ Below w.heap.size w w' := by
  go_enter Try.func21, Try.ntmps21
  go_wp2
  refine wp_loop_rounds 5 ?_
  iterate 5
    rw [rounds_succ]
    go_wp2
  exact bodyPost_ret (v := .tuple #[.agg #[.int .u64 (lo (a0 + b0)), .int .u64 (lo (a1 + b1 + c1)), .int .u64 (lo (a2 + b2 + c2)), .int .u64 (lo (a3 + b3 + c3))], .bool (c4 != 0)]) (by simp [results, Try.results21, go_sem]) rfl
    ⟨rfl, (((Below.refl _ _).alloc (Nat.le_refl _) _).alloc (by simp) _).alloc (by simp; omega) _⟩

theorem add_c (x y : Int) (w : World) :
    Calls Try.prog 21 #[big x, big y] w fun e w' => e = .returned (.tuple #[big (x + y), .bool (decide (M ≤ m x + m y))]) ∧ Below w.heap.size w w' := by
  rw [← big_m x, ← big_m y]
  obtain ⟨a0, a1, a2, a3, a4⟩ := add_words (m x) (m y)
  have key := add_words_c (L0 (m x)) (L1 (m x)) (L2 (m x)) (L3 (m x)) (L0 (m y)) (L1 (m y)) (L2 (m y)) (L3 (m y)) _ _ _ _ w (L0_nn _) (L1_nn _) (L2_nn _) (L3_nn _) (L0_nn _) (L1_nn _) (L2_nn _) (L3_nn _) rfl rfl rfl rfl
    (carry0_nn _ _) (carry0_le _ _) (carry_nn _ _ _ (carry0_nn _ _)) (carry_le _ _ _ (carry0_le _ _))
    (carry_nn _ _ _ (carry_nn _ _ _ (carry0_nn _ _))) (carry_le _ _ _ (carry_le _ _ _ (carry0_le _ _)))
  rw [a0, a1, a2, a3] at key
  refine key.mono fun e w' ⟨he, hb⟩ => ⟨?_, hb⟩
  rw [he]
  have e1 : big (x + y) = big (m x + m y) := by
    rw [← big_m (x + y), ← big_m (m x + m y)]; congr 1
    unfold m; simp
  have e2 : (hi (L3 (m x) + L3 (m y) + hi (L2 (m x) + L2 (m y) + hi (L1 (m x) + L1 (m y) + hi (L0 (m x) + L0 (m y))))) != 0) = decide (M ≤ m x + m y) := by
    rw [L4_m, L4_m] at a4
    simp only [Int.zero_add] at a4
    rw [a4, L4_eq, Bool.eq_iff_iff]
    have := m_nn x; have := m_nn y; have := m_lt x; have := m_lt y
    simp only [bne_iff_ne, decide_eq_true_eq]
    unfold M at *; omega
  rw [e1, e2]; rfl

set_option maxHeartbeats 400000 in
theorem sub_words_c (a0 a1 a2 a3 b0 b1 b2 b3 c1 c2 c3 c4 : Int) (w : World) (ha0 : 0 ≤ a0) (ha1 : 0 ≤ a1) (ha2 : 0 ≤ a2) (ha3 : 0 ≤ a3) (hb0 : 0 ≤ b0) (hb1 : 0 ≤ b1) (hb2 : 0 ≤ b2) (hb3 : 0 ≤ b3)
    (gb0 : b0 ≤ 18446744073709551615) (gb1 : b1 ≤ 18446744073709551615) (gb2 : b2 ≤ 18446744073709551615) (gb3 : b3 ≤ 18446744073709551615)
    (h1 : bw (a0 - b0) = c1) (h2 : bw (a1 - b1 - c1) = c2) (h3 : bw (a2 - b2 - c2) = c3) (h4 : bw (a3 - b3 - c3) = c4)
    (p1 : 0 ≤ c1) (q1 : c1 ≤ 1) (p2 : 0 ≤ c2) (q2 : c2 ≤ 1) (p3 : 0 ≤ c3) (q3 : c3 ≤ 1) :
    Calls Try.prog 24 #[.agg #[.int .u64 a0, .int .u64 a1, .int .u64 a2, .int .u64 a3], .agg #[.int .u64 b0, .int .u64 b1, .int .u64 b2, .int .u64 b3]] w fun e w' =>
      e = .returned (.tuple #[.agg #[.int .u64 (lo (a0 - b0)), .int .u64 (lo (a1 - b1 - c1)), .int .u64 (lo (a2 - b2 - c2)), .int .u64 (lo (a3 - b3 - c3))], .bool (c4 != 0)]) ∧ Below w.heap.size w w' := by
  go_enter Try.func24, Try.ntmps24
  go_wp2
  refine wp_loop_rounds 5 ?_
  iterate 5
    rw [rounds_succ]
    go_wp2
  exact bodyPost_ret (v := .tuple #[.agg #[.int .u64 (lo (a0 - b0)), .int .u64 (lo (a1 - b1 - c1)), .int .u64 (lo (a2 - b2 - c2)), .int .u64 (lo (a3 - b3 - c3))], .bool (c4 != 0)]) (by simp [results, Try.results24, go_sem]) rfl
    ⟨rfl, (((Below.refl _ _).alloc (Nat.le_refl _) _).alloc (by simp) _).alloc (by simp; omega) _⟩

theorem sub_c (x y : Int) (w : World) :
    Calls Try.prog 24 #[big x, big y] w fun e w' => e = .returned (.tuple #[big (x - y), .bool (decide (m x < m y))]) ∧ Below w.heap.size w w' := by
  rw [← big_m x, ← big_m y]
  obtain ⟨a0, a1, a2, a3, a4⟩ := sub_words (m x) (m y)
  have key := sub_words_c (L0 (m x)) (L1 (m x)) (L2 (m x)) (L3 (m x)) (L0 (m y)) (L1 (m y)) (L2 (m y)) (L3 (m y)) _ _ _ _ w (L0_nn _) (L1_nn _) (L2_nn _) (L3_nn _) (L0_nn _) (L1_nn _) (L2_nn _) (L3_nn _)
    (L0_le _) (L1_le _) (L2_le _) (L3_le _) rfl rfl rfl rfl (bw_nn _) (bw_le _) (bw_nn _) (bw_le _) (bw_nn _) (bw_le _)
  rw [a0, a1, a2, a3] at key
  refine key.mono fun e w' ⟨he, hb⟩ => ⟨?_, hb⟩
  rw [he]
  have e1 : big (x - y) = big (m x - m y) := by
    rw [← big_m (x - y), ← big_m (m x - m y)]; congr 1
    unfold m; simp
  have e2 : (bw (L3 (m x) - L3 (m y) - bw (L2 (m x) - L2 (m y) - bw (L1 (m x) - L1 (m y) - bw (L0 (m x) - L0 (m y))))) != 0) = decide (m x < m y) := by
    rw [L4_m, L4_m] at a4
    simp only [Int.zero_sub, Int.sub_zero] at a4
    have a5 := L4_eq (m x - m y)
    rw [Bool.eq_iff_iff]
    have := m_nn x; have := m_nn y; have := m_lt x; have := m_lt y
    simp only [bne_iff_ne, decide_eq_true_eq]
    unfold M at *; omega
  rw [e1, e2]; rfl

theorem less_c (x y : Int) (w : World) :
    Calls Try.prog 29 #[big x, big y] w fun e w' => e = .returned (.bool (decide (m x < m y))) ∧ Below w.heap.size w w' := by
  unfold big
  go_enter Try.func29, Try.ntmps29
  go_wp2_with (go_at_call 24; refine (sub_c x y _).mono ?_; unfold big; rintro e w1 ⟨rfl, hb⟩)
  go_ret
  exact ⟨rfl, (((Below.refl _ _).alloc (Nat.le_refl _) _).alloc (by simp) _).trans (hb.mono (by simp; omega)) |>.alloc (by have := hb.size; simp at this; omega) _⟩

theorem mul64_c (x n : Int) (w : World) (hx : 0 ≤ x) (hx' : x ≤ 18446744073709551615) (hn : 0 ≤ n) (hn' : n ≤ 18446744073709551615) :
    Calls Try.prog 54 #[.int .u64 x, .int .u64 n] w fun e w' => e = .returned (.tuple #[.int .u64 (hi (x * n)), .int .u64 (lo (x * n))]) ∧ w = w' := by
  obtain ⟨x, rfl⟩ := Int.eq_ofNat_of_zero_le hx
  obtain ⟨n, rfl⟩ := Int.eq_ofNat_of_zero_le hn
  refine (Try.bits_Mul64 x n (by omega) (by omega) w).mono fun e w' ⟨he, hw⟩ => ⟨?_, hw.symm⟩
  rw [he]; unfold hi lo; simp

set_option maxHeartbeats 400000 in
theorem mul_words_c (a0 a1 a2 a3 n c1 c2 c3 c4 s0 s1 s2 s3 : Int) (w : World) (ha0 : 0 ≤ a0) (ha1 : 0 ≤ a1) (ha2 : 0 ≤ a2) (ha3 : 0 ≤ a3) (hn : 0 ≤ n)
    (ga0 : a0 ≤ 18446744073709551615) (ga1 : a1 ≤ 18446744073709551615) (ga2 : a2 ≤ 18446744073709551615) (ga3 : a3 ≤ 18446744073709551615) (gn : n ≤ 18446744073709551615)
    (k0 : 0 ≤ lo (a0 * n)) (k1 : 0 ≤ lo (a1 * n)) (k2 : 0 ≤ lo (a2 * n)) (k3 : 0 ≤ lo (a3 * n))
    (h1 : IntKind.u64.wrap (hi (a0 * n) + hi (lo (a0 * n))) = c1) (h2 : IntKind.u64.wrap (hi (a1 * n) + hi (lo (a1 * n) + c1)) = c2) (h3 : IntKind.u64.wrap (hi (a2 * n) + hi (lo (a2 * n) + c2)) = c3) (h4 : IntKind.u64.wrap (hi (a3 * n) + hi (lo (a3 * n) + c3)) = c4)
    (e0 : lo (lo (a0 * n)) = s0) (e1 : lo (lo (a1 * n) + c1) = s1) (e2 : lo (lo (a2 * n) + c2) = s2) (e3 : lo (lo (a3 * n) + c3) = s3)
    (p1 : 0 ≤ c1) (p2 : 0 ≤ c2) (p3 : 0 ≤ c3) :
    Calls Try.prog 27 #[.agg #[.int .u64 a0, .int .u64 a1, .int .u64 a2, .int .u64 a3], .int .u64 n] w fun e w' =>
      e = .returned (.tuple #[.agg #[.int .u64 s0, .int .u64 s1, .int .u64 s2, .int .u64 s3], .int .u64 c4]) ∧ Below w.heap.size w w' := by
  go_enter Try.func27, Try.ntmps27
  go_wp2
  refine wp_loop_rounds 5 ?_
  rw [rounds_succ]
  go_wp2_with (go_at_call 54; refine (mul64_c a0 n _ ha0 ga0 hn gn).mono ?_; rintro e w1 ⟨rfl, rfl⟩)
  rw [rounds_succ]
  go_wp2_with (go_at_call 54; refine (mul64_c a1 n _ ha1 ga1 hn gn).mono ?_; rintro e w1 ⟨rfl, rfl⟩)
  rw [rounds_succ]
  go_wp2_with (go_at_call 54; refine (mul64_c a2 n _ ha2 ga2 hn gn).mono ?_; rintro e w1 ⟨rfl, rfl⟩)
  rw [rounds_succ]
  go_wp2_with (go_at_call 54; refine (mul64_c a3 n _ ha3 ga3 hn gn).mono ?_; rintro e w1 ⟨rfl, rfl⟩)
  rw [rounds_succ]
  go_wp2
  exact bodyPost_ret (v := .tuple #[.agg #[.int .u64 s0, .int .u64 s1, .int .u64 s2, .int .u64 s3], .int .u64 c4]) (by simp [results, Try.results27, go_sem]) rfl
    ⟨rfl, ((Below.refl _ _).alloc (Nat.le_refl _) _).alloc (by simp) _⟩
end Go.Proofs.Ytefnlmiephombaa
