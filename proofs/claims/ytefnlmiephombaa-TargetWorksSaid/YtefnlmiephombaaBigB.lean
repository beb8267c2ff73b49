/- Contracts of package big: Mul, Bits, Up, Down. -/
import Derived.Test.YtefnlmiephombaaBigA
import Derived.Test.YtefnlmiephombaaSh
namespace Go.Proofs.Ytefnlmiephombaa
open Go.RowKit
attribute [local go_sem] ix0 ix1 ix2 ix3

theorem mul_c (x n : Int) (hn : 0 ≤ n) (hn' : n ≤ 18446744073709551615) (w : World) :
    Calls Try.prog 27 #[big x, .int .u64 n] w fun e w' => e = .returned (.tuple #[big (x * n), .int .u64 (m x * n / M)]) ∧ Below w.heap.size w w' := by
  rw [← big_m x]
  obtain ⟨a0, a1, a2, a3, a4⟩ := mul_words (m x) n
  have b1 := mul_bd (L0 (m x)) n 0 (L0_nn _) (L0_le _) hn hn' (by omega) (by omega)
  rw [Int.add_zero] at b1
  have b2 := mul_bd (L1 (m x)) n _ (L1_nn _) (L1_le _) hn hn' b1.1 b1.2
  have b3 := mul_bd (L2 (m x)) n _ (L2_nn _) (L2_le _) hn hn' b2.1 b2.2
  have b4 := mul_bd (L3 (m x)) n _ (L3_nn _) (L3_le _) hn hn' b3.1 b3.2
  have w1 : IntKind.u64.wrap (hi (L0 (m x) * n) + hi (lo (L0 (m x) * n))) = hi (L0 (m x) * n) := by
    have := mul_hi (L0 (m x)) n 0
    simp only [Int.add_zero] at this
    rw [this, wrap_lo]; unfold lo; omega
  have wr : ∀ u c : Int, 0 ≤ hi (u * n + c) → hi (u * n + c) ≤ 18446744073709551615 → IntKind.u64.wrap (hi (u * n) + hi (lo (u * n) + c)) = hi (u * n + c) := by
    intro u c h h'
    rw [mul_hi, wrap_lo]; unfold lo; omega
  have key := mul_words_c (L0 (m x)) (L1 (m x)) (L2 (m x)) (L3 (m x)) n _ _ _ _ _ _ _ _ w (L0_nn _) (L1_nn _) (L2_nn _) (L3_nn _) hn (L0_le _) (L1_le _) (L2_le _) (L3_le _) hn' (lo_nn _) (lo_nn _) (lo_nn _) (lo_nn _)
    w1 (wr _ _ b2.1 b2.2) (wr _ _ b3.1 b3.2) (wr _ _ b4.1 b4.2) rfl rfl rfl rfl b1.1 b2.1 b3.1
  rw [mul_lo, mul_lo, mul_lo, a1, a2, a3] at key
  have e0 : lo (lo (L0 (m x) * n)) = L0 (m x * n) := by
    have := mul_lo (L0 (m x)) n 0
    simp only [Int.add_zero] at this
    rw [this, a0]
  rw [e0] at key
  rw [L4_m, Int.zero_mul, Int.zero_add, L4_eq] at a4
  rw [a4] at key
  refine key.mono fun e w' ⟨he, hb⟩ => ⟨?_, hb⟩
  rw [he]
  have e1 : big (x * n) = big (m x * n) := by
    rw [← big_m (x * n), ← big_m (m x * n)]; congr 1
    unfold m; rw [Int.mul_emod (x % M) n, Int.emod_emod, ← Int.mul_emod]
  rw [e1]; rfl

theorem len64_c (x : Int) (w : World) (h0 : 0 ≤ x) (h1 : x ≤ 18446744073709551615) :
    Calls Try.prog 52 #[.int .u64 x] w fun e w' => e = .returned (.int .i64 (bl x)) ∧ w = w' := by
  refine (Try.bits_Len64 x w h0 h1).mono fun e w' ⟨he, hw⟩ => ⟨?_, hw.symm⟩
  rw [he, bl_word x h0 h1]

theorem bl_le64 (x : Int) (h0 : 0 ≤ x) (h1 : x ≤ 18446744073709551615) : bl x ≤ 64 := (bl_le_iff x h0 64).2 (by omega)

set_option maxHeartbeats 1000000 in
theorem bits_words_c (a0 a1 a2 a3 : Int) (w : World) (ha0 : 0 ≤ a0) (ha1 : 0 ≤ a1) (ha2 : 0 ≤ a2) (ha3 : 0 ≤ a3)
    (ga0 : a0 ≤ 18446744073709551615) (ga1 : a1 ≤ 18446744073709551615) (ga2 : a2 ≤ 18446744073709551615) (ga3 : a3 ≤ 18446744073709551615) :
    Calls Try.prog 22 #[.agg #[.int .u64 a0, .int .u64 a1, .int .u64 a2, .int .u64 a3]] w fun e w' => e = .returned (.int .i64 (nb a0 a1 a2 a3 4)) ∧ Below w.heap.size w w' := by
  have n0 := bl_nn a0; have n1 := bl_nn a1; have n2 := bl_nn a2; have n3 := bl_nn a3
  have l0 := bl_le64 a0 ha0 ga0; have l1 := bl_le64 a1 ha1 ga1; have l2 := bl_le64 a2 ha2 ga2; have l3 := bl_le64 a3 ha3 ga3
  go_enter Try.func22, Try.ntmps22
  go_wp2
  go_loop [3, 7] (fun n i => ∃ k : Nat, k ≤ 4 ∧ i = .int .i64 k ∧ n = .int .i64 (nb a0 a1 a2 a3 k)) (fun _ i => 4 - (intOf i).toNat)
  case atStart => exact ⟨0, by omega, rfl, rfl⟩
  case round =>
    obtain ⟨k, hk, rfl, rfl⟩ := hrel
    have hk5 : k = 0 ∨ k = 1 ∨ k = 2 ∨ k = 3 ∨ k = 4 := by omega
    rcases hk5 with rfl | rfl | rfl | rfl | rfl
    · by_cases h : a0 = 0
      · subst h
        go_wp2
        go_round
        case rel => exact ⟨1, by omega, rfl, by simp [nb]⟩
        case measure => simp [intOf]
      · have hb : (a0 == 0) = false := by simpa using h
        go_wp2_with (go_at_call 52; refine (len64_c a0 _ ha0 ga0).mono ?_; rintro e w1 ⟨rfl, rfl⟩)
        go_round
        case rel => exact ⟨1, by omega, rfl, by simp [nb, h]⟩
        case measure => simp [intOf]
    · by_cases h : a1 = 0
      · subst h
        go_wp2
        go_round
        case rel => exact ⟨2, by omega, rfl, by simp [nb]⟩
        case measure => simp [intOf]
      · have hb : (a1 == 0) = false := by simpa using h
        go_wp2_with (go_at_call 52; refine (len64_c a1 _ ha1 ga1).mono ?_; rintro e w1 ⟨rfl, rfl⟩)
        go_round
        case rel => exact ⟨2, by omega, rfl, by simp [nb, h]⟩
        case measure => simp [intOf]
    · by_cases h : a2 = 0
      · subst h
        go_wp2
        go_round
        case rel => exact ⟨3, by omega, rfl, by simp [nb]⟩
        case measure => simp [intOf]
      · have hb : (a2 == 0) = false := by simpa using h
        go_wp2_with (go_at_call 52; refine (len64_c a2 _ ha2 ga2).mono ?_; rintro e w1 ⟨rfl, rfl⟩)
        go_round
        case rel => exact ⟨3, by omega, rfl, by simp [nb, h]⟩
        case measure => simp [intOf]
    · by_cases h : a3 = 0
      · subst h
        go_wp2
        go_round
        case rel => exact ⟨4, by omega, rfl, by simp [nb]⟩
        case measure => simp [intOf]
      · have hb : (a3 == 0) = false := by simpa using h
        go_wp2_with (go_at_call 52; refine (len64_c a3 _ ha3 ga3).mono ?_; rintro e w1 ⟨rfl, rfl⟩)
        go_round
        case rel => exact ⟨4, by omega, rfl, by simp [nb, h]⟩
        case measure => simp [intOf]
    · go_wp2
      go_ret
      exact ⟨rfl, bel_alloc (Below.refl _ _) _⟩

theorem bits_c (x : Int) (w : World) :
    Calls Try.prog 22 #[big x] w fun e w' => e = .returned (.int .i64 (bl (m x))) ∧ Below w.heap.size w w' := by
  rw [← nb_eq]
  exact bits_words_c _ _ _ _ w (L0_nn _) (L1_nn _) (L2_nn _) (L3_nn _) (L0_le _) (L1_le _) (L2_le _) (L3_le _)

/-- one word of 'Up', as the walk spells it -/
def us (x y r : Int) : Int := bits .or .u64 (IntKind.u64.wrap (x * 2 ^ r.toNat)) (y / 2 / 2 ^ (63 - r).toNat)

set_option maxHeartbeats 800000 in
theorem up_words_0 (a0 a1 a2 a3 r : Int) (h0 : 0 < r) (hr : r < 64) (w : World)
    (hq : (r) / 64 = 0) (hm : (r) % 64 = r) :
    Calls Try.prog 16 #[.agg #[.int .u64 a0, .int .u64 a1, .int .u64 a2, .int .u64 a3], .int .i64 r] w fun e w' =>
      e = .returned (.agg #[.int .u64 (IntKind.u64.wrap (a0 * 2 ^ r.toNat)), .int .u64 (us a1 a0 r), .int .u64 (us a2 a1 r), .int .u64 (us a3 a2 r)]) ∧ Below w.heap.size w w' := by
  go_enter Try.func16, Try.ntmps16
  go_wp2
  refine wp_loop_rounds 5 ?_
  rw [rounds_succ]
  go_wp2
  rw [rounds_succ]
  go_wp2
  go_region
  all_goals go_wp2
  rw [rounds_succ]
  go_wp2
  go_region
  all_goals go_wp2
  rw [rounds_succ]
  go_wp2
  go_region
  all_goals go_wp2
  rw [rounds_succ]
  go_wp2
  exact bodyPost_ret (v := .agg #[.int .u64 (IntKind.u64.wrap (a0 * 2 ^ r.toNat)), .int .u64 (us a1 a0 r), .int .u64 (us a2 a1 r), .int .u64 (us a3 a2 r)]) (by simp [results, Try.results16, go_sem, us]) rfl ⟨rfl, by repeat (first | exact Below.refl _ _ | refine bel_drew ?_ | refine bel_alloc ?_ _)⟩

set_option maxHeartbeats 800000 in
theorem up_words_1 (a0 a1 a2 a3 r : Int) (h0 : 0 ≤ r) (hr : r < 64) (w : World)
    (hq : (64 + r) / 64 = 1) (hm : (64 + r) % 64 = r) :
    Calls Try.prog 16 #[.agg #[.int .u64 a0, .int .u64 a1, .int .u64 a2, .int .u64 a3], .int .i64 (64 + r)] w fun e w' =>
      e = .returned (.agg #[.int .u64 0, .int .u64 (IntKind.u64.wrap (a0 * 2 ^ r.toNat)), .int .u64 (us a1 a0 r), .int .u64 (us a2 a1 r)]) ∧ Below w.heap.size w w' := by
  go_enter Try.func16, Try.ntmps16
  go_wp2
  refine wp_loop_rounds 5 ?_
  rw [rounds_succ]
  go_wp2
  rw [rounds_succ]
  go_wp2
  rw [rounds_succ]
  go_wp2
  go_region
  all_goals go_wp2
  rw [rounds_succ]
  go_wp2
  go_region
  all_goals go_wp2
  rw [rounds_succ]
  go_wp2
  exact bodyPost_ret (v := .agg #[.int .u64 0, .int .u64 (IntKind.u64.wrap (a0 * 2 ^ r.toNat)), .int .u64 (us a1 a0 r), .int .u64 (us a2 a1 r)]) (by simp [results, Try.results16, go_sem, us]) rfl ⟨rfl, by repeat (first | exact Below.refl _ _ | refine bel_drew ?_ | refine bel_alloc ?_ _)⟩

set_option maxHeartbeats 800000 in
theorem up_words_2 (a0 a1 a2 a3 r : Int) (h0 : 0 ≤ r) (hr : r < 64) (w : World)
    (hq : (128 + r) / 64 = 2) (hm : (128 + r) % 64 = r) :
    Calls Try.prog 16 #[.agg #[.int .u64 a0, .int .u64 a1, .int .u64 a2, .int .u64 a3], .int .i64 (128 + r)] w fun e w' =>
      e = .returned (.agg #[.int .u64 0, .int .u64 0, .int .u64 (IntKind.u64.wrap (a0 * 2 ^ r.toNat)), .int .u64 (us a1 a0 r)]) ∧ Below w.heap.size w w' := by
  go_enter Try.func16, Try.ntmps16
  go_wp2
  refine wp_loop_rounds 5 ?_
  rw [rounds_succ]
  go_wp2
  rw [rounds_succ]
  go_wp2
  rw [rounds_succ]
  go_wp2
  rw [rounds_succ]
  go_wp2
  go_region
  all_goals go_wp2
  rw [rounds_succ]
  go_wp2
  exact bodyPost_ret (v := .agg #[.int .u64 0, .int .u64 0, .int .u64 (IntKind.u64.wrap (a0 * 2 ^ r.toNat)), .int .u64 (us a1 a0 r)]) (by simp [results, Try.results16, go_sem, us]) rfl ⟨rfl, by repeat (first | exact Below.refl _ _ | refine bel_drew ?_ | refine bel_alloc ?_ _)⟩

set_option maxHeartbeats 800000 in
theorem up_words_3 (a0 a1 a2 a3 r : Int) (h0 : 0 ≤ r) (hr : r < 64) (w : World)
    (hq : (192 + r) / 64 = 3) (hm : (192 + r) % 64 = r) :
    Calls Try.prog 16 #[.agg #[.int .u64 a0, .int .u64 a1, .int .u64 a2, .int .u64 a3], .int .i64 (192 + r)] w fun e w' =>
      e = .returned (.agg #[.int .u64 0, .int .u64 0, .int .u64 0, .int .u64 (IntKind.u64.wrap (a0 * 2 ^ r.toNat))]) ∧ Below w.heap.size w w' := by
  go_enter Try.func16, Try.ntmps16
  go_wp2
  refine wp_loop_rounds 5 ?_
  rw [rounds_succ]
  go_wp2
  rw [rounds_succ]
  go_wp2
  rw [rounds_succ]
  go_wp2
  rw [rounds_succ]
  go_wp2
  rw [rounds_succ]
  go_wp2
  exact bodyPost_ret (v := .agg #[.int .u64 0, .int .u64 0, .int .u64 0, .int .u64 (IntKind.u64.wrap (a0 * 2 ^ r.toNat))]) (by simp [results, Try.results16, go_sem]) rfl ⟨rfl, by repeat (first | exact Below.refl _ _ | refine bel_drew ?_ | refine bel_alloc ?_ _)⟩

set_option maxHeartbeats 400000 in
theorem up_none (a0 a1 a2 a3 n : Int) (hn : n ≤ 0) (w : World) :
    Calls Try.prog 16 #[.agg #[.int .u64 a0, .int .u64 a1, .int .u64 a2, .int .u64 a3], .int .i64 n] w fun e w' =>
      e = .returned (.agg #[.int .u64 a0, .int .u64 a1, .int .u64 a2, .int .u64 a3]) ∧ Below w.heap.size w w' := by
  go_enter Try.func16, Try.ntmps16
  go_wp2
  exact bodyPost_ret (v := .agg #[.int .u64 a0, .int .u64 a1, .int .u64 a2, .int .u64 a3]) (by simp [results, Try.results16, go_sem]) rfl ⟨rfl, by repeat (first | exact Below.refl _ _ | refine bel_drew ?_ | refine bel_alloc ?_ _)⟩

set_option maxHeartbeats 400000 in
theorem up_all (a0 a1 a2 a3 n : Int) (hn : 256 ≤ n) (hn' : n ≤ 9223372036854775807) (w : World) :
    Calls Try.prog 16 #[.agg #[.int .u64 a0, .int .u64 a1, .int .u64 a2, .int .u64 a3], .int .i64 n] w fun e w' =>
      e = .returned (.agg #[.int .u64 0, .int .u64 0, .int .u64 0, .int .u64 0]) ∧ Below w.heap.size w w' := by
  go_enter Try.func16, Try.ntmps16
  go_wp2
  refine wp_loop_rounds 5 ?_
  iterate 5
    rw [rounds_succ]
    go_wp2
  exact bodyPost_ret (v := .agg #[.int .u64 0, .int .u64 0, .int .u64 0, .int .u64 0]) (by simp [results, Try.results16, go_sem]) rfl ⟨rfl, by repeat (first | exact Below.refl _ _ | refine bel_drew ?_ | refine bel_alloc ?_ _)⟩

/-- x moved up by n bits -/
def upv (x n : Int) : Int := if n ≤ 0 then x else x * 2 ^ n.toNat

theorem us_eq (x y : Int) (r : Nat) (hx : 0 ≤ x) (hy : 0 ≤ y) (hy' : y ≤ 18446744073709551615) (hr : r < 64) : us x y r = lo (x * 2 ^ r + hi (y * 2 ^ r)) := by
  obtain ⟨x, rfl⟩ := Int.eq_ofNat_of_zero_le hx
  obtain ⟨y, rfl⟩ := Int.eq_ofNat_of_zero_le hy
  unfold us
  rw [Int.toNat_natCast]
  exact up_word x y r (by omega) hr

theorem big_shift (v x : Int) (h : m v = m x) : big v = big x := by rw [← big_m v, ← big_m x, h]
theorem m_mul (x n : Int) : m (m x * n) = m (x * n) := by unfold m; rw [Int.mul_emod (x % M) n, Int.emod_emod, ← Int.mul_emod]

theorem up_c (x n : Int) (hn : n ≤ 9223372036854775807) (w : World) :
    Calls Try.prog 16 #[big x, .int .i64 n] w fun e w' => e = .returned (big (upv x n)) ∧ Below w.heap.size w w' := by
  by_cases h0 : n ≤ 0
  · rw [show upv x n = x from if_pos h0]
    exact up_none _ _ _ _ n h0 w
  · rw [show upv x n = x * 2 ^ n.toNat from if_neg h0]
    by_cases h1 : 256 ≤ n
    · have e : big (x * 2 ^ n.toNat) = .agg #[.int .u64 0, .int .u64 0, .int .u64 0, .int .u64 0] := by
        have : m (x * 2 ^ n.toNat) = m 0 := by
          have e2 : (2 : Int) ^ n.toNat = M * 2 ^ (n.toNat - 256) := by
            rw [show M = 2 ^ 256 by unfold M; rfl, ← Int.pow_add, show 256 + (n.toNat - 256) = n.toNat by omega]
          unfold m
          rw [e2, Int.mul_left_comm]; simp
        rw [big_shift _ _ this]; rfl
      rw [e]
      exact up_all _ _ _ _ n h1 hn w
    · have hq : ∃ (q r : Nat), q < 4 ∧ r < 64 ∧ n = 64 * q + r := ⟨n.toNat / 64, n.toNat % 64, by omega, by omega, by omega⟩
      obtain ⟨q, r, hq4, hr, rfl⟩ := hq
      have z0 := L0_nn x; have z1 := L1_nn x; have z2 := L2_nn x; have z3 := L3_nn x
      have y0 := L0_le x; have y1 := L1_le x; have y2 := L2_le x
      obtain ⟨u0, u1, u2, u3⟩ := up_words x r hr
      have e : x * 2 ^ ((64 * (q : Int) + (r : Int)).toNat) = x * 2 ^ r * 18446744073709551616 ^ q := by
        rw [show (64 * (q : Int) + (r : Int)).toNat = r + 64 * q by omega, Int.pow_add, Int.pow_mul, Int.mul_assoc]; rfl
      rw [e]
      have t0 := us_eq (L1 x) (L0 x) r z1 z0 y0 hr
      have t1 := us_eq (L2 x) (L1 x) r z2 z1 y1 hr
      have t2 := us_eq (L3 x) (L2 x) r z3 z2 y2 hr
      have t3 := wrap_lo (L0 x * 2 ^ r)
      rw [u0] at t3; rw [u1] at t0; rw [u2] at t1; rw [u3] at t2
      obtain ⟨p0, p1, p2, p3⟩ := word_up (x * 2 ^ r)
      obtain ⟨p0', p1', p2', p3'⟩ := word_up (x * 2 ^ r * 18446744073709551616)
      obtain ⟨p0'', p1'', p2'', p3''⟩ := word_up (x * 2 ^ r * 18446744073709551616 * 18446744073709551616)
      have hc : q = 0 ∨ q = 1 ∨ q = 2 ∨ q = 3 := by omega
      rcases hc with rfl | rfl | rfl | rfl
      · have key := up_words_0 (L0 x) (L1 x) (L2 x) (L3 x) r (by omega) (by omega) w (by omega) (by omega)
        rw [t0, t1, t2, Int.toNat_natCast, t3] at key
        simpa [big] using key
      · have key := up_words_1 (L0 x) (L1 x) (L2 x) (L3 x) r (by omega) (by omega) w (by omega) (by omega)
        rw [t0, t1, Int.toNat_natCast, t3] at key
        rw [Int.pow_succ, Int.pow_zero, Int.one_mul]
        unfold big
        rw [p0, p1, p2, p3]
        simpa using key
      · have key := up_words_2 (L0 x) (L1 x) (L2 x) (L3 x) r (by omega) (by omega) w (by omega) (by omega)
        rw [t0, Int.toNat_natCast, t3] at key
        rw [Int.pow_succ, Int.pow_succ, Int.pow_zero, Int.one_mul, ← Int.mul_assoc]
        unfold big
        rw [p0', p1', p2', p3', p0, p1, p2]
        simpa using key
      · have key := up_words_3 (L0 x) (L1 x) (L2 x) (L3 x) r (by omega) (by omega) w (by omega) (by omega)
        rw [Int.toNat_natCast, t3] at key
        rw [Int.pow_succ, Int.pow_succ, Int.pow_succ, Int.pow_zero, Int.one_mul, ← Int.mul_assoc, ← Int.mul_assoc]
        unfold big
        rw [p0'', p1'', p2'', p3'', p0', p1', p2', p0, p1]
        simpa using key
end Go.Proofs.Ytefnlmiephombaa
