/- Contracts of package big: Down. -/
import Derived.Test.YtefnlmiephombaaBigB
namespace Go.Proofs.Ytefnlmiephombaa
open Go.RowKit

/-- one word of 'Down', as the walk spells it -/
def ds (x y r : Int) : Int := bits .or .u64 (x / 2 ^ r.toNat) (IntKind.u64.wrap (IntKind.u64.wrap (y * 2) * 2 ^ (63 - r).toNat))

set_option maxHeartbeats 800000 in
theorem down_words_0 (a0 a1 a2 a3 r : Int) (h0 : 0 < r) (hr : r < 64) (w : World)
    (hq : (r) / 64 = 0) (hm : (r) % 64 = r) :
    Calls Try.prog 18 #[.agg #[.int .u64 a0, .int .u64 a1, .int .u64 a2, .int .u64 a3], .int .i64 r] w fun e w' =>
      e = .returned (.agg #[.int .u64 (ds a0 a1 r), .int .u64 (ds a1 a2 r), .int .u64 (ds a2 a3 r), .int .u64 (a3 / 2 ^ r.toNat)]) ∧ Below w.heap.size w w' := by
  go_enter Try.func18, Try.ntmps18
  go_wp2
  refine wp_loop_rounds 5 ?_
  rw [rounds_succ]
  go_wp2
  go_region
  all_goals go_wp2
  rw [rounds_succ]
  go_wp2
  go_region
  all_goals go_wp2
  rw [rounds_succ]
  go_wp2
  go_region
  all_goals go_wp2
  rw [rounds_succ]
  go_wp2
  rw [rounds_succ]
  go_wp2
  exact bodyPost_ret (v := .agg #[.int .u64 (ds a0 a1 r), .int .u64 (ds a1 a2 r), .int .u64 (ds a2 a3 r), .int .u64 (a3 / 2 ^ r.toNat)]) (by simp [results, Try.results18, go_sem, ds]) rfl ⟨rfl, by repeat (first | exact Below.refl _ _ | refine bel_drew ?_ | refine bel_alloc ?_ _)⟩

set_option maxHeartbeats 800000 in
theorem down_words_1 (a0 a1 a2 a3 r : Int) (h0 : 0 ≤ r) (hr : r < 64) (w : World)
    (hq : (64 + r) / 64 = 1) (hm : (64 + r) % 64 = r) :
    Calls Try.prog 18 #[.agg #[.int .u64 a0, .int .u64 a1, .int .u64 a2, .int .u64 a3], .int .i64 (64 + r)] w fun e w' =>
      e = .returned (.agg #[.int .u64 (ds a1 a2 r), .int .u64 (ds a2 a3 r), .int .u64 (a3 / 2 ^ r.toNat), .int .u64 0]) ∧ Below w.heap.size w w' := by
  go_enter Try.func18, Try.ntmps18
  go_wp2
  refine wp_loop_rounds 5 ?_
  rw [rounds_succ]
  go_wp2
  go_region
  all_goals go_wp2
  rw [rounds_succ]
  go_wp2
  go_region
  all_goals go_wp2
  rw [rounds_succ]
  go_wp2
  rw [rounds_succ]
  go_wp2
  rw [rounds_succ]
  go_wp2
  exact bodyPost_ret (v := .agg #[.int .u64 (ds a1 a2 r), .int .u64 (ds a2 a3 r), .int .u64 (a3 / 2 ^ r.toNat), .int .u64 0]) (by simp [results, Try.results18, go_sem, ds]) rfl ⟨rfl, by repeat (first | exact Below.refl _ _ | refine bel_drew ?_ | refine bel_alloc ?_ _)⟩

set_option maxHeartbeats 800000 in
theorem down_words_2 (a0 a1 a2 a3 r : Int) (h0 : 0 ≤ r) (hr : r < 64) (w : World)
    (hq : (128 + r) / 64 = 2) (hm : (128 + r) % 64 = r) :
    Calls Try.prog 18 #[.agg #[.int .u64 a0, .int .u64 a1, .int .u64 a2, .int .u64 a3], .int .i64 (128 + r)] w fun e w' =>
      e = .returned (.agg #[.int .u64 (ds a2 a3 r), .int .u64 (a3 / 2 ^ r.toNat), .int .u64 0, .int .u64 0]) ∧ Below w.heap.size w w' := by
  go_enter Try.func18, Try.ntmps18
  go_wp2
  refine wp_loop_rounds 5 ?_
  rw [rounds_succ]
  go_wp2
  go_region
  all_goals go_wp2
  rw [rounds_succ]
  go_wp2
  rw [rounds_succ]
  go_wp2
  rw [rounds_succ]
  go_wp2
  rw [rounds_succ]
  go_wp2
  exact bodyPost_ret (v := .agg #[.int .u64 (ds a2 a3 r), .int .u64 (a3 / 2 ^ r.toNat), .int .u64 0, .int .u64 0]) (by simp [results, Try.results18, go_sem, ds]) rfl ⟨rfl, by repeat (first | exact Below.refl _ _ | refine bel_drew ?_ | refine bel_alloc ?_ _)⟩

set_option maxHeartbeats 800000 in
theorem down_words_3 (a0 a1 a2 a3 r : Int) (h0 : 0 ≤ r) (hr : r < 64) (w : World)
    (hq : (192 + r) / 64 = 3) (hm : (192 + r) % 64 = r) :
    Calls Try.prog 18 #[.agg #[.int .u64 a0, .int .u64 a1, .int .u64 a2, .int .u64 a3], .int .i64 (192 + r)] w fun e w' =>
      e = .returned (.agg #[.int .u64 (a3 / 2 ^ r.toNat), .int .u64 0, .int .u64 0, .int .u64 0]) ∧ Below w.heap.size w w' := by
  go_enter Try.func18, Try.ntmps18
  go_wp2
  refine wp_loop_rounds 5 ?_
  rw [rounds_succ]
  go_wp2
  rw [rounds_succ]
  go_wp2
  rw [rounds_succ]
  go_wp2
  rw [rounds_succ]
  go_wp2
  rw [rounds_succ]
  go_wp2
  exact bodyPost_ret (v := .agg #[.int .u64 (a3 / 2 ^ r.toNat), .int .u64 0, .int .u64 0, .int .u64 0]) (by simp [results, Try.results18, go_sem]) rfl ⟨rfl, by repeat (first | exact Below.refl _ _ | refine bel_drew ?_ | refine bel_alloc ?_ _)⟩

set_option maxHeartbeats 400000 in
theorem down_none (a0 a1 a2 a3 n : Int) (hn : n ≤ 0) (w : World) :
    Calls Try.prog 18 #[.agg #[.int .u64 a0, .int .u64 a1, .int .u64 a2, .int .u64 a3], .int .i64 n] w fun e w' =>
      e = .returned (.agg #[.int .u64 a0, .int .u64 a1, .int .u64 a2, .int .u64 a3]) ∧ Below w.heap.size w w' := by
  go_enter Try.func18, Try.ntmps18
  go_wp2
  exact bodyPost_ret (v := .agg #[.int .u64 a0, .int .u64 a1, .int .u64 a2, .int .u64 a3]) (by simp [results, Try.results18, go_sem]) rfl ⟨rfl, by repeat (first | exact Below.refl _ _ | refine bel_drew ?_ | refine bel_alloc ?_ _)⟩

set_option maxHeartbeats 400000 in
theorem down_all (a0 a1 a2 a3 n : Int) (hn : 256 ≤ n) (w : World) :
    Calls Try.prog 18 #[.agg #[.int .u64 a0, .int .u64 a1, .int .u64 a2, .int .u64 a3], .int .i64 n] w fun e w' =>
      e = .returned (.agg #[.int .u64 0, .int .u64 0, .int .u64 0, .int .u64 0]) ∧ Below w.heap.size w w' := by
  go_enter Try.func18, Try.ntmps18
  go_wp2
  refine wp_loop_rounds 5 ?_
  rw [rounds_succ]
  go_wp2
  exact bodyPost_ret (v := .agg #[.int .u64 0, .int .u64 0, .int .u64 0, .int .u64 0]) (by simp [results, Try.results18, go_sem]) rfl ⟨rfl, by repeat (first | exact Below.refl _ _ | refine bel_drew ?_ | refine bel_alloc ?_ _)⟩

/-- x moved down by n bits -/
def downv (x n : Int) : Int := if n ≤ 0 then x else m x / 2 ^ n.toNat

theorem down_c (x n : Int) (w : World) :
    Calls Try.prog 18 #[big x, .int .i64 n] w fun e w' => e = .returned (big (downv x n)) ∧ Below w.heap.size w w' := by
  by_cases h0 : n ≤ 0
  · rw [show downv x n = x from if_pos h0]
    exact down_none _ _ _ _ n h0 w
  · rw [show downv x n = m x / 2 ^ n.toNat from if_neg h0, ← big_m x]
    have x0 := m_nn x
    have x1 := m_lt x
    generalize m x = x at *
    by_cases h1 : 256 ≤ n
    · have e : big (x / 2 ^ n.toNat) = .agg #[.int .u64 0, .int .u64 0, .int .u64 0, .int .u64 0] := by
        have : x / 2 ^ n.toNat = 0 := by
          have e2 : (2 : Int) ^ n.toNat = M * 2 ^ (n.toNat - 256) := by
            rw [show M = 2 ^ 256 by unfold M; rfl, ← Int.pow_add, show 256 + (n.toNat - 256) = n.toNat by omega]
          rw [e2, ← Int.ediv_ediv_of_nonneg (by unfold M; omega), Int.ediv_eq_zero_of_lt x0 x1, Int.zero_ediv]
        rw [this]; rfl
      rw [e]
      exact down_all _ _ _ _ n h1 w
    · have hq : ∃ (q r : Nat), q < 4 ∧ r < 64 ∧ n = 64 * q + r := ⟨n.toNat / 64, n.toNat % 64, by omega, by omega, by omega⟩
      obtain ⟨q, r, hq4, hr, rfl⟩ := hq
      obtain ⟨u0, u1, u2, u3⟩ := down_words x x0 x1 r hr
      have t0 : ds (L0 x) (L1 x) r = L0 (x / 2 ^ r) := by rw [← u0]; unfold ds; rw [Int.toNat_natCast]
      have t1 : ds (L1 x) (L2 x) r = L1 (x / 2 ^ r) := by rw [← u1]; unfold ds; rw [Int.toNat_natCast]
      have t2 : ds (L2 x) (L3 x) r = L2 (x / 2 ^ r) := by rw [← u2]; unfold ds; rw [Int.toNat_natCast]
      have hp : (0 : Int) ≤ 2 ^ r := Int.le_of_lt (Int.pow_pos (by omega))
      have y0 : 0 ≤ x / 2 ^ r := Int.ediv_nonneg x0 hp
      have y1 : x / 2 ^ r < M := by
        have : x / 2 ^ r ≤ x := Int.ediv_le_self _ x0
        omega
      have e : x / 2 ^ ((64 * (q : Int) + (r : Int)).toNat) = x / 2 ^ r / 18446744073709551616 ^ q := by
        rw [show (64 * (q : Int) + (r : Int)).toNat = r + 64 * q by omega, Int.pow_add, Int.pow_mul, Int.ediv_ediv_of_nonneg hp]; rfl
      rw [e]
      generalize x / 2 ^ r = v at *
      have v4 : hi (hi (hi (hi v))) = 0 := by unfold hi M at *; omega
      have z4 : lo (0 : Int) = 0 := rfl
      have z4' : hi (0 : Int) = 0 := rfl
      have hd : ∀ u : Int, u / 18446744073709551616 = hi u := fun _ => rfl
      have hc : q = 0 ∨ q = 1 ∨ q = 2 ∨ q = 3 := by omega
      rcases hc with rfl | rfl | rfl | rfl
      · have key := down_words_0 (L0 x) (L1 x) (L2 x) (L3 x) r (by omega) (by omega) w (by omega) (by omega)
        rw [t0, t1, t2, Int.toNat_natCast, u3] at key
        simpa [big] using key
      · have key := down_words_1 (L0 x) (L1 x) (L2 x) (L3 x) r (by omega) (by omega) w (by omega) (by omega)
        rw [t1, t2, Int.toNat_natCast, u3] at key
        rw [Int.pow_succ, Int.pow_zero, Int.one_mul, hd]
        unfold big
        unfold L0 L1 L2 L3 at key ⊢
        rw [v4, z4]
        simpa using key
      · have key := down_words_2 (L0 x) (L1 x) (L2 x) (L3 x) r (by omega) (by omega) w (by omega) (by omega)
        rw [t2, Int.toNat_natCast, u3] at key
        rw [Int.pow_succ, Int.pow_succ, Int.pow_zero, Int.one_mul, ← Int.ediv_ediv_of_nonneg (by omega), hd, hd]
        unfold big
        unfold L0 L1 L2 L3 at key ⊢
        rw [v4, z4', z4]
        simpa using key
      · have key := down_words_3 (L0 x) (L1 x) (L2 x) (L3 x) r (by omega) (by omega) w (by omega) (by omega)
        rw [Int.toNat_natCast, u3] at key
        rw [Int.pow_succ, Int.pow_succ, Int.pow_succ, Int.pow_zero, Int.one_mul, ← Int.ediv_ediv_of_nonneg (by omega), ← Int.ediv_ediv_of_nonneg (by omega), hd, hd, hd]
        unfold big
        unfold L0 L1 L2 L3 at key ⊢
        rw [v4, z4', z4', z4]
        simpa using key
end Go.Proofs.Ytefnlmiephombaa
