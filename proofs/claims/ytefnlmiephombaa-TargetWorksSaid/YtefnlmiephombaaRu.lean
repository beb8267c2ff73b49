/- The contracts of scantlingref02.Up and Down. -/
import Derived.Test.YtefnlmiephombaaRp
namespace Go.Proofs.Ytefnlmiephombaa
open Go.RowKit Go.Sort

set_option maxRecDepth 100000 in
set_option maxHeartbeats 1600000 in
theorem rup_mid (x : Int) (n : Nat) (hn : 0 < n) (hn2 : n ≤ 256) (w : World) :
    Calls Try.prog 17 #[big x, .int .i64 n] w fun e w' => e = .returned (big (x * 2 ^ n)) ∧ Below w.heap.size w w' := by
  obtain ⟨i0, hi, hz0, hz1, hz2⟩ := info_parts Try.info3
  have hn0 : ¬ n = 0 := by omega
  unfold big
  go_enter Try.func17, Try.ntmps17
  go_wp2
  refine wp_gen (fun W => Cells4 W (w.heap.size) x ∧ Cells4 W (w.heap.size + 1) 0 ∧ Below w.heap.size w W) ⟨(cells4_new w x).alloc _, cells4_new' (w.alloc _) _ 0 (by simp), bel_alloc (bel_alloc (Below.refl _ _) _) _⟩ ?_
  rintro W0 ⟨cb0, cb1, hB0⟩
  have hsz0 := hB0.size
  go_loopw [5, 6] (fun l i wr => ∃ k : Nat, k ≤ 256 ∧ i = .int .i64 k ∧ wr.ownsRow W0.heap.size 3 1 l k ((rowB (x * 2 ^ n) k).map (Value.int .i64)) ∧ Below W0.heap.size W0 wr) (fun _ i _ => 256 - (intOf i).toNat)
  case atStart => exact ⟨0, by omega, rfl, World.ownsRow_nil _ _ _ _, Below.refl _ _⟩
  case round =>
    obtain ⟨k, hk, rfl, hown, hB⟩ := hrel
    by_cases hlt : k < 256
    · obtain ⟨x0, x1, x2, x3, -, -, -, -⟩ := id (cb0.call hB)
      have kx : ∀ w, Calls Try.prog 48 #[.agg #[.int .u64 (L0 x), .int .u64 (L1 x), .int .u64 (L2 x), .int .u64 (L3 x)], .int .i64 ((k : Int) - n)] w fun e w' => e = .returned (.int .i64 (bt (x * 2 ^ n) k)) ∧ Below w.heap.size w w' := fun w => by
        have := bit_c x ((k : Int) - n) w
        rwa [bitv_up x n k hlt] at this
      have w1 : IntKind.i64.wrap ((k : Int) - n) = ((k : Int) - n) := by rw [IntKind.wrap_i64]; omega

      go_wp2_with (first
        | (go_at_call 48; with_reducible refine (kx _).mono ?_; rintro e W1 ⟨rfl, hb1⟩; have hB1 := bel_call hB hb1; have hown1 := ownsRow_below hown hb1)
        | (at_builtin; refine wpList_append_own _ rfl _ _ 58 rfl W0.heap.size 3 i0 (.int .i64 0) 1 8 Try.underlying58 hi hz0 hz1 hz2 rfl (by decide) _ _ _ rfl (hown1.alloc _) ⟨W1.heap.size, 0, none⟩ 1 1 [.int .i64 (bt (x * 2 ^ n) k)] rfl rfl ?c1 ?c2 ?c3 ?c4 ?c5 ?_))
      try case c1 => (intro j u hj; rcases j with _ | j <;> simp at hj; subst hj; simp [Addr.add])
      case c2 => first | (intro u hu; simp at hu; subst hu; rfl) | rfl
      case c3 => unfold maxLen; omega
      case c4 => omega
      case c5 => have := hB1.size; simp; omega
      intro v' w1 hown' hgrow _
      have hB2 := row_below hown1 hB1 hgrow
      rw [show (rowB (x * 2 ^ n) k).map (Value.int .i64) ++ [.int .i64 (bt (x * 2 ^ n) k)] = (rowB (x * 2 ^ n) (k + 1)).map (Value.int .i64) by rw [rowB_succ, List.map_append]; rfl] at hown'
      clear hgrow
      go_wp2
      go_roundw
      case rel => exact ⟨k + 1, by omega, by go_num, hown', hB2⟩
      case measure => simp [intOf]; omega
    · have hk : k = 256 := by omega
      subst hk
      have hl : (rowB (x * 2 ^ n) 256).length = 256 := rowB_length _ _
      have hfr := from_row W0.heap.size u5 (rowB (x * 2 ^ n) 256) (Or.inl hl) (rowB_bits _ _) wr (by rw [hl]; exact hown)
      rw [List.take_of_length_le (by omega), ofBits_m, big_m] at hfr
      unfold big at hfr
      have c9 := cb1.call hB
      go_wp2_with (go_at_call 49; with_reducible refine hfr.mono ?_; rintro e w1 ⟨rfl, hb1⟩; obtain ⟨f0, f1, f2, f3, f4, f5, f6, f7⟩ := id (c9.call hb1))
      exact bodyPost_ret (v := .agg #[.int .u64 (L0 (x * 2 ^ n)), .int .u64 (L1 (x * 2 ^ n)), .int .u64 (L2 (x * 2 ^ n)), .int .u64 (L3 (x * 2 ^ n))]) (by simp [results, Try.results17, go_sem, f0, f1, f2, f3]) rfl ⟨rfl, below_put4 (bel_call (hB0.trans (hB.mono hsz0)) hb1) (by omega) _⟩

set_option maxRecDepth 100000 in
set_option maxHeartbeats 1600000 in
theorem rup_far (x n : Int) (hn : 256 < n) (w : World) :
    Calls Try.prog 17 #[big x, .int .i64 n] w fun e w' => e = .returned (big 0) ∧ Below w.heap.size w w' := by
  obtain ⟨i0, hi, hz0, hz1, hz2⟩ := info_parts Try.info3
  unfold big
  go_enter Try.func17, Try.ntmps17
  go_wp2
  refine wp_gen (fun W => Cells4 W (w.heap.size) x ∧ Cells4 W (w.heap.size + 1) 0 ∧ Below w.heap.size w W) ⟨(cells4_new w x).alloc _, cells4_new' (w.alloc _) _ 0 (by simp), bel_alloc (bel_alloc (Below.refl _ _) _) _⟩ ?_
  rintro W0 ⟨cb0, cb1, hB0⟩
  have hsz0 := hB0.size
  go_loopw [5, 6] (fun l i wr => ∃ k : Nat, k ≤ 256 ∧ i = .int .i64 k ∧ wr.ownsRow W0.heap.size 3 1 l k ((rowB 0 k).map (Value.int .i64)) ∧ Below W0.heap.size W0 wr) (fun _ i _ => 256 - (intOf i).toNat)
  case atStart => exact ⟨0, by omega, rfl, World.ownsRow_nil _ _ _ _, Below.refl _ _⟩
  case round =>
    obtain ⟨k, hk, rfl, hown, hB⟩ := hrel
    have hbz : bt 0 k = 0 := by simp [bt]
    by_cases hlt : k < 256
    · go_wp2_with (first
        | (at_builtin; refine wpList_append_own _ rfl _ _ 58 rfl W0.heap.size 3 i0 (.int .i64 0) 1 8 Try.underlying58 hi hz0 hz1 hz2 rfl (by decide) _ _ _ rfl (hown.alloc _) ⟨wr.heap.size, 0, none⟩ 1 1 [.int .i64 0] rfl rfl ?c1 ?c2 ?c3 ?c4 ?c5 ?_))
      try case c1 => (intro j u hj; rcases j with _ | j <;> simp at hj; subst hj; simp [Addr.add])
      case c2 => first | (intro u hu; simp at hu; subst hu; rfl) | rfl
      case c3 => unfold maxLen; omega
      case c4 => omega
      case c5 => have := hB.size; simp; omega
      intro v' w1 hown' hgrow _
      have hB2 := row_below hown hB hgrow
      rw [show (rowB 0 k).map (Value.int .i64) ++ [.int .i64 0] = (rowB 0 (k + 1)).map (Value.int .i64) by rw [rowB_succ, List.map_append]; simp [hbz]] at hown'
      clear hgrow
      go_wp2
      go_roundw
      case rel => exact ⟨k + 1, by omega, by go_num, hown', hB2⟩
      case measure => simp [intOf]; omega
    · have hk : k = 256 := by omega
      subst hk
      have hl : (rowB 0 256).length = 256 := rowB_length _ _
      have hfr := from_row W0.heap.size u5 (rowB 0 256) (Or.inl hl) (rowB_bits _ _) wr (by rw [hl]; exact hown)
      rw [List.take_of_length_le (by omega), ofBits_m, big_m] at hfr
      unfold big at hfr
      have c9 := cb1.call hB
      go_wp2_with (go_at_call 49; with_reducible refine hfr.mono ?_; rintro e w1 ⟨rfl, hb1⟩; obtain ⟨f0, f1, f2, f3, f4, f5, f6, f7⟩ := id (c9.call hb1))
      exact bodyPost_ret (v := .agg #[.int .u64 (L0 0), .int .u64 (L1 0), .int .u64 (L2 0), .int .u64 (L3 0)]) (by simp [results, Try.results17, go_sem, f0, f1, f2, f3]) rfl ⟨rfl, below_put4 (bel_call (hB0.trans (hB.mono hsz0)) hb1) (by omega) _⟩

set_option maxRecDepth 100000 in
set_option maxHeartbeats 1600000 in
theorem rup_none (x n : Int) (hn : n ≤ 0) (w : World) :
    Calls Try.prog 17 #[big x, .int .i64 n] w fun e w' => e = .returned (big x) ∧ Below w.heap.size w w' := by
  unfold big
  go_enter Try.func17, Try.ntmps17
  go_wp2
  exact bodyPost_ret (v := .agg #[.int .u64 (L0 x), .int .u64 (L1 x), .int .u64 (L2 x), .int .u64 (L3 x)]) (by simp [results, Try.results17, go_sem]) rfl ⟨rfl, by repeat (first | exact Below.refl _ _ | refine bel_drew ?_ | refine bel_alloc ?_ _)⟩

set_option maxRecDepth 100000 in
set_option maxHeartbeats 1600000 in
theorem rdown_mid (x : Int) (n : Nat) (h0 : 0 ≤ x) (h1 : x < M) (hn : 0 < n) (hn2 : n ≤ 256) (w : World) :
    Calls Try.prog 19 #[big x, .int .i64 n] w fun e w' => e = .returned (big (x / 2 ^ n)) ∧ Below w.heap.size w w' := by
  obtain ⟨i0, hi, hz0, hz1, hz2⟩ := info_parts Try.info3
  have hn0 : ¬ n = 0 := by omega
  unfold big
  go_enter Try.func19, Try.ntmps19
  go_wp2
  refine wp_gen (fun W => Cells4 W (w.heap.size) x ∧ Cells4 W (w.heap.size + 1) 0 ∧ Below w.heap.size w W) ⟨(cells4_new w x).alloc _, cells4_new' (w.alloc _) _ 0 (by simp), bel_alloc (bel_alloc (Below.refl _ _) _) _⟩ ?_
  rintro W0 ⟨cb0, cb1, hB0⟩
  have hsz0 := hB0.size
  go_loopw [5, 6] (fun l i wr => ∃ k : Nat, k ≤ 256 ∧ i = .int .i64 k ∧ wr.ownsRow W0.heap.size 3 1 l k ((rowB (x / 2 ^ n) k).map (Value.int .i64)) ∧ Below W0.heap.size W0 wr) (fun _ i _ => 256 - (intOf i).toNat)
  case atStart => exact ⟨0, by omega, rfl, World.ownsRow_nil _ _ _ _, Below.refl _ _⟩
  case round =>
    obtain ⟨k, hk, rfl, hown, hB⟩ := hrel
    by_cases hlt : k < 256
    · obtain ⟨x0, x1, x2, x3, -, -, -, -⟩ := id (cb0.call hB)
      have kx : ∀ w, Calls Try.prog 48 #[.agg #[.int .u64 (L0 x), .int .u64 (L1 x), .int .u64 (L2 x), .int .u64 (L3 x)], .int .i64 ((k : Int) + n)] w fun e w' => e = .returned (.int .i64 (bt (x / 2 ^ n) k)) ∧ Below w.heap.size w w' := fun w => by
        have := bit_c x ((k : Int) + n) w
        rwa [bitv_down x h0 h1 n k] at this
      have w1 : IntKind.i64.wrap ((k : Int) + n) = ((k : Int) + n) := by rw [IntKind.wrap_i64]; omega

      go_wp2_with (first
        | (go_at_call 48; with_reducible refine (kx _).mono ?_; rintro e W1 ⟨rfl, hb1⟩; have hB1 := bel_call hB hb1; have hown1 := ownsRow_below hown hb1)
        | (at_builtin; refine wpList_append_own _ rfl _ _ 58 rfl W0.heap.size 3 i0 (.int .i64 0) 1 8 Try.underlying58 hi hz0 hz1 hz2 rfl (by decide) _ _ _ rfl (hown1.alloc _) ⟨W1.heap.size, 0, none⟩ 1 1 [.int .i64 (bt (x / 2 ^ n) k)] rfl rfl ?c1 ?c2 ?c3 ?c4 ?c5 ?_))
      try case c1 => (intro j u hj; rcases j with _ | j <;> simp at hj; subst hj; simp [Addr.add])
      case c2 => first | (intro u hu; simp at hu; subst hu; rfl) | rfl
      case c3 => unfold maxLen; omega
      case c4 => omega
      case c5 => have := hB1.size; simp; omega
      intro v' w1 hown' hgrow _
      have hB2 := row_below hown1 hB1 hgrow
      rw [show (rowB (x / 2 ^ n) k).map (Value.int .i64) ++ [.int .i64 (bt (x / 2 ^ n) k)] = (rowB (x / 2 ^ n) (k + 1)).map (Value.int .i64) by rw [rowB_succ, List.map_append]; rfl] at hown'
      clear hgrow
      go_wp2
      go_roundw
      case rel => exact ⟨k + 1, by omega, by go_num, hown', hB2⟩
      case measure => simp [intOf]; omega
    · have hk : k = 256 := by omega
      subst hk
      have hl : (rowB (x / 2 ^ n) 256).length = 256 := rowB_length _ _
      have hfr := from_row W0.heap.size u5 (rowB (x / 2 ^ n) 256) (Or.inl hl) (rowB_bits _ _) wr (by rw [hl]; exact hown)
      rw [List.take_of_length_le (by omega), ofBits_m, big_m] at hfr
      unfold big at hfr
      have c9 := cb1.call hB
      go_wp2_with (go_at_call 49; with_reducible refine hfr.mono ?_; rintro e w1 ⟨rfl, hb1⟩; obtain ⟨f0, f1, f2, f3, f4, f5, f6, f7⟩ := id (c9.call hb1))
      exact bodyPost_ret (v := .agg #[.int .u64 (L0 (x / 2 ^ n)), .int .u64 (L1 (x / 2 ^ n)), .int .u64 (L2 (x / 2 ^ n)), .int .u64 (L3 (x / 2 ^ n))]) (by simp [results, Try.results19, go_sem, f0, f1, f2, f3]) rfl ⟨rfl, below_put4 (bel_call (hB0.trans (hB.mono hsz0)) hb1) (by omega) _⟩

set_option maxRecDepth 100000 in
set_option maxHeartbeats 1600000 in
theorem rdown_far (x n : Int) (hn : 256 < n) (w : World) :
    Calls Try.prog 19 #[big x, .int .i64 n] w fun e w' => e = .returned (big 0) ∧ Below w.heap.size w w' := by
  obtain ⟨i0, hi, hz0, hz1, hz2⟩ := info_parts Try.info3
  unfold big
  go_enter Try.func19, Try.ntmps19
  go_wp2
  refine wp_gen (fun W => Cells4 W (w.heap.size) x ∧ Cells4 W (w.heap.size + 1) 0 ∧ Below w.heap.size w W) ⟨(cells4_new w x).alloc _, cells4_new' (w.alloc _) _ 0 (by simp), bel_alloc (bel_alloc (Below.refl _ _) _) _⟩ ?_
  rintro W0 ⟨cb0, cb1, hB0⟩
  have hsz0 := hB0.size
  go_loopw [5, 6] (fun l i wr => ∃ k : Nat, k ≤ 256 ∧ i = .int .i64 k ∧ wr.ownsRow W0.heap.size 3 1 l k ((rowB 0 k).map (Value.int .i64)) ∧ Below W0.heap.size W0 wr) (fun _ i _ => 256 - (intOf i).toNat)
  case atStart => exact ⟨0, by omega, rfl, World.ownsRow_nil _ _ _ _, Below.refl _ _⟩
  case round =>
    obtain ⟨k, hk, rfl, hown, hB⟩ := hrel
    have hbz : bt 0 k = 0 := by simp [bt]
    by_cases hlt : k < 256
    · go_wp2_with (first
        | (at_builtin; refine wpList_append_own _ rfl _ _ 58 rfl W0.heap.size 3 i0 (.int .i64 0) 1 8 Try.underlying58 hi hz0 hz1 hz2 rfl (by decide) _ _ _ rfl (hown.alloc _) ⟨wr.heap.size, 0, none⟩ 1 1 [.int .i64 0] rfl rfl ?c1 ?c2 ?c3 ?c4 ?c5 ?_))
      try case c1 => (intro j u hj; rcases j with _ | j <;> simp at hj; subst hj; simp [Addr.add])
      case c2 => first | (intro u hu; simp at hu; subst hu; rfl) | rfl
      case c3 => unfold maxLen; omega
      case c4 => omega
      case c5 => have := hB.size; simp; omega
      intro v' w1 hown' hgrow _
      have hB2 := row_below hown hB hgrow
      rw [show (rowB 0 k).map (Value.int .i64) ++ [.int .i64 0] = (rowB 0 (k + 1)).map (Value.int .i64) by rw [rowB_succ, List.map_append]; simp [hbz]] at hown'
      clear hgrow
      go_wp2
      go_roundw
      case rel => exact ⟨k + 1, by omega, by go_num, hown', hB2⟩
      case measure => simp [intOf]; omega
    · have hk : k = 256 := by omega
      subst hk
      have hl : (rowB 0 256).length = 256 := rowB_length _ _
      have hfr := from_row W0.heap.size u5 (rowB 0 256) (Or.inl hl) (rowB_bits _ _) wr (by rw [hl]; exact hown)
      rw [List.take_of_length_le (by omega), ofBits_m, big_m] at hfr
      unfold big at hfr
      have c9 := cb1.call hB
      go_wp2_with (go_at_call 49; with_reducible refine hfr.mono ?_; rintro e w1 ⟨rfl, hb1⟩; obtain ⟨f0, f1, f2, f3, f4, f5, f6, f7⟩ := id (c9.call hb1))
      exact bodyPost_ret (v := .agg #[.int .u64 (L0 0), .int .u64 (L1 0), .int .u64 (L2 0), .int .u64 (L3 0)]) (by simp [results, Try.results19, go_sem, f0, f1, f2, f3]) rfl ⟨rfl, below_put4 (bel_call (hB0.trans (hB.mono hsz0)) hb1) (by omega) _⟩

set_option maxRecDepth 100000 in
set_option maxHeartbeats 1600000 in
theorem rdown_none (x n : Int) (hn : n ≤ 0) (w : World) :
    Calls Try.prog 19 #[big x, .int .i64 n] w fun e w' => e = .returned (big x) ∧ Below w.heap.size w w' := by
  unfold big
  go_enter Try.func19, Try.ntmps19
  go_wp2
  exact bodyPost_ret (v := .agg #[.int .u64 (L0 x), .int .u64 (L1 x), .int .u64 (L2 x), .int .u64 (L3 x)]) (by simp [results, Try.results19, go_sem]) rfl ⟨rfl, by repeat (first | exact Below.refl _ _ | refine bel_drew ?_ | refine bel_alloc ?_ _)⟩

theorem rup_c (x n : Int) (w : World) :
    Calls Try.prog 17 #[big x, .int .i64 n] w fun e w' => e = .returned (big (upv x n)) ∧ Below w.heap.size w w' := by
  by_cases h0 : n ≤ 0
  · rw [show upv x n = x from if_pos h0]
    exact rup_none x n h0 w
  have hu : upv x n = x * 2 ^ n.toNat := if_neg h0
  by_cases h1 : 256 < n
  · have hz : big (upv x n) = big 0 := by
      refine big_shift _ _ ?_
      have e : (2 : Int) ^ n.toNat = M * 2 ^ (n.toNat - 256) := by
        conv => lhs; rw [show n.toNat = 256 + (n.toNat - 256) by omega, Int.pow_add, ← M_two]
      rw [hu, e]
      unfold m
      rw [Int.mul_left_comm, Int.mul_emod_right]; rfl
    rw [hz]
    exact rup_far x n h1 w
  · obtain ⟨k, rfl⟩ := Int.eq_ofNat_of_zero_le (show 0 ≤ n by omega)
    rw [hu, Int.toNat_natCast]
    exact rup_mid x k (by omega) (by omega) w
theorem rdown_c (x n : Int) (w : World) :
    Calls Try.prog 19 #[big x, .int .i64 n] w fun e w' => e = .returned (big (downv x n)) ∧ Below w.heap.size w w' := by
  by_cases h0 : n ≤ 0
  · rw [show downv x n = x from if_pos h0]
    exact rdown_none x n h0 w
  have hu : downv x n = m x / 2 ^ n.toNat := if_neg h0
  by_cases h1 : 256 < n
  · have hz : downv x n = 0 := by
      rw [hu]
      have := pow_mono (show 256 ≤ n.toNat by omega)
      rw [← M_two] at this
      exact Int.ediv_eq_zero_of_lt (m_nn x) (by have := m_lt x; omega)
    rw [hz]
    exact rdown_far x n h1 w
  · obtain ⟨k, rfl⟩ := Int.eq_ofNat_of_zero_le (show 0 ≤ n by omega)
    rw [hu, Int.toNat_natCast, ← big_m x]
    exact rdown_mid (m x) k (m_nn x) (m_lt x) (by omega) (by omega) w
end Go.Proofs.Ytefnlmiephombaa
