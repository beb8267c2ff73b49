/- The contracts of scantlingref02.Sub, Of, Bits, Less. -/
import Derived.Test.YtefnlmiephombaaRp
namespace Go.Proofs.Ytefnlmiephombaa
open Go.RowKit Go.Sort

set_option maxRecDepth 100000 in
set_option maxHeartbeats 1600000 in
theorem rsub_c (x y : Int) (w : World) :
    Calls Try.prog 26 #[big x, big y] w fun e w' => e = .returned (.tuple #[big (x - y), .bool (decide (m x < m y))]) ∧ Below w.heap.size w w' := by
  obtain ⟨i0, hi, hz0, hz1, hz2⟩ := info_parts Try.info3
  rw [← br_end]
  unfold big
  go_enter Try.func26, Try.ntmps26
  go_wp2
  refine wp_gen (fun W => Cells4 W (w.heap.size) x ∧ Cells4 W (w.heap.size + 1) y ∧ Cells4 W (w.heap.size + 1 + 1) 0 ∧ Below w.heap.size w W) ⟨((cells4_new w x).alloc _).alloc _, (cells4_new' (w.alloc _) _ y (by simp)).alloc _, cells4_new' ((w.alloc _).alloc _) _ 0 (by simp), bel_alloc (bel_alloc (bel_alloc (Below.refl _ _) _) _) _⟩ ?_
  rintro W0 ⟨cb0, cb1, cb2, hB0⟩
  have hsz0 := hB0.size
  go_loopw [6, 7, 8] (fun l mo i wr => ∃ k : Nat, k ≤ 256 ∧ i = .int .i64 k ∧ mo = .int .i64 (br x y k) ∧ wr.ownsRow W0.heap.size 3 1 l k ((rowB (x - y) k).map (Value.int .i64)) ∧ Below W0.heap.size W0 wr) (fun _ _ i _ => 256 - (intOf i).toNat)
  case atStart => exact ⟨0, by omega, rfl, by simp [br], World.ownsRow_nil _ _ _ _, Below.refl _ _⟩
  case round =>
    obtain ⟨k, hk, rfl, rfl, hown, hB⟩ := hrel
    by_cases hlt : k < 256
    · have ax := bt_bd x k
      have ay := bt_bd y k
      have ac := br_bd x y k
      obtain ⟨s1, s2⟩ := br_step x y k
      have c1 := cb0.call hB
      have k10 := fun d os => (c1.regrown d os).c0
      have k11 := fun d os => (c1.regrown d os).c1
      have k12 := fun d os => (c1.regrown d os).c2
      have k13 := fun d os => (c1.regrown d os).c3
      have c2 := cb1.call hB
      have k20 := fun d os => (c2.regrown d os).c0
      have k21 := fun d os => (c2.regrown d os).c1
      have k22 := fun d os => (c2.regrown d os).c2
      have k23 := fun d os => (c2.regrown d os).c3
      have kx : ∀ w, Calls Try.prog 48 #[.agg #[.int .u64 (L0 x), .int .u64 (L1 x), .int .u64 (L2 x), .int .u64 (L3 x)], .int .i64 k] w fun e w' => e = .returned (.int .i64 (bt x k)) ∧ Below w.heap.size w w' := fun w => by
        have := bit_c x k w
        rwa [bitv_nat x k hlt] at this
      have ky : ∀ w, Calls Try.prog 48 #[.agg #[.int .u64 (L0 y), .int .u64 (L1 y), .int .u64 (L2 y), .int .u64 (L3 y)], .int .i64 k] w fun e w' => e = .returned (.int .i64 (bt y k)) ∧ Below w.heap.size w w' := fun w => by
        have := bit_c y k w
        rwa [bitv_nat y k hlt] at this
      have w1 : IntKind.i64.wrap (bt x k - bt y k) = bt x k - bt y k := by rw [IntKind.wrap_i64]; omega
      have w2 : IntKind.i64.wrap (bt x k - bt y k - br x y k) = bt x k - bt y k - br x y k := by rw [IntKind.wrap_i64]; omega
      have w3 : IntKind.i64.wrap (bt x k - bt y k - br x y k + 2) = bt x k - bt y k - br x y k + 2 := by rw [IntKind.wrap_i64]; omega
      have S1 := Lib.hid s1
      have S2 := Lib.hid s2
      clear s1 s2
      have q0 := quiet_call wr kx
      have q1 := quiet_call wr ky
      go_upto_region 6 with (fail)
      refine wp_region_quiet_below (by kernel_rfl) (by kernel_rfl) ?_
      repeat (go_big_quiet_step ((first | with_reducible exact q0 _ _ | with_reducible exact q1 _ _)))
      refine wpQuiet_nil ?_
      intro W1 hw'
      have hown1 : W1.ownsRow W0.heap.size 3 1 u6 k ((rowB (x - y) k).map (Value.int .i64)) := by obtain ⟨p, rfl⟩ := hw'; exact ownsRow_below hown (below_regrown _ _ _)
      have hB1 : Below W0.heap.size W0 W1 := by obtain ⟨p, rfl⟩ := hw'; exact bel_call hB (below_regrown wr _ _)
      clear hw' q0 q1 k10 k11 k12 k13 k20 k21 k22 k23 kx ky c1 c2 hB hown
      clear wr
      by_cases hneg : bt x k - bt y k - br x y k < 0
      · obtain ⟨s1, s2⟩ := S1.out hneg
        go_wp2_with (first
          | (at_builtin; refine wpList_append_own _ rfl _ _ 58 rfl W0.heap.size 3 i0 (.int .i64 0) 1 8 Try.underlying58 hi hz0 hz1 hz2 rfl (by decide) _ _ _ rfl (hown1.alloc _) ⟨W1.heap.size, 0, none⟩ 1 1 [.int .i64 (bt (x - y) k)] rfl rfl ?c1 ?c2 ?c3 ?c4 ?c5 ?_))
        try case c1 => (intro j u hj; rcases j with _ | j <;> simp at hj; subst hj; simp [Addr.add])
        case c2 => first | (intro u hu; simp at hu; subst hu; rfl) | rfl
        case c3 => unfold maxLen; omega
        case c4 => omega
        case c5 => have := hB1.size; simp; omega
        intro v' w1 hown' hgrow _
        have hB2 := row_below hown1 hB1 hgrow
        rw [show (rowB (x - y) k).map (Value.int .i64) ++ [.int .i64 (bt (x - y) k)] = (rowB (x - y) (k + 1)).map (Value.int .i64) by rw [rowB_succ, List.map_append]; rfl] at hown'
        clear hgrow hown1 hB1
        go_wp2
        go_roundw
        case rel => exact ⟨k + 1, by omega, by go_num, by rw [s2], hown', hB2⟩
        case measure => simp [intOf]; omega
      · obtain ⟨s1, s2⟩ := S2.out (by omega)
        go_wp2_with (first
          | (at_builtin; refine wpList_append_own _ rfl _ _ 58 rfl W0.heap.size 3 i0 (.int .i64 0) 1 8 Try.underlying58 hi hz0 hz1 hz2 rfl (by decide) _ _ _ rfl (hown1.alloc _) ⟨W1.heap.size, 0, none⟩ 1 1 [.int .i64 (bt (x - y) k)] rfl rfl ?c1 ?c2 ?c3 ?c4 ?c5 ?_))
        try case c1 => (intro j u hj; rcases j with _ | j <;> simp at hj; subst hj; simp [Addr.add])
        case c2 => first | (intro u hu; simp at hu; subst hu; rfl) | rfl
        case c3 => unfold maxLen; omega
        case c4 => omega
        case c5 => have := hB1.size; simp; omega
        intro v' w1 hown' hgrow _
        have hB2 := row_below hown1 hB1 hgrow
        rw [show (rowB (x - y) k).map (Value.int .i64) ++ [.int .i64 (bt (x - y) k)] = (rowB (x - y) (k + 1)).map (Value.int .i64) by rw [rowB_succ, List.map_append]; rfl] at hown'
        clear hgrow hown1 hB1
        go_wp2
        go_roundw
        case rel => exact ⟨k + 1, by omega, by go_num, by rw [s2], hown', hB2⟩
        case measure => simp [intOf]; omega
    · have hk : k = 256 := by omega
      subst hk
      have hl : (rowB (x - y) 256).length = 256 := rowB_length _ _
      have hfr := from_row W0.heap.size u6 (rowB (x - y) 256) (Or.inl hl) (rowB_bits _ _) wr (by rw [hl]; exact hown)
      rw [List.take_of_length_le (by omega), ofBits_m, big_m] at hfr
      unfold big at hfr
      have c9 := cb2.call hB
      go_wp2_with (go_at_call 49; with_reducible refine hfr.mono ?_; rintro e w1 ⟨rfl, hb1⟩; obtain ⟨f0, f1, f2, f3, f4, f5, f6, f7⟩ := id (c9.call hb1))
      exact bodyPost_ret (v := .tuple #[.agg #[.int .u64 (L0 (x - y)), .int .u64 (L1 (x - y)), .int .u64 (L2 (x - y)), .int .u64 (L3 (x - y))], .bool (br x y 256 == 1)]) (by simp [results, Try.results26, go_sem, f0, f1, f2, f3]) rfl ⟨rfl, below_put4 (bel_call (hB0.trans (hB.mono hsz0)) hb1) (by omega) _⟩
theorem rof_c (n : Int) (hn : 0 ≤ n) (hn' : n ≤ 18446744073709551615) (w : World) :
    Calls Try.prog 32 #[.int .u64 n] w fun e w' => e = .returned (big n) ∧ Below w.heap.size w w' := by
  have hb : big n = .agg #[.int .u64 n, .int .u64 0, .int .u64 0, .int .u64 0] := by
    obtain ⟨h0, h1, h2, h3⟩ := limbs_of n 0 0 0 hn hn' (by omega) (by omega) (by omega) (by omega) (by omega) (by omega)
    have e : n + 18446744073709551616 * (0 + 18446744073709551616 * (0 + 18446744073709551616 * 0)) = n := by omega
    rw [e] at h0 h1 h2 h3
    exact big_lit n n 0 0 0 h0 h1 h2 h3
  rw [hb]
  go_enter Try.func32, Try.ntmps32
  go_wp2
  exact bodyPost_ret (v := .agg #[.int .u64 n, .int .u64 0, .int .u64 0, .int .u64 0]) (by simp [results, Try.results32, go_sem]) rfl ⟨rfl, by repeat (first | exact Below.refl _ _ | refine bel_drew ?_ | refine bel_alloc ?_ _)⟩

set_option maxRecDepth 100000 in
set_option maxHeartbeats 1600000 in
theorem rbits_c (x : Int) (w : World) :
    Calls Try.prog 31 #[big x] w fun e w' => e = .returned (.int .i64 (bl (m x))) ∧ Below w.heap.size w w' := by
  rw [show m x = x % 2 ^ 256 by rw [← M_two]; rfl]
  unfold big
  go_enter Try.func31, Try.ntmps31
  go_wp2
  refine wp_gen (fun W => Cells4 W (w.heap.size) x ∧ Below w.heap.size w W) ⟨cells4_new w x, bel_alloc (Below.refl _ _) _⟩ ?_
  rintro W0 ⟨cb0, hB0⟩
  have hsz0 := hB0.size
  go_loopw [3, 4] (fun n i wr => ∃ k : Nat, k ≤ 256 ∧ i = .int .i64 k ∧ n = .int .i64 (bl (x % 2 ^ k)) ∧ Below W0.heap.size W0 wr) (fun _ i _ => 256 - (intOf i).toNat)
  case atStart => exact ⟨0, by omega, rfl, by simp [bl_zero], Below.refl _ _⟩
  case round =>
    obtain ⟨k, hk, rfl, rfl, hB⟩ := hrel
    by_cases hlt : k < 256
    · have hst := bl_bit x k
      obtain ⟨x0, x1, x2, x3, -, -, -, -⟩ := id (cb0.call hB)
      have kx : ∀ w, Calls Try.prog 48 #[.agg #[.int .u64 (L0 x), .int .u64 (L1 x), .int .u64 (L2 x), .int .u64 (L3 x)], .int .i64 k] w fun e w' => e = .returned (.int .i64 (bt x k)) ∧ Below w.heap.size w w' := fun w => by
        have := bit_c x k w
        rwa [bitv_nat x k hlt] at this
      have w1 : IntKind.i64.wrap ((k : Int) + 1) = (k : Int) + 1 := by rw [IntKind.wrap_i64]; omega
      by_cases h1 : bt x k = 1
      · rw [if_pos h1] at hst
        rw [h1] at kx
        have HS := Lib.hid hst
        clear hst h1
        go_wp2_with (go_at_call 48; with_reducible refine (kx _).mono ?_; rintro e w1 ⟨rfl, hb1⟩)
        go_roundw
        case rel => exact ⟨k + 1, by omega, by go_num, by rw [HS.out], bel_call hB hb1⟩
        case measure => simp [intOf]; omega
      · rw [if_neg h1] at hst
        have h0 : bt x k = 0 := by have := bt_bd x k; omega
        rw [h0] at kx
        have HS := Lib.hid hst
        clear hst h1 h0
        go_wp2_with (go_at_call 48; with_reducible refine (kx _).mono ?_; rintro e w1 ⟨rfl, hb1⟩)
        go_roundw
        case rel => exact ⟨k + 1, by omega, by go_num, by rw [HS.out], bel_call hB hb1⟩
        case measure => simp [intOf]; omega
    · have hk : k = 256 := by omega
      subst hk
      go_wp2
      go_ret
      exact ⟨rfl, hB0.trans (hB.mono hsz0)⟩

set_option maxRecDepth 100000 in
set_option maxHeartbeats 1600000 in
theorem rless_t (x y : Int) (hx : 0 ≤ x) (hx' : x < M) (hy : 0 ≤ y) (hy' : y < M) (w : World) :
    Calls Try.prog 30 #[big x, big y] w fun e w' => e = .returned (.bool (decide (x < y))) ∧ Below w.heap.size w w' := by
  have hst : x / 2 ^ 256 = y / 2 ^ 256 := by rw [← M_two, Int.ediv_eq_zero_of_lt hx hx', Int.ediv_eq_zero_of_lt hy hy']
  have HX := Lib.hid hx; have HX' := Lib.hid hx'; have HY := Lib.hid hy; have HY' := Lib.hid hy'
  clear hx hx' hy hy'
  unfold big
  go_enter Try.func30, Try.ntmps30
  go_wp2
  refine wp_gen (fun W => Cells4 W (w.heap.size) x ∧ Cells4 W (w.heap.size + 1) y ∧ Below w.heap.size w W) ⟨(cells4_new w x).alloc _, cells4_new' (w.alloc _) _ y (by simp), bel_alloc (bel_alloc (Below.refl _ _) _) _⟩ ?_
  rintro W0 ⟨cb0, cb1, hB0⟩
  have hsz0 := hB0.size
  go_loopw [5] (fun i wr => ∃ k : Nat, k ≤ 256 ∧ i = .int .i64 ((k : Int) - 1) ∧ Hid (x / 2 ^ k = y / 2 ^ k) ∧ Below W0.heap.size W0 wr) (fun i _ => (intOf i + 1).toNat)
  case atStart => exact ⟨256, by omega, rfl, Lib.hid hst, Below.refl _ _⟩
  case round =>
    clear hst
    obtain ⟨k, hk, rfl, HD, hB⟩ := hrel
    rcases k with _ | j
    · have hxy : decide (x < y) = false := by
        have := HD.out
        simp only [Int.pow_zero, Int.ediv_one] at this
        simp; omega
      go_wp2
      go_ret
      rw [hxy]
      exact ⟨rfl, hB0.trans (hB.mono hsz0)⟩
    · have hlt : j < 256 := by omega
      have e1 : (((j + 1 : Nat) : Int) - 1) = j := by omega
      rw [e1]
      obtain ⟨s1, s2⟩ := cmp_bit x y j HD.out
      have ax := bt_bd x j
      have ay := bt_bd y j
      have c1 := cb0.call hB
      have k10 := fun d os => (c1.regrown d os).c0
      have k11 := fun d os => (c1.regrown d os).c1
      have k12 := fun d os => (c1.regrown d os).c2
      have k13 := fun d os => (c1.regrown d os).c3
      have c2 := cb1.call hB
      have k20 := fun d os => (c2.regrown d os).c0
      have k21 := fun d os => (c2.regrown d os).c1
      have k22 := fun d os => (c2.regrown d os).c2
      have k23 := fun d os => (c2.regrown d os).c3
      have kx : ∀ w, Calls Try.prog 48 #[.agg #[.int .u64 (L0 x), .int .u64 (L1 x), .int .u64 (L2 x), .int .u64 (L3 x)], .int .i64 j] w fun e w' => e = .returned (.int .i64 (bt x j)) ∧ Below w.heap.size w w' := fun w => by
        have := bit_c x j w
        rwa [bitv_nat x j hlt] at this
      have ky : ∀ w, Calls Try.prog 48 #[.agg #[.int .u64 (L0 y), .int .u64 (L1 y), .int .u64 (L2 y), .int .u64 (L3 y)], .int .i64 j] w fun e w' => e = .returned (.int .i64 (bt y j)) ∧ Below w.heap.size w w' := fun w => by
        have := bit_c y j w
        rwa [bitv_nat y j hlt] at this
      have S1 := Lib.hid s1
      have S2 := Lib.hid s2
      clear s1 s2
      by_cases heq : bt x j = bt y j
      · have hbe : (bt x j != bt y j) = false := by simp [heq]
        have s1 := Lib.hid (S1.out heq)
        have w1 : IntKind.i64.wrap ((j : Int) - 1) = (j : Int) - 1 := by rw [IntKind.wrap_i64]; omega
        clear heq
        have q0 := quiet_call wr kx
        have q1 := quiet_call wr ky
        go_upto_region 4 with (fail)
        refine wp_region_quiet_below (by kernel_rfl) (by kernel_rfl) ?_
        repeat (go_big_quiet_step ((first | with_reducible exact q0 _ _ | with_reducible exact q1 _ _)))
        refine wpQuiet_nil ?_
        intro W1 hw'
        have hB1 : Below W0.heap.size W0 W1 := by obtain ⟨p, rfl⟩ := hw'; exact bel_call hB (below_regrown wr _ _)
        clear hw' q0 q1 k10 k11 k12 k13 k20 k21 k22 k23 kx ky c1 c2 hB
        clear wr
        go_wp2
        go_roundw
        case rel => exact ⟨j, by omega, rfl, s1, hB1⟩
        case measure => simp [intOf]
      · have hbe : (bt x j != bt y j) = true := by simp [heq]
        have s2 := S2.out heq
        clear heq
        have q0 := quiet_call wr kx
        have q1 := quiet_call wr ky
        go_upto_region 4 with (fail)
        refine wp_region_quiet_below (by kernel_rfl) (by kernel_rfl) ?_
        repeat (go_big_quiet_step ((first | with_reducible exact q0 _ _ | with_reducible exact q1 _ _)))
        refine wpQuiet_nil ?_
        intro W1 hw'
        have hB1 : Below W0.heap.size W0 W1 := by obtain ⟨p, rfl⟩ := hw'; exact bel_call hB (below_regrown wr _ _)
        have d1 : Cells4 W1 w.heap.size x := by obtain ⟨p, rfl⟩ := hw'; exact c1.regrown _ _
        have d2 : Cells4 W1 (w.heap.size + 1) y := by obtain ⟨p, rfl⟩ := hw'; exact c2.regrown _ _
        clear hw' q0 q1 c1 c2 hB k10 k11 k12 k13 k20 k21 k22 k23
        clear wr
        have k10 := fun d os => (d1.regrown d os).c0
        have k11 := fun d os => (d1.regrown d os).c1
        have k12 := fun d os => (d1.regrown d os).c2
        have k13 := fun d os => (d1.regrown d os).c3
        have k20 := fun d os => (d2.regrown d os).c0
        have k21 := fun d os => (d2.regrown d os).c1
        have k22 := fun d os => (d2.regrown d os).c2
        have k23 := fun d os => (d2.regrown d os).c3
        have q0 := quiet_call W1 kx
        have q1 := quiet_call W1 ky
        go_upto_region 5 with (fail)
        refine wp_region_quiet_below (by kernel_rfl) (by kernel_rfl) ?_
        repeat (go_big_quiet_step ((first | with_reducible exact q0 _ _ | with_reducible exact q1 _ _)))
        refine wpQuiet_nil ?_
        intro W2 hw'
        have hB2 : Below W0.heap.size W0 W2 := by obtain ⟨p, rfl⟩ := hw'; exact bel_call hB1 (below_regrown W1 _ _)
        clear hw'
        go_wp2
        go_ret
        exact ⟨by first | rfl | (rw [s2]), hB0.trans (hB2.mono hsz0)⟩
theorem rless_c (x y : Int) (w : World) :
    Calls Try.prog 30 #[big x, big y] w fun e w' => e = .returned (.bool (decide (m x < m y))) ∧ Below w.heap.size w w' := by
  have := rless_t (m x) (m y) (m_nn x) (m_lt x) (m_nn y) (m_lt y) w
  rwa [big_m, big_m] at this
end Go.Proofs.Ytefnlmiephombaa
