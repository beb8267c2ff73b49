/- The walk of BigSums. -/
import Derived.Test.YtefnlmiephombaaTl
import Derived.Test.YtefnlmiephombaaRs
import Derived.Test.YtefnlmiephombaaRm
namespace Go.Proofs.Ytefnlmiephombaa
open Go.RowKit Go.Sort

set_option maxRecDepth 100000 in
set_option maxHeartbeats 4000000 in
theorem sums_w (x y n s d p h bx : Int) (ov ls : Bool) (w : World)
    (kadd : ∀ w, Calls Try.prog 21 #[.agg #[.int .u64 (L0 x), .int .u64 (L1 x), .int .u64 (L2 x), .int .u64 (L3 x)], .agg #[.int .u64 (L0 y), .int .u64 (L1 y), .int .u64 (L2 y), .int .u64 (L3 y)]] w fun e w' => e = .returned (.tuple #[.agg #[.int .u64 (L0 s), .int .u64 (L1 s), .int .u64 (L2 s), .int .u64 (L3 s)], .bool ov]) ∧ Below w.heap.size w w')
    (kadr : ∀ w, Calls Try.prog 25 #[.agg #[.int .u64 (L0 x), .int .u64 (L1 x), .int .u64 (L2 x), .int .u64 (L3 x)], .agg #[.int .u64 (L0 y), .int .u64 (L1 y), .int .u64 (L2 y), .int .u64 (L3 y)]] w fun e w' => e = .returned (.tuple #[.agg #[.int .u64 (L0 s), .int .u64 (L1 s), .int .u64 (L2 s), .int .u64 (L3 s)], .bool ov]) ∧ Below w.heap.size w w')
    (ksub : ∀ w, Calls Try.prog 24 #[.agg #[.int .u64 (L0 x), .int .u64 (L1 x), .int .u64 (L2 x), .int .u64 (L3 x)], .agg #[.int .u64 (L0 y), .int .u64 (L1 y), .int .u64 (L2 y), .int .u64 (L3 y)]] w fun e w' => e = .returned (.tuple #[.agg #[.int .u64 (L0 d), .int .u64 (L1 d), .int .u64 (L2 d), .int .u64 (L3 d)], .bool ls]) ∧ Below w.heap.size w w')
    (ksbr : ∀ w, Calls Try.prog 26 #[.agg #[.int .u64 (L0 x), .int .u64 (L1 x), .int .u64 (L2 x), .int .u64 (L3 x)], .agg #[.int .u64 (L0 y), .int .u64 (L1 y), .int .u64 (L2 y), .int .u64 (L3 y)]] w fun e w' => e = .returned (.tuple #[.agg #[.int .u64 (L0 d), .int .u64 (L1 d), .int .u64 (L2 d), .int .u64 (L3 d)], .bool ls]) ∧ Below w.heap.size w w')
    (kmul : ∀ w, Calls Try.prog 27 #[.agg #[.int .u64 (L0 x), .int .u64 (L1 x), .int .u64 (L2 x), .int .u64 (L3 x)], .int .u64 n] w fun e w' => e = .returned (.tuple #[.agg #[.int .u64 (L0 p), .int .u64 (L1 p), .int .u64 (L2 p), .int .u64 (L3 p)], .int .u64 h]) ∧ Below w.heap.size w w')
    (kmur : ∀ w, Calls Try.prog 28 #[.agg #[.int .u64 (L0 x), .int .u64 (L1 x), .int .u64 (L2 x), .int .u64 (L3 x)], .int .u64 n] w fun e w' => e = .returned (.tuple #[.agg #[.int .u64 (L0 p), .int .u64 (L1 p), .int .u64 (L2 p), .int .u64 (L3 p)], .int .u64 h]) ∧ Below w.heap.size w w')
    (kles : ∀ w, Calls Try.prog 29 #[.agg #[.int .u64 (L0 x), .int .u64 (L1 x), .int .u64 (L2 x), .int .u64 (L3 x)], .agg #[.int .u64 (L0 y), .int .u64 (L1 y), .int .u64 (L2 y), .int .u64 (L3 y)]] w fun e w' => e = .returned (.bool ls) ∧ Below w.heap.size w w')
    (kler : ∀ w, Calls Try.prog 30 #[.agg #[.int .u64 (L0 x), .int .u64 (L1 x), .int .u64 (L2 x), .int .u64 (L3 x)], .agg #[.int .u64 (L0 y), .int .u64 (L1 y), .int .u64 (L2 y), .int .u64 (L3 y)]] w fun e w' => e = .returned (.bool ls) ∧ Below w.heap.size w w')
    (kbit : ∀ w, Calls Try.prog 22 #[.agg #[.int .u64 (L0 x), .int .u64 (L1 x), .int .u64 (L2 x), .int .u64 (L3 x)]] w fun e w' => e = .returned (.int .i64 bx) ∧ Below w.heap.size w w')
    (kbir : ∀ w, Calls Try.prog 31 #[.agg #[.int .u64 (L0 x), .int .u64 (L1 x), .int .u64 (L2 x), .int .u64 (L3 x)]] w fun e w' => e = .returned (.int .i64 bx) ∧ Below w.heap.size w w')
    (kof : ∀ w, Calls Try.prog 23 #[.int .u64 n] w fun e w' => e = .returned (.agg #[.int .u64 (L0 n), .int .u64 (L1 n), .int .u64 (L2 n), .int .u64 (L3 n)]) ∧ Below w.heap.size w w')
    (kofr : ∀ w, Calls Try.prog 32 #[.int .u64 n] w fun e w' => e = .returned (.agg #[.int .u64 (L0 n), .int .u64 (L1 n), .int .u64 (L2 n), .int .u64 (L3 n)]) ∧ Below w.heap.size w w')
    : Calls Try.prog 5 #[big x, big y, .int .u64 n] w fun e w' => e = .returned (.bool true) ∧ Below w.heap.size w w' := by
  have n0 : ∀ w, (binOp .neq 24 (.agg #[.int .u64 (L0 s), .int .u64 (L1 s), .int .u64 (L2 s), .int .u64 (L3 s)]) (.agg #[.int .u64 (L0 s), .int .u64 (L1 s), .int .u64 (L2 s), .int .u64 (L3 s)])).run Try.prog w = .ok (.bool false) w := fun w => by
    have := neq_run s s w
    rwa [show (!(m s == m s)) = false by simp] at this
  have n1 : ∀ w, (binOp .neq 24 (.agg #[.int .u64 (L0 d), .int .u64 (L1 d), .int .u64 (L2 d), .int .u64 (L3 d)]) (.agg #[.int .u64 (L0 d), .int .u64 (L1 d), .int .u64 (L2 d), .int .u64 (L3 d)])).run Try.prog w = .ok (.bool false) w := fun w => by
    have := neq_run d d w
    rwa [show (!(m d == m d)) = false by simp] at this
  have n2 : ∀ w, (binOp .neq 24 (.agg #[.int .u64 (L0 p), .int .u64 (L1 p), .int .u64 (L2 p), .int .u64 (L3 p)]) (.agg #[.int .u64 (L0 p), .int .u64 (L1 p), .int .u64 (L2 p), .int .u64 (L3 p)])).run Try.prog w = .ok (.bool false) w := fun w => by
    have := neq_run p p w
    rwa [show (!(m p == m p)) = false by simp] at this
  have n3 : ∀ w, (binOp .eql 24 (.agg #[.int .u64 (L0 n), .int .u64 (L1 n), .int .u64 (L2 n), .int .u64 (L3 n)]) (.agg #[.int .u64 (L0 n), .int .u64 (L1 n), .int .u64 (L2 n), .int .u64 (L3 n)])).run Try.prog w = .ok (.bool true) w := fun w => by
    have := eq_run n n w
    rwa [show (m n == m n) = true by simp] at this
  unfold big
  go_enter Try.func5, Try.ntmps5
  go_upto_region 1 with (fail)
  refine wp_gen (fun W => Cells4 W (w.heap.size) x ∧ Cells4 W (w.heap.size + 1) y ∧ Below w.heap.size w W) ⟨(cells4_new w x).alloc _, cells4_new' (w.alloc _) _ y (by simp), bel_alloc (bel_alloc (Below.refl _ _) _) _⟩ ?_
  rintro W ⟨c0, c1, hB⟩
  obtain ⟨x00, x01, x02, x03, -, -, -, -⟩ := id c0
  obtain ⟨x10, x11, x12, x13, -, -, -, -⟩ := id c1
  go_upto_region 2 with (first | (go_at_call 21; with_reducible refine (kadd _).mono ?_; rintro e w1 ⟨rfl, hb1⟩))
  have l0 := c0.lt
  have l1 := c1.lt
  refine wp_gen (fun W => Cells4 W (w.heap.size) x ∧ Cells4 W (w.heap.size + 1) y ∧ Cells4 W (w1.heap.size) s ∧ Below w.heap.size w W) ⟨((c0.below hb1 l0).alloc _), ((c1.below hb1 l1).alloc _), cells4_new _ _, bel_alloc (bel_call (hB) hb1) _⟩ ?_
  clear hb1 l0 l1 c0 c1 hB x00 x01 x02 x03 x10 x11 x12 x13
  generalize w1.heap.size = b1
  clear w1 W
  rintro W ⟨c0, c1, c2, hB⟩
  obtain ⟨x00, x01, x02, x03, -, -, -, -⟩ := id c0
  obtain ⟨x10, x11, x12, x13, -, -, -, -⟩ := id c1
  go_upto_region 3 with (first | (go_at_call 25; with_reducible refine (kadr _).mono ?_; rintro e w1 ⟨rfl, hb1⟩))
  have l0 := c0.lt
  have l1 := c1.lt
  have l2 := c2.lt
  refine wp_gen (fun W => Cells4 W (w.heap.size) x ∧ Cells4 W (w.heap.size + 1) y ∧ Cells4 W b1 s ∧ Cells4 W (w1.heap.size) s ∧ Below w.heap.size w W) ⟨((c0.below hb1 l0).alloc _), ((c1.below hb1 l1).alloc _), ((c2.below hb1 l2).alloc _), cells4_new _ _, bel_alloc (bel_call (hB) hb1) _⟩ ?_
  clear hb1 l0 l1 l2 c0 c1 c2 hB x00 x01 x02 x03 x10 x11 x12 x13
  generalize w1.heap.size = b2
  clear w1 W
  rintro W ⟨c0, c1, c2, c3, hB⟩
  obtain ⟨x00, x01, x02, x03, -, -, -, -⟩ := id c0
  obtain ⟨x10, x11, x12, x13, -, -, -, -⟩ := id c1
  go_upto_region 4 with (first | (go_at_call 24; with_reducible refine (ksub _).mono ?_; rintro e w1 ⟨rfl, hb1⟩))
  have l0 := c0.lt
  have l1 := c1.lt
  have l2 := c2.lt
  have l3 := c3.lt
  refine wp_gen (fun W => Cells4 W (w.heap.size) x ∧ Cells4 W (w.heap.size + 1) y ∧ Cells4 W b1 s ∧ Cells4 W b2 s ∧ Cells4 W (w1.heap.size) d ∧ Below w.heap.size w W) ⟨((c0.below hb1 l0).alloc _), ((c1.below hb1 l1).alloc _), ((c2.below hb1 l2).alloc _), ((c3.below hb1 l3).alloc _), cells4_new _ _, bel_alloc (bel_call (hB) hb1) _⟩ ?_
  clear hb1 l0 l1 l2 l3 c0 c1 c2 c3 hB x00 x01 x02 x03 x10 x11 x12 x13
  generalize w1.heap.size = b3
  clear w1 W
  rintro W ⟨c0, c1, c2, c3, c4, hB⟩
  obtain ⟨x00, x01, x02, x03, -, -, -, -⟩ := id c0
  obtain ⟨x10, x11, x12, x13, -, -, -, -⟩ := id c1
  go_upto_region 5 with (first | (go_at_call 26; with_reducible refine (ksbr _).mono ?_; rintro e w1 ⟨rfl, hb1⟩))
  have l0 := c0.lt
  have l1 := c1.lt
  have l2 := c2.lt
  have l3 := c3.lt
  have l4 := c4.lt
  refine wp_gen (fun W => Cells4 W (w.heap.size) x ∧ Cells4 W (w.heap.size + 1) y ∧ Cells4 W b1 s ∧ Cells4 W b2 s ∧ Cells4 W b3 d ∧ Cells4 W (w1.heap.size) d ∧ Below w.heap.size w W) ⟨((c0.below hb1 l0).alloc _), ((c1.below hb1 l1).alloc _), ((c2.below hb1 l2).alloc _), ((c3.below hb1 l3).alloc _), ((c4.below hb1 l4).alloc _), cells4_new _ _, bel_alloc (bel_call (hB) hb1) _⟩ ?_
  clear hb1 l0 l1 l2 l3 l4 c0 c1 c2 c3 c4 hB x00 x01 x02 x03 x10 x11 x12 x13
  generalize w1.heap.size = b4
  clear w1 W
  rintro W ⟨c0, c1, c2, c3, c4, c5, hB⟩
  obtain ⟨x00, x01, x02, x03, -, -, -, -⟩ := id c0
  go_upto_region 6 with (first | (go_at_call 27; with_reducible refine (kmul _).mono ?_; rintro e w1 ⟨rfl, hb1⟩))
  have l0 := c0.lt
  have l1 := c1.lt
  have l2 := c2.lt
  have l3 := c3.lt
  have l4 := c4.lt
  have l5 := c5.lt
  refine wp_gen (fun W => Cells4 W (w.heap.size) x ∧ Cells4 W (w.heap.size + 1) y ∧ Cells4 W b1 s ∧ Cells4 W b2 s ∧ Cells4 W b3 d ∧ Cells4 W b4 d ∧ Cells4 W (w1.heap.size) p ∧ Below w.heap.size w W) ⟨((c0.below hb1 l0).alloc _), ((c1.below hb1 l1).alloc _), ((c2.below hb1 l2).alloc _), ((c3.below hb1 l3).alloc _), ((c4.below hb1 l4).alloc _), ((c5.below hb1 l5).alloc _), cells4_new _ _, bel_alloc (bel_call (hB) hb1) _⟩ ?_
  clear hb1 l0 l1 l2 l3 l4 l5 c0 c1 c2 c3 c4 c5 hB x00 x01 x02 x03
  generalize w1.heap.size = b5
  clear w1 W
  rintro W ⟨c0, c1, c2, c3, c4, c5, c6, hB⟩
  obtain ⟨x00, x01, x02, x03, -, -, -, -⟩ := id c0
  go_upto_region 7 with (first | (go_at_call 28; with_reducible refine (kmur _).mono ?_; rintro e w1 ⟨rfl, hb1⟩))
  have l0 := c0.lt
  have l1 := c1.lt
  have l2 := c2.lt
  have l3 := c3.lt
  have l4 := c4.lt
  have l5 := c5.lt
  have l6 := c6.lt
  refine wp_gen (fun W => Cells4 W (w.heap.size) x ∧ Cells4 W (w.heap.size + 1) y ∧ Cells4 W b1 s ∧ Cells4 W b2 s ∧ Cells4 W b3 d ∧ Cells4 W b4 d ∧ Cells4 W b5 p ∧ Cells4 W (w1.heap.size) p ∧ Below w.heap.size w W) ⟨((c0.below hb1 l0).alloc _), ((c1.below hb1 l1).alloc _), ((c2.below hb1 l2).alloc _), ((c3.below hb1 l3).alloc _), ((c4.below hb1 l4).alloc _), ((c5.below hb1 l5).alloc _), ((c6.below hb1 l6).alloc _), cells4_new _ _, bel_alloc (bel_call (hB) hb1) _⟩ ?_
  clear hb1 l0 l1 l2 l3 l4 l5 l6 c0 c1 c2 c3 c4 c5 c6 hB x00 x01 x02 x03
  generalize w1.heap.size = b6
  clear w1 W
  rintro W ⟨c0, c1, c2, c3, c4, c5, c6, c7, hB⟩
  obtain ⟨x20, x21, x22, x23, -, -, -, -⟩ := id c2
  obtain ⟨x30, x31, x32, x33, -, -, -, -⟩ := id c3
  obtain ⟨x40, x41, x42, x43, -, -, -, -⟩ := id c4
  obtain ⟨x50, x51, x52, x53, -, -, -, -⟩ := id c5
  obtain ⟨x60, x61, x62, x63, -, -, -, -⟩ := id c6
  obtain ⟨x70, x71, x72, x73, -, -, -, -⟩ := id c7
  go_upto_region 9 with (first | fail)
  have l0 := c0.lt
  have l1 := c1.lt
  have l2 := c2.lt
  have l3 := c3.lt
  have l4 := c4.lt
  have l5 := c5.lt
  have l6 := c6.lt
  have l7 := c7.lt
  refine wp_gen (fun W => Cells4 W (w.heap.size) x ∧ Cells4 W (w.heap.size + 1) y ∧ Cells4 W b1 s ∧ Cells4 W b2 s ∧ Cells4 W b3 d ∧ Cells4 W b4 d ∧ Cells4 W b5 p ∧ Cells4 W b6 p ∧ Below w.heap.size w W) ⟨c0, c1, c2, c3, c4, c5, c6, c7, hB⟩ ?_
  clear l0 l1 l2 l3 l4 l5 l6 l7 c0 c1 c2 c3 c4 c5 c6 c7 hB x20 x21 x22 x23 x30 x31 x32 x33 x40 x41 x42 x43 x50 x51 x52 x53 x60 x61 x62 x63 x70 x71 x72 x73
  clear W
  rintro W ⟨c0, c1, c2, c3, c4, c5, c6, c7, hB⟩
  clear c2 c3 c4 c5 c6 c7
  have k00 := fun d os => (c0.regrown d os).c0
  have k01 := fun d os => (c0.regrown d os).c1
  have k02 := fun d os => (c0.regrown d os).c2
  have k03 := fun d os => (c0.regrown d os).c3
  have k10 := fun d os => (c1.regrown d os).c0
  have k11 := fun d os => (c1.regrown d os).c1
  have k12 := fun d os => (c1.regrown d os).c2
  have k13 := fun d os => (c1.regrown d os).c3
  have q0 := quiet_call W kles
  have q1 := quiet_call W kler
  have q2 := quiet_call W kbit
  have q3 := quiet_call W kbir
  have q4 := quiet_call W kof
  have q5 := quiet_call W kofr
  have q6 := quiet_call W works_c
  refine wp_region_quiet_below (by kernel_rfl) (by kernel_rfl) ?_
  repeat (go_big_quiet_step ((first | with_reducible exact q0 _ _ | with_reducible exact q1 _ _ | with_reducible exact q2 _ _ | with_reducible exact q3 _ _ | with_reducible exact q4 _ _ | with_reducible exact q5 _ _ | with_reducible exact q6 _ _)))
  refine wpQuiet_nil ?_
  intro W1 hw'
  have hB1 : Below w.heap.size w W1 := by obtain ⟨p, rfl⟩ := hw'; exact hB.trans ((below_regrown W _ _).mono hB.size)
  clear hw'
  go_wp2
  go_ret
  exact ⟨rfl, hB1⟩

theorem bigSums.walk (x y n : Int) (hx : 0 ≤ x) (hx' : x < M) (hy : 0 ≤ y) (hy' : y < M) (hn : 0 ≤ n) (hn' : n ≤ 18446744073709551615) (w : World) :
    Calls Try.prog 5 #[big x, big y, .int .u64 n] w fun e w' => e = .returned (.bool true) ∧ Below w.heap.size w w' :=
  have _ := hx; have _ := hx'; have _ := hy; have _ := hy'
  sums_w x y n (x + y) (x - y) (x * n) (m x * n / M) (bl (m x)) (decide (M ≤ m x + m y)) (decide (m x < m y)) w (add_c x y) (radd_c x y) (sub_c x y) (rsub_c x y) (mul_c x n hn hn') (rmul_c x n hn hn') (less_c x y) (rless_c x y) (bits_c x) (rbits_c x) (of_c n hn hn') (rof_c n hn hn')
end Go.Proofs.Ytefnlmiephombaa
