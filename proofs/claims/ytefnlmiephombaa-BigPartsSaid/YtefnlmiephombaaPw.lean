/- The walk of BigParts, from its calls' answers. -/
import Derived.Test.YtefnlmiephombaaTl
namespace Go.Proofs.Ytefnlmiephombaa
open Go.RowKit Go.Sort

set_option maxRecDepth 100000 in
set_option maxHeartbeats 4000000 in
theorem parts_w (x y n q r er u d : Int) (w : World)
    (kdiv : ∀ w, Calls Try.prog 14 #[.agg #[.int .u64 (L0 x), .int .u64 (L1 x), .int .u64 (L2 x), .int .u64 (L3 x)], .agg #[.int .u64 (L0 y), .int .u64 (L1 y), .int .u64 (L2 y), .int .u64 (L3 y)]] w fun e w' => e = .returned (.tuple #[.agg #[.int .u64 (L0 q), .int .u64 (L1 q), .int .u64 (L2 q), .int .u64 (L3 q)], .agg #[.int .u64 (L0 r), .int .u64 (L1 r), .int .u64 (L2 r), .int .u64 (L3 r)], .int .i64 er]) ∧ Below w.heap.size w w')
    (kdir : ∀ w, Calls Try.prog 15 #[.agg #[.int .u64 (L0 x), .int .u64 (L1 x), .int .u64 (L2 x), .int .u64 (L3 x)], .agg #[.int .u64 (L0 y), .int .u64 (L1 y), .int .u64 (L2 y), .int .u64 (L3 y)]] w fun e w' => e = .returned (.tuple #[.agg #[.int .u64 (L0 q), .int .u64 (L1 q), .int .u64 (L2 q), .int .u64 (L3 q)], .agg #[.int .u64 (L0 r), .int .u64 (L1 r), .int .u64 (L2 r), .int .u64 (L3 r)], .int .i64 er]) ∧ Below w.heap.size w w')
    (kup : ∀ w, Calls Try.prog 16 #[.agg #[.int .u64 (L0 x), .int .u64 (L1 x), .int .u64 (L2 x), .int .u64 (L3 x)], .int .i64 n] w fun e w' => e = .returned (.agg #[.int .u64 (L0 u), .int .u64 (L1 u), .int .u64 (L2 u), .int .u64 (L3 u)]) ∧ Below w.heap.size w w')
    (kupr : ∀ w, Calls Try.prog 17 #[.agg #[.int .u64 (L0 x), .int .u64 (L1 x), .int .u64 (L2 x), .int .u64 (L3 x)], .int .i64 n] w fun e w' => e = .returned (.agg #[.int .u64 (L0 u), .int .u64 (L1 u), .int .u64 (L2 u), .int .u64 (L3 u)]) ∧ Below w.heap.size w w')
    (kdn : ∀ w, Calls Try.prog 18 #[.agg #[.int .u64 (L0 x), .int .u64 (L1 x), .int .u64 (L2 x), .int .u64 (L3 x)], .int .i64 n] w fun e w' => e = .returned (.agg #[.int .u64 (L0 d), .int .u64 (L1 d), .int .u64 (L2 d), .int .u64 (L3 d)]) ∧ Below w.heap.size w w')
    (kdnr : ∀ w, Calls Try.prog 19 #[.agg #[.int .u64 (L0 x), .int .u64 (L1 x), .int .u64 (L2 x), .int .u64 (L3 x)], .int .i64 n] w fun e w' => e = .returned (.agg #[.int .u64 (L0 d), .int .u64 (L1 d), .int .u64 (L2 d), .int .u64 (L3 d)]) ∧ Below w.heap.size w w')
    : Calls Try.prog 3 #[big x, big y, .int .i64 n] w fun e w' => e = .returned (.bool true) ∧ Below w.heap.size w w' := by
  have n0 : ∀ w, (binOp .eql 24 (.agg #[.int .u64 (L0 q), .int .u64 (L1 q), .int .u64 (L2 q), .int .u64 (L3 q)]) (.agg #[.int .u64 (L0 q), .int .u64 (L1 q), .int .u64 (L2 q), .int .u64 (L3 q)])).run Try.prog w = .ok (.bool true) w := fun w => by
    have := eq_run q q w
    rwa [show (m q == m q) = true by simp] at this
  have n1 : ∀ w, (binOp .eql 24 (.agg #[.int .u64 (L0 r), .int .u64 (L1 r), .int .u64 (L2 r), .int .u64 (L3 r)]) (.agg #[.int .u64 (L0 r), .int .u64 (L1 r), .int .u64 (L2 r), .int .u64 (L3 r)])).run Try.prog w = .ok (.bool true) w := fun w => by
    have := eq_run r r w
    rwa [show (m r == m r) = true by simp] at this
  have n2 : ∀ w, (binOp .eql 24 (.agg #[.int .u64 (L0 u), .int .u64 (L1 u), .int .u64 (L2 u), .int .u64 (L3 u)]) (.agg #[.int .u64 (L0 u), .int .u64 (L1 u), .int .u64 (L2 u), .int .u64 (L3 u)])).run Try.prog w = .ok (.bool true) w := fun w => by
    have := eq_run u u w
    rwa [show (m u == m u) = true by simp] at this
  have n3 : ∀ w, (binOp .eql 24 (.agg #[.int .u64 (L0 d), .int .u64 (L1 d), .int .u64 (L2 d), .int .u64 (L3 d)]) (.agg #[.int .u64 (L0 d), .int .u64 (L1 d), .int .u64 (L2 d), .int .u64 (L3 d)])).run Try.prog w = .ok (.bool true) w := fun w => by
    have := eq_run d d w
    rwa [show (m d == m d) = true by simp] at this
  unfold big
  go_enter Try.func3, Try.ntmps3
  go_upto_region 1 with (fail)
  refine wp_gen (fun W => Cells4 W (w.heap.size) x ∧ Cells4 W (w.heap.size + 1) y ∧ Below w.heap.size w W) ⟨(cells4_new w x).alloc _, cells4_new' (w.alloc _) _ y (by simp), bel_alloc (bel_alloc (Below.refl _ _) _) _⟩ ?_
  rintro W ⟨c0, c1, hB⟩
  obtain ⟨x00, x01, x02, x03, -, -, -, -⟩ := id c0
  obtain ⟨x10, x11, x12, x13, -, -, -, -⟩ := id c1
  go_upto_region 2 with (first | (go_at_call 14; with_reducible refine (kdiv _).mono ?_; rintro e w1 ⟨rfl, hb1⟩))
  have l0 := c0.lt
  have l1 := c1.lt
  refine wp_gen (fun W => Cells4 W (w.heap.size) x ∧ Cells4 W (w.heap.size + 1) y ∧ Cells4 W (w1.heap.size) q ∧ Cells4 W (w1.heap.size + 1) r ∧ Below w.heap.size w W) ⟨(((c0.below hb1 l0).alloc _).alloc _), (((c1.below hb1 l1).alloc _).alloc _), (cells4_new _ _).alloc _, cells4_new' _ _ _ (by simp), bel_alloc (bel_alloc (bel_call (hB) hb1) _) _⟩ ?_
  clear hb1 l0 l1 c0 c1 hB x00 x01 x02 x03 x10 x11 x12 x13
  generalize w1.heap.size = b1
  clear w1 W
  rintro W ⟨c0, c1, c2, c3, hB⟩
  obtain ⟨x00, x01, x02, x03, -, -, -, -⟩ := id c0
  obtain ⟨x10, x11, x12, x13, -, -, -, -⟩ := id c1
  go_upto_region 3 with (first | (go_at_call 15; with_reducible refine (kdir _).mono ?_; rintro e w1 ⟨rfl, hb1⟩))
  have l0 := c0.lt
  have l1 := c1.lt
  have l2 := c2.lt
  have l3 := c3.lt
  refine wp_gen (fun W => Cells4 W (w.heap.size) x ∧ Cells4 W (w.heap.size + 1) y ∧ Cells4 W b1 q ∧ Cells4 W (b1 + 1) r ∧ Cells4 W (w1.heap.size) q ∧ Cells4 W (w1.heap.size + 1) r ∧ Below w.heap.size w W) ⟨(((c0.below hb1 l0).alloc _).alloc _), (((c1.below hb1 l1).alloc _).alloc _), (((c2.below hb1 l2).alloc _).alloc _), (((c3.below hb1 l3).alloc _).alloc _), (cells4_new _ _).alloc _, cells4_new' _ _ _ (by simp), bel_alloc (bel_alloc (bel_call (hB) hb1) _) _⟩ ?_
  clear hb1 l0 l1 l2 l3 c0 c1 c2 c3 hB x00 x01 x02 x03 x10 x11 x12 x13
  generalize w1.heap.size = b2
  clear w1 W
  rintro W ⟨c0, c1, c2, c3, c4, c5, hB⟩
  have k00 := fun d os => (c0.regrown d os).c0
  have k01 := fun d os => (c0.regrown d os).c1
  have k02 := fun d os => (c0.regrown d os).c2
  have k03 := fun d os => (c0.regrown d os).c3
  have k20 := fun d os => (c2.regrown d os).c0
  have k21 := fun d os => (c2.regrown d os).c1
  have k22 := fun d os => (c2.regrown d os).c2
  have k23 := fun d os => (c2.regrown d os).c3
  have k30 := fun d os => (c3.regrown d os).c0
  have k31 := fun d os => (c3.regrown d os).c1
  have k32 := fun d os => (c3.regrown d os).c2
  have k33 := fun d os => (c3.regrown d os).c3
  have k40 := fun d os => (c4.regrown d os).c0
  have k41 := fun d os => (c4.regrown d os).c1
  have k42 := fun d os => (c4.regrown d os).c2
  have k43 := fun d os => (c4.regrown d os).c3
  have k50 := fun d os => (c5.regrown d os).c0
  have k51 := fun d os => (c5.regrown d os).c1
  have k52 := fun d os => (c5.regrown d os).c2
  have k53 := fun d os => (c5.regrown d os).c3
  have q0 := quiet_call W kup
  have q1 := quiet_call W kupr
  have q2 := quiet_call W kdn
  have q3 := quiet_call W kdnr
  have q4 := quiet_call W works_c
  refine wp_region_quiet_below (by kernel_rfl) (by kernel_rfl) ?_
  repeat (go_big_quiet_step ((first | with_reducible exact q0 _ _ | with_reducible exact q1 _ _ | with_reducible exact q2 _ _ | with_reducible exact q3 _ _ | with_reducible exact q4 _ _)))
  refine wpQuiet_nil ?_
  intro W1 hw'
  have hB1 : Below w.heap.size w W1 := by obtain ⟨p, rfl⟩ := hw'; exact hB.trans ((below_regrown W _ _).mono hB.size)
  clear hw'
  go_wp2
  go_ret
  exact ⟨rfl, hB1⟩
end Go.Proofs.Ytefnlmiephombaa
