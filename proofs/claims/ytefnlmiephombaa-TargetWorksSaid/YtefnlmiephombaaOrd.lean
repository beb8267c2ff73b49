/- The walk of BigOrder: whatever three numbers, it answers true. -/
import Derived.Test.YtefnlmiephombaaWk
import Derived.Lib.Hide
namespace Go.Proofs.Ytefnlmiephombaa
open Go.RowKit Go.Sort

theorem less_k (x y : Int) (hx : 0 ≤ x) (hx' : x < M) (hy : 0 ≤ y) (hy' : y < M) (b : Bool) (hb : decide (x < y) = b) (w : World) :
    Calls Try.prog 29 #[big x, big y] w fun e w' => e = .returned (.bool b) ∧ Below w.heap.size w w' := by
  have := less_c x y w
  rwa [m_of x hx hx', m_of y hy hy', hb] at this
theorem bits_k (x : Int) (hx : 0 ≤ x) (hx' : x < M) (w : World) :
    Calls Try.prog 22 #[big x] w fun e w' => e = .returned (.int .i64 (bl x)) ∧ Below w.heap.size w w' := by
  have := bits_c x w
  rwa [m_of x hx hx'] at this

theorem bl_mono (x y : Int) (hx : 0 ≤ x) (h : x ≤ y) : bl x ≤ bl y := by
  have := (bl_le_iff x hx (bl y).toNat).2
  have h2 := bl_nn y
  have h3 := (bl_le_iff y (by omega) (bl y).toNat).1 (by omega)
  have := this (by omega)
  omega

set_option maxHeartbeats 4000000 in
theorem ord_eq (x y z : Int) (hx : 0 ≤ x) (hx' : x < M) (hy : 0 ≤ y) (hy' : y < M) (h : x = y) (hbl : bl y ≤ bl x) (w : World) :
    Calls Try.prog 7 #[big x, big y, big z] w fun e w' => e = .returned (.bool true) ∧ Below w.heap.size w w' := by
  have lab : ∀ w, Calls Try.prog 29 #[.agg #[.int .u64 (L0 x), .int .u64 (L1 x), .int .u64 (L2 x), .int .u64 (L3 x)], .agg #[.int .u64 (L0 y), .int .u64 (L1 y), .int .u64 (L2 y), .int .u64 (L3 y)]] w fun e w' => e = .returned (.bool false) ∧ Below w.heap.size w w' := fun w => less_k x y hx hx' hy hy' false (by simp; omega) w
  have lba : ∀ w, Calls Try.prog 29 #[.agg #[.int .u64 (L0 y), .int .u64 (L1 y), .int .u64 (L2 y), .int .u64 (L3 y)], .agg #[.int .u64 (L0 x), .int .u64 (L1 x), .int .u64 (L2 x), .int .u64 (L3 x)]] w fun e w' => e = .returned (.bool false) ∧ Below w.heap.size w w' := fun w => less_k y x hy hy' hx hx' false (by simp; omega) w
  have bx : ∀ w, Calls Try.prog 22 #[.agg #[.int .u64 (L0 x), .int .u64 (L1 x), .int .u64 (L2 x), .int .u64 (L3 x)]] w fun e w' => e = .returned (.int .i64 (bl x)) ∧ Below w.heap.size w w' := fun w => bits_k x hx hx' w
  have byy : ∀ w, Calls Try.prog 22 #[.agg #[.int .u64 (L0 y), .int .u64 (L1 y), .int .u64 (L2 y), .int .u64 (L3 y)]] w fun e w' => e = .returned (.int .i64 (bl y)) ∧ Below w.heap.size w w' := fun w => bits_k y hy hy' w
  have heq : ∀ w, (binOp .eql 24 (.agg #[.int .u64 (L0 x), .int .u64 (L1 x), .int .u64 (L2 x), .int .u64 (L3 x)]) (.agg #[.int .u64 (L0 y), .int .u64 (L1 y), .int .u64 (L2 y), .int .u64 (L3 y)])).run Try.prog w = .ok (.bool true) w := fun w => by
    have := eq_run x y w
    rw [m_of x hx hx', m_of y hy hy', show (x == y) = true by simp; omega] at this
    exact this
  have hne : ∀ w, (binOp .neq 24 (.agg #[.int .u64 (L0 x), .int .u64 (L1 x), .int .u64 (L2 x), .int .u64 (L3 x)]) (.agg #[.int .u64 (L0 y), .int .u64 (L1 y), .int .u64 (L2 y), .int .u64 (L3 y)])).run Try.prog w = .ok (.bool false) w := fun w => by
    have := neq_run x y w
    rw [m_of x hx hx', m_of y hy hy', show (!(x == y)) = false by simp; omega] at this
    exact this
  have hge : decide (bl y ≤ bl x) = true := by simp; omega
  have HGE := Lib.hid hge
  clear hge hx hx' hy hy' h hbl
  unfold big
  go_enter Try.func7, Try.ntmps7
  go_upto_region 1 with (fail)
  refine wp_gen (fun W => Cells4 W w.heap.size x ∧ Cells4 W (w.heap.size + 1) y ∧ Cells4 W (w.heap.size + 1 + 1) z ∧ Below w.heap.size w W) ⟨?_, ?_, ?_, ?_⟩ ?_
  · exact ((cells4_new w x).alloc _).alloc _
  · exact (cells4_new' (w.alloc _) _ y (by simp)).alloc _
  · exact cells4_new' ((w.alloc _).alloc _) _ z (by simp)
  · exact bel_alloc (bel_alloc (bel_alloc (Below.refl _ _) _) _) _
  rintro W ⟨c1, c2, c3, hB⟩
  obtain ⟨a0, a1, a2, a3, -, -, -, -⟩ := id c1
  obtain ⟨b0, b1, b2, b3, -, -, -, -⟩ := id c2
  go_upto_region 2 with (go_at_call 29; with_reducible refine (lab _).mono ?_; rintro e w1 ⟨rfl, hb1⟩)
  refine wp_gen (fun W => Cells4 W w.heap.size x ∧ Cells4 W (w.heap.size + 1) y ∧ Cells4 W (w.heap.size + 1 + 1) z ∧ Below w.heap.size w W) ⟨c1.below hb1 c1.lt, c2.below hb1 c2.lt, c3.below hb1 c3.lt, bel_call hB hb1⟩ ?_
  clear a0 a1 a2 a3 b0 b1 b2 b3 hb1 hB c1 c2 c3 w1
  clear W
  rintro W ⟨c1, c2, c3, hB⟩
  obtain ⟨a0, a1, a2, a3, -, -, -, -⟩ := id c1
  obtain ⟨b0, b1, b2, b3, -, -, -, -⟩ := id c2
  go_upto_region 3 with (go_at_call 29; with_reducible refine (lba _).mono ?_; rintro e w1 ⟨rfl, hb1⟩)
  refine wp_gen (fun W => Cells4 W w.heap.size x ∧ Cells4 W (w.heap.size + 1) y ∧ Cells4 W (w.heap.size + 1 + 1) z ∧ Below w.heap.size w W) ⟨c1.below hb1 c1.lt, c2.below hb1 c2.lt, c3.below hb1 c3.lt, bel_call hB hb1⟩ ?_
  clear a0 a1 a2 a3 b0 b1 b2 b3 hb1 hB c1 c2 c3 w1
  clear W
  rintro W ⟨c1, c2, c3, hB⟩
  obtain ⟨a0, a1, a2, a3, -, -, -, -⟩ := id c1
  obtain ⟨b0, b1, b2, b3, -, -, -, -⟩ := id c2
  go_upto_region 5 with (fail)
  clear a0 a1 a2 a3 b0 b1 b2 b3
  have k10 := fun d os => (c1.regrown d os).c0
  have k11 := fun d os => (c1.regrown d os).c1
  have k12 := fun d os => (c1.regrown d os).c2
  have k13 := fun d os => (c1.regrown d os).c3
  have k20 := fun d os => (c2.regrown d os).c0
  have k21 := fun d os => (c2.regrown d os).c1
  have k22 := fun d os => (c2.regrown d os).c2
  have k23 := fun d os => (c2.regrown d os).c3
  have k30 := fun d os => (c3.regrown d os).c0
  have k31 := fun d os => (c3.regrown d os).c1
  have k32 := fun d os => (c3.regrown d os).c2
  have k33 := fun d os => (c3.regrown d os).c3
  have qx := quiet_call W bx
  have qy := quiet_call W byy
  have qw := quiet_call W works_c
  have hge := HGE.out
  refine wp_region_quiet_below (by kernel_rfl) (by kernel_rfl) ?_
  repeat (go_big_quiet_step ((first | with_reducible exact qx _ _ | with_reducible exact qy _ _ | with_reducible exact qw _ _)))
  refine wpQuiet_nil ?_
  intro W1 hw'
  have hB1 : Below w.heap.size w W1 := by obtain ⟨p, rfl⟩ := hw'; exact hB.trans ((below_regrown W _ _).mono hB.size)
  clear hw'
  go_wp2
  go_ret
  exact ⟨rfl, hB1⟩

set_option maxHeartbeats 4000000 in
theorem ord_gt (x y z : Int) (hx : 0 ≤ x) (hx' : x < M) (hy : 0 ≤ y) (hy' : y < M) (h : y < x) (hbl : bl y ≤ bl x) (w : World) :
    Calls Try.prog 7 #[big x, big y, big z] w fun e w' => e = .returned (.bool true) ∧ Below w.heap.size w w' := by
  have lab : ∀ w, Calls Try.prog 29 #[.agg #[.int .u64 (L0 x), .int .u64 (L1 x), .int .u64 (L2 x), .int .u64 (L3 x)], .agg #[.int .u64 (L0 y), .int .u64 (L1 y), .int .u64 (L2 y), .int .u64 (L3 y)]] w fun e w' => e = .returned (.bool false) ∧ Below w.heap.size w w' := fun w => less_k x y hx hx' hy hy' false (by simp; omega) w
  have lba : ∀ w, Calls Try.prog 29 #[.agg #[.int .u64 (L0 y), .int .u64 (L1 y), .int .u64 (L2 y), .int .u64 (L3 y)], .agg #[.int .u64 (L0 x), .int .u64 (L1 x), .int .u64 (L2 x), .int .u64 (L3 x)]] w fun e w' => e = .returned (.bool true) ∧ Below w.heap.size w w' := fun w => less_k y x hy hy' hx hx' true (by simp; omega) w
  have bx : ∀ w, Calls Try.prog 22 #[.agg #[.int .u64 (L0 x), .int .u64 (L1 x), .int .u64 (L2 x), .int .u64 (L3 x)]] w fun e w' => e = .returned (.int .i64 (bl x)) ∧ Below w.heap.size w w' := fun w => bits_k x hx hx' w
  have byy : ∀ w, Calls Try.prog 22 #[.agg #[.int .u64 (L0 y), .int .u64 (L1 y), .int .u64 (L2 y), .int .u64 (L3 y)]] w fun e w' => e = .returned (.int .i64 (bl y)) ∧ Below w.heap.size w w' := fun w => bits_k y hy hy' w
  have heq : ∀ w, (binOp .eql 24 (.agg #[.int .u64 (L0 x), .int .u64 (L1 x), .int .u64 (L2 x), .int .u64 (L3 x)]) (.agg #[.int .u64 (L0 y), .int .u64 (L1 y), .int .u64 (L2 y), .int .u64 (L3 y)])).run Try.prog w = .ok (.bool false) w := fun w => by
    have := eq_run x y w
    rw [m_of x hx hx', m_of y hy hy', show (x == y) = false by simp; omega] at this
    exact this
  have hne : ∀ w, (binOp .neq 24 (.agg #[.int .u64 (L0 x), .int .u64 (L1 x), .int .u64 (L2 x), .int .u64 (L3 x)]) (.agg #[.int .u64 (L0 y), .int .u64 (L1 y), .int .u64 (L2 y), .int .u64 (L3 y)])).run Try.prog w = .ok (.bool true) w := fun w => by
    have := neq_run x y w
    rw [m_of x hx hx', m_of y hy hy', show (!(x == y)) = true by simp; omega] at this
    exact this
  have hge : decide (bl y ≤ bl x) = true := by simp; omega
  have HGE := Lib.hid hge
  clear hge hx hx' hy hy' h hbl
  unfold big
  go_enter Try.func7, Try.ntmps7
  go_upto_region 1 with (fail)
  refine wp_gen (fun W => Cells4 W w.heap.size x ∧ Cells4 W (w.heap.size + 1) y ∧ Cells4 W (w.heap.size + 1 + 1) z ∧ Below w.heap.size w W) ⟨?_, ?_, ?_, ?_⟩ ?_
  · exact ((cells4_new w x).alloc _).alloc _
  · exact (cells4_new' (w.alloc _) _ y (by simp)).alloc _
  · exact cells4_new' ((w.alloc _).alloc _) _ z (by simp)
  · exact bel_alloc (bel_alloc (bel_alloc (Below.refl _ _) _) _) _
  rintro W ⟨c1, c2, c3, hB⟩
  obtain ⟨a0, a1, a2, a3, -, -, -, -⟩ := id c1
  obtain ⟨b0, b1, b2, b3, -, -, -, -⟩ := id c2
  go_upto_region 2 with (go_at_call 29; with_reducible refine (lab _).mono ?_; rintro e w1 ⟨rfl, hb1⟩)
  refine wp_gen (fun W => Cells4 W w.heap.size x ∧ Cells4 W (w.heap.size + 1) y ∧ Cells4 W (w.heap.size + 1 + 1) z ∧ Below w.heap.size w W) ⟨c1.below hb1 c1.lt, c2.below hb1 c2.lt, c3.below hb1 c3.lt, bel_call hB hb1⟩ ?_
  clear a0 a1 a2 a3 b0 b1 b2 b3 hb1 hB c1 c2 c3 w1
  clear W
  rintro W ⟨c1, c2, c3, hB⟩
  obtain ⟨a0, a1, a2, a3, -, -, -, -⟩ := id c1
  obtain ⟨b0, b1, b2, b3, -, -, -, -⟩ := id c2
  go_upto_region 3 with (go_at_call 29; with_reducible refine (lba _).mono ?_; rintro e w1 ⟨rfl, hb1⟩)
  refine wp_gen (fun W => Cells4 W w.heap.size x ∧ Cells4 W (w.heap.size + 1) y ∧ Cells4 W (w.heap.size + 1 + 1) z ∧ Below w.heap.size w W) ⟨c1.below hb1 c1.lt, c2.below hb1 c2.lt, c3.below hb1 c3.lt, bel_call hB hb1⟩ ?_
  clear a0 a1 a2 a3 b0 b1 b2 b3 hb1 hB c1 c2 c3 w1
  clear W
  rintro W ⟨c1, c2, c3, hB⟩
  obtain ⟨a0, a1, a2, a3, -, -, -, -⟩ := id c1
  obtain ⟨b0, b1, b2, b3, -, -, -, -⟩ := id c2
  go_upto_region 5 with (fail)
  clear a0 a1 a2 a3 b0 b1 b2 b3
  have k10 := fun d os => (c1.regrown d os).c0
  have k11 := fun d os => (c1.regrown d os).c1
  have k12 := fun d os => (c1.regrown d os).c2
  have k13 := fun d os => (c1.regrown d os).c3
  have k20 := fun d os => (c2.regrown d os).c0
  have k21 := fun d os => (c2.regrown d os).c1
  have k22 := fun d os => (c2.regrown d os).c2
  have k23 := fun d os => (c2.regrown d os).c3
  have k30 := fun d os => (c3.regrown d os).c0
  have k31 := fun d os => (c3.regrown d os).c1
  have k32 := fun d os => (c3.regrown d os).c2
  have k33 := fun d os => (c3.regrown d os).c3
  have qx := quiet_call W bx
  have qy := quiet_call W byy
  have qw := quiet_call W works_c
  have hge := HGE.out
  refine wp_region_quiet_below (by kernel_rfl) (by kernel_rfl) ?_
  repeat (go_big_quiet_step ((first | with_reducible exact qx _ _ | with_reducible exact qy _ _ | with_reducible exact qw _ _)))
  refine wpQuiet_nil ?_
  intro W1 hw'
  have hB1 : Below w.heap.size w W1 := by obtain ⟨p, rfl⟩ := hw'; exact hB.trans ((below_regrown W _ _).mono hB.size)
  clear hw'
  go_wp2
  go_ret
  exact ⟨rfl, hB1⟩

set_option maxHeartbeats 4000000 in
theorem ord_lt_no_true (x y z : Int) (hx : 0 ≤ x) (hx' : x < M) (hy : 0 ≤ y) (hy' : y < M) (hz : 0 ≤ z) (hz2 : z < M) (h : x < y) (hyz : z ≤ y) (hbl : bl y ≤ bl x) (w : World) :
    Calls Try.prog 7 #[big x, big y, big z] w fun e w' => e = .returned (.bool true) ∧ Below w.heap.size w w' := by
  have lab : ∀ w, Calls Try.prog 29 #[.agg #[.int .u64 (L0 x), .int .u64 (L1 x), .int .u64 (L2 x), .int .u64 (L3 x)], .agg #[.int .u64 (L0 y), .int .u64 (L1 y), .int .u64 (L2 y), .int .u64 (L3 y)]] w fun e w' => e = .returned (.bool true) ∧ Below w.heap.size w w' := fun w => less_k x y hx hx' hy hy' true (by simp; omega) w
  have lba : ∀ w, Calls Try.prog 29 #[.agg #[.int .u64 (L0 y), .int .u64 (L1 y), .int .u64 (L2 y), .int .u64 (L3 y)], .agg #[.int .u64 (L0 x), .int .u64 (L1 x), .int .u64 (L2 x), .int .u64 (L3 x)]] w fun e w' => e = .returned (.bool false) ∧ Below w.heap.size w w' := fun w => less_k y x hy hy' hx hx' false (by simp; omega) w
  have lq0 : ∀ w, Calls Try.prog 29 #[.agg #[.int .u64 (L0 y), .int .u64 (L1 y), .int .u64 (L2 y), .int .u64 (L3 y)], .agg #[.int .u64 (L0 z), .int .u64 (L1 z), .int .u64 (L2 z), .int .u64 (L3 z)]] w fun e w' => e = .returned (.bool false) ∧ Below w.heap.size w w' := fun w => less_k y z (by omega) (by omega) (by omega) (by omega) false (by simp; omega) w
  have bx : ∀ w, Calls Try.prog 22 #[.agg #[.int .u64 (L0 x), .int .u64 (L1 x), .int .u64 (L2 x), .int .u64 (L3 x)]] w fun e w' => e = .returned (.int .i64 (bl x)) ∧ Below w.heap.size w w' := fun w => bits_k x hx hx' w
  have byy : ∀ w, Calls Try.prog 22 #[.agg #[.int .u64 (L0 y), .int .u64 (L1 y), .int .u64 (L2 y), .int .u64 (L3 y)]] w fun e w' => e = .returned (.int .i64 (bl y)) ∧ Below w.heap.size w w' := fun w => bits_k y hy hy' w
  have heq : ∀ w, (binOp .eql 24 (.agg #[.int .u64 (L0 x), .int .u64 (L1 x), .int .u64 (L2 x), .int .u64 (L3 x)]) (.agg #[.int .u64 (L0 y), .int .u64 (L1 y), .int .u64 (L2 y), .int .u64 (L3 y)])).run Try.prog w = .ok (.bool false) w := fun w => by
    have := eq_run x y w
    rw [m_of x hx hx', m_of y hy hy', show (x == y) = false by simp; omega] at this
    exact this
  have hne : ∀ w, (binOp .neq 24 (.agg #[.int .u64 (L0 x), .int .u64 (L1 x), .int .u64 (L2 x), .int .u64 (L3 x)]) (.agg #[.int .u64 (L0 y), .int .u64 (L1 y), .int .u64 (L2 y), .int .u64 (L3 y)])).run Try.prog w = .ok (.bool true) w := fun w => by
    have := neq_run x y w
    rw [m_of x hx hx', m_of y hy hy', show (!(x == y)) = true by simp; omega] at this
    exact this
  have hge : decide (bl y ≤ bl x) = true := by simp; omega
  have HGE := Lib.hid hge
  clear hge hx hx' hy hy' hz hz2 h hyz hbl
  unfold big
  go_enter Try.func7, Try.ntmps7
  go_upto_region 1 with (fail)
  refine wp_gen (fun W => Cells4 W w.heap.size x ∧ Cells4 W (w.heap.size + 1) y ∧ Cells4 W (w.heap.size + 1 + 1) z ∧ Below w.heap.size w W) ⟨?_, ?_, ?_, ?_⟩ ?_
  · exact ((cells4_new w x).alloc _).alloc _
  · exact (cells4_new' (w.alloc _) _ y (by simp)).alloc _
  · exact cells4_new' ((w.alloc _).alloc _) _ z (by simp)
  · exact bel_alloc (bel_alloc (bel_alloc (Below.refl _ _) _) _) _
  rintro W ⟨c1, c2, c3, hB⟩
  obtain ⟨a0, a1, a2, a3, -, -, -, -⟩ := id c1
  obtain ⟨b0, b1, b2, b3, -, -, -, -⟩ := id c2
  go_upto_region 2 with (go_at_call 29; with_reducible refine (lab _).mono ?_; rintro e w1 ⟨rfl, hb1⟩)
  refine wp_gen (fun W => Cells4 W w.heap.size x ∧ Cells4 W (w.heap.size + 1) y ∧ Cells4 W (w.heap.size + 1 + 1) z ∧ Below w.heap.size w W) ⟨c1.below hb1 c1.lt, c2.below hb1 c2.lt, c3.below hb1 c3.lt, bel_call hB hb1⟩ ?_
  clear a0 a1 a2 a3 b0 b1 b2 b3 hb1 hB c1 c2 c3 w1
  clear W
  rintro W ⟨c1, c2, c3, hB⟩
  obtain ⟨a0, a1, a2, a3, -, -, -, -⟩ := id c1
  obtain ⟨b0, b1, b2, b3, -, -, -, -⟩ := id c2
  go_upto_region 3 with (go_at_call 29; with_reducible refine (lba _).mono ?_; rintro e w1 ⟨rfl, hb1⟩)
  refine wp_gen (fun W => Cells4 W w.heap.size x ∧ Cells4 W (w.heap.size + 1) y ∧ Cells4 W (w.heap.size + 1 + 1) z ∧ Below w.heap.size w W) ⟨c1.below hb1 c1.lt, c2.below hb1 c2.lt, c3.below hb1 c3.lt, bel_call hB hb1⟩ ?_
  clear a0 a1 a2 a3 b0 b1 b2 b3 hb1 hB c1 c2 c3 w1
  clear W
  rintro W ⟨c1, c2, c3, hB⟩
  obtain ⟨a0, a1, a2, a3, -, -, -, -⟩ := id c1
  obtain ⟨b0, b1, b2, b3, -, -, -, -⟩ := id c2
  go_upto_region 5 with (fail)
  clear a0 a1 a2 a3 b0 b1 b2 b3
  have k10 := fun d os => (c1.regrown d os).c0
  have k11 := fun d os => (c1.regrown d os).c1
  have k12 := fun d os => (c1.regrown d os).c2
  have k13 := fun d os => (c1.regrown d os).c3
  have k20 := fun d os => (c2.regrown d os).c0
  have k21 := fun d os => (c2.regrown d os).c1
  have k22 := fun d os => (c2.regrown d os).c2
  have k23 := fun d os => (c2.regrown d os).c3
  have k30 := fun d os => (c3.regrown d os).c0
  have k31 := fun d os => (c3.regrown d os).c1
  have k32 := fun d os => (c3.regrown d os).c2
  have k33 := fun d os => (c3.regrown d os).c3
  have qx := quiet_call W bx
  have qy := quiet_call W byy
  have qw := quiet_call W works_c
  have ql0 := quiet_call W lq0
  have hge := HGE.out
  refine wp_region_quiet_below (by kernel_rfl) (by kernel_rfl) ?_
  repeat (go_big_quiet_step ((first | with_reducible exact qx _ _ | with_reducible exact qy _ _ | with_reducible exact qw _ _ | with_reducible exact ql0 _ _)))
  refine wpQuiet_nil ?_
  intro W1 hw'
  have hB1 : Below w.heap.size w W1 := by obtain ⟨p, rfl⟩ := hw'; exact hB.trans ((below_regrown W _ _).mono hB.size)
  clear hw'
  go_wp2
  go_ret
  exact ⟨rfl, hB1⟩

set_option maxHeartbeats 4000000 in
theorem ord_lt_yes_true (x y z : Int) (hx : 0 ≤ x) (hx' : x < M) (hy : 0 ≤ y) (hy' : y < M) (hz : 0 ≤ z) (hz2 : z < M) (h : x < y) (hyz : y < z) (hbl : bl y ≤ bl x) (w : World) :
    Calls Try.prog 7 #[big x, big y, big z] w fun e w' => e = .returned (.bool true) ∧ Below w.heap.size w w' := by
  have lab : ∀ w, Calls Try.prog 29 #[.agg #[.int .u64 (L0 x), .int .u64 (L1 x), .int .u64 (L2 x), .int .u64 (L3 x)], .agg #[.int .u64 (L0 y), .int .u64 (L1 y), .int .u64 (L2 y), .int .u64 (L3 y)]] w fun e w' => e = .returned (.bool true) ∧ Below w.heap.size w w' := fun w => less_k x y hx hx' hy hy' true (by simp; omega) w
  have lba : ∀ w, Calls Try.prog 29 #[.agg #[.int .u64 (L0 y), .int .u64 (L1 y), .int .u64 (L2 y), .int .u64 (L3 y)], .agg #[.int .u64 (L0 x), .int .u64 (L1 x), .int .u64 (L2 x), .int .u64 (L3 x)]] w fun e w' => e = .returned (.bool false) ∧ Below w.heap.size w w' := fun w => less_k y x hy hy' hx hx' false (by simp; omega) w
  have lq0 : ∀ w, Calls Try.prog 29 #[.agg #[.int .u64 (L0 y), .int .u64 (L1 y), .int .u64 (L2 y), .int .u64 (L3 y)], .agg #[.int .u64 (L0 z), .int .u64 (L1 z), .int .u64 (L2 z), .int .u64 (L3 z)]] w fun e w' => e = .returned (.bool true) ∧ Below w.heap.size w w' := fun w => less_k y z (by omega) (by omega) (by omega) (by omega) true (by simp; omega) w
  have lq1 : ∀ w, Calls Try.prog 29 #[.agg #[.int .u64 (L0 x), .int .u64 (L1 x), .int .u64 (L2 x), .int .u64 (L3 x)], .agg #[.int .u64 (L0 z), .int .u64 (L1 z), .int .u64 (L2 z), .int .u64 (L3 z)]] w fun e w' => e = .returned (.bool true) ∧ Below w.heap.size w w' := fun w => less_k x z (by omega) (by omega) (by omega) (by omega) true (by simp; omega) w
  have bx : ∀ w, Calls Try.prog 22 #[.agg #[.int .u64 (L0 x), .int .u64 (L1 x), .int .u64 (L2 x), .int .u64 (L3 x)]] w fun e w' => e = .returned (.int .i64 (bl x)) ∧ Below w.heap.size w w' := fun w => bits_k x hx hx' w
  have byy : ∀ w, Calls Try.prog 22 #[.agg #[.int .u64 (L0 y), .int .u64 (L1 y), .int .u64 (L2 y), .int .u64 (L3 y)]] w fun e w' => e = .returned (.int .i64 (bl y)) ∧ Below w.heap.size w w' := fun w => bits_k y hy hy' w
  have heq : ∀ w, (binOp .eql 24 (.agg #[.int .u64 (L0 x), .int .u64 (L1 x), .int .u64 (L2 x), .int .u64 (L3 x)]) (.agg #[.int .u64 (L0 y), .int .u64 (L1 y), .int .u64 (L2 y), .int .u64 (L3 y)])).run Try.prog w = .ok (.bool false) w := fun w => by
    have := eq_run x y w
    rw [m_of x hx hx', m_of y hy hy', show (x == y) = false by simp; omega] at this
    exact this
  have hne : ∀ w, (binOp .neq 24 (.agg #[.int .u64 (L0 x), .int .u64 (L1 x), .int .u64 (L2 x), .int .u64 (L3 x)]) (.agg #[.int .u64 (L0 y), .int .u64 (L1 y), .int .u64 (L2 y), .int .u64 (L3 y)])).run Try.prog w = .ok (.bool true) w := fun w => by
    have := neq_run x y w
    rw [m_of x hx hx', m_of y hy hy', show (!(x == y)) = true by simp; omega] at this
    exact this
  have hge : decide (bl y ≤ bl x) = true := by simp; omega
  have HGE := Lib.hid hge
  clear hge hx hx' hy hy' hz hz2 h hyz hbl
  unfold big
  go_enter Try.func7, Try.ntmps7
  go_upto_region 1 with (fail)
  refine wp_gen (fun W => Cells4 W w.heap.size x ∧ Cells4 W (w.heap.size + 1) y ∧ Cells4 W (w.heap.size + 1 + 1) z ∧ Below w.heap.size w W) ⟨?_, ?_, ?_, ?_⟩ ?_
  · exact ((cells4_new w x).alloc _).alloc _
  · exact (cells4_new' (w.alloc _) _ y (by simp)).alloc _
  · exact cells4_new' ((w.alloc _).alloc _) _ z (by simp)
  · exact bel_alloc (bel_alloc (bel_alloc (Below.refl _ _) _) _) _
  rintro W ⟨c1, c2, c3, hB⟩
  obtain ⟨a0, a1, a2, a3, -, -, -, -⟩ := id c1
  obtain ⟨b0, b1, b2, b3, -, -, -, -⟩ := id c2
  go_upto_region 2 with (go_at_call 29; with_reducible refine (lab _).mono ?_; rintro e w1 ⟨rfl, hb1⟩)
  refine wp_gen (fun W => Cells4 W w.heap.size x ∧ Cells4 W (w.heap.size + 1) y ∧ Cells4 W (w.heap.size + 1 + 1) z ∧ Below w.heap.size w W) ⟨c1.below hb1 c1.lt, c2.below hb1 c2.lt, c3.below hb1 c3.lt, bel_call hB hb1⟩ ?_
  clear a0 a1 a2 a3 b0 b1 b2 b3 hb1 hB c1 c2 c3 w1
  clear W
  rintro W ⟨c1, c2, c3, hB⟩
  obtain ⟨a0, a1, a2, a3, -, -, -, -⟩ := id c1
  obtain ⟨b0, b1, b2, b3, -, -, -, -⟩ := id c2
  go_upto_region 3 with (go_at_call 29; with_reducible refine (lba _).mono ?_; rintro e w1 ⟨rfl, hb1⟩)
  refine wp_gen (fun W => Cells4 W w.heap.size x ∧ Cells4 W (w.heap.size + 1) y ∧ Cells4 W (w.heap.size + 1 + 1) z ∧ Below w.heap.size w W) ⟨c1.below hb1 c1.lt, c2.below hb1 c2.lt, c3.below hb1 c3.lt, bel_call hB hb1⟩ ?_
  clear a0 a1 a2 a3 b0 b1 b2 b3 hb1 hB c1 c2 c3 w1
  clear W
  rintro W ⟨c1, c2, c3, hB⟩
  obtain ⟨a0, a1, a2, a3, -, -, -, -⟩ := id c1
  obtain ⟨b0, b1, b2, b3, -, -, -, -⟩ := id c2
  go_upto_region 5 with (fail)
  clear a0 a1 a2 a3 b0 b1 b2 b3
  have k10 := fun d os => (c1.regrown d os).c0
  have k11 := fun d os => (c1.regrown d os).c1
  have k12 := fun d os => (c1.regrown d os).c2
  have k13 := fun d os => (c1.regrown d os).c3
  have k20 := fun d os => (c2.regrown d os).c0
  have k21 := fun d os => (c2.regrown d os).c1
  have k22 := fun d os => (c2.regrown d os).c2
  have k23 := fun d os => (c2.regrown d os).c3
  have k30 := fun d os => (c3.regrown d os).c0
  have k31 := fun d os => (c3.regrown d os).c1
  have k32 := fun d os => (c3.regrown d os).c2
  have k33 := fun d os => (c3.regrown d os).c3
  have qx := quiet_call W bx
  have qy := quiet_call W byy
  have qw := quiet_call W works_c
  have ql0 := quiet_call W lq0
  have ql1 := quiet_call W lq1
  have hge := HGE.out
  refine wp_region_quiet_below (by kernel_rfl) (by kernel_rfl) ?_
  repeat (go_big_quiet_step ((first | with_reducible exact qx _ _ | with_reducible exact qy _ _ | with_reducible exact qw _ _ | with_reducible exact ql0 _ _ | with_reducible exact ql1 _ _)))
  refine wpQuiet_nil ?_
  intro W1 hw'
  have hB1 : Below w.heap.size w W1 := by obtain ⟨p, rfl⟩ := hw'; exact hB.trans ((below_regrown W _ _).mono hB.size)
  clear hw'
  go_wp2
  go_ret
  exact ⟨rfl, hB1⟩

set_option maxHeartbeats 4000000 in
theorem ord_lt_no_false (x y z : Int) (hx : 0 ≤ x) (hx' : x < M) (hy : 0 ≤ y) (hy' : y < M) (hz : 0 ≤ z) (hz2 : z < M) (h : x < y) (hyz : z ≤ y) (hbl : bl x < bl y) (w : World) :
    Calls Try.prog 7 #[big x, big y, big z] w fun e w' => e = .returned (.bool true) ∧ Below w.heap.size w w' := by
  have lab : ∀ w, Calls Try.prog 29 #[.agg #[.int .u64 (L0 x), .int .u64 (L1 x), .int .u64 (L2 x), .int .u64 (L3 x)], .agg #[.int .u64 (L0 y), .int .u64 (L1 y), .int .u64 (L2 y), .int .u64 (L3 y)]] w fun e w' => e = .returned (.bool true) ∧ Below w.heap.size w w' := fun w => less_k x y hx hx' hy hy' true (by simp; omega) w
  have lba : ∀ w, Calls Try.prog 29 #[.agg #[.int .u64 (L0 y), .int .u64 (L1 y), .int .u64 (L2 y), .int .u64 (L3 y)], .agg #[.int .u64 (L0 x), .int .u64 (L1 x), .int .u64 (L2 x), .int .u64 (L3 x)]] w fun e w' => e = .returned (.bool false) ∧ Below w.heap.size w w' := fun w => less_k y x hy hy' hx hx' false (by simp; omega) w
  have lq0 : ∀ w, Calls Try.prog 29 #[.agg #[.int .u64 (L0 y), .int .u64 (L1 y), .int .u64 (L2 y), .int .u64 (L3 y)], .agg #[.int .u64 (L0 z), .int .u64 (L1 z), .int .u64 (L2 z), .int .u64 (L3 z)]] w fun e w' => e = .returned (.bool false) ∧ Below w.heap.size w w' := fun w => less_k y z (by omega) (by omega) (by omega) (by omega) false (by simp; omega) w
  have bx : ∀ w, Calls Try.prog 22 #[.agg #[.int .u64 (L0 x), .int .u64 (L1 x), .int .u64 (L2 x), .int .u64 (L3 x)]] w fun e w' => e = .returned (.int .i64 (bl x)) ∧ Below w.heap.size w w' := fun w => bits_k x hx hx' w
  have byy : ∀ w, Calls Try.prog 22 #[.agg #[.int .u64 (L0 y), .int .u64 (L1 y), .int .u64 (L2 y), .int .u64 (L3 y)]] w fun e w' => e = .returned (.int .i64 (bl y)) ∧ Below w.heap.size w w' := fun w => bits_k y hy hy' w
  have heq : ∀ w, (binOp .eql 24 (.agg #[.int .u64 (L0 x), .int .u64 (L1 x), .int .u64 (L2 x), .int .u64 (L3 x)]) (.agg #[.int .u64 (L0 y), .int .u64 (L1 y), .int .u64 (L2 y), .int .u64 (L3 y)])).run Try.prog w = .ok (.bool false) w := fun w => by
    have := eq_run x y w
    rw [m_of x hx hx', m_of y hy hy', show (x == y) = false by simp; omega] at this
    exact this
  have hne : ∀ w, (binOp .neq 24 (.agg #[.int .u64 (L0 x), .int .u64 (L1 x), .int .u64 (L2 x), .int .u64 (L3 x)]) (.agg #[.int .u64 (L0 y), .int .u64 (L1 y), .int .u64 (L2 y), .int .u64 (L3 y)])).run Try.prog w = .ok (.bool true) w := fun w => by
    have := neq_run x y w
    rw [m_of x hx hx', m_of y hy hy', show (!(x == y)) = true by simp; omega] at this
    exact this
  have hge : decide (bl y ≤ bl x) = false := by simp; omega
  have HGE := Lib.hid hge
  clear hge hx hx' hy hy' hz hz2 h hyz hbl
  unfold big
  go_enter Try.func7, Try.ntmps7
  go_upto_region 1 with (fail)
  refine wp_gen (fun W => Cells4 W w.heap.size x ∧ Cells4 W (w.heap.size + 1) y ∧ Cells4 W (w.heap.size + 1 + 1) z ∧ Below w.heap.size w W) ⟨?_, ?_, ?_, ?_⟩ ?_
  · exact ((cells4_new w x).alloc _).alloc _
  · exact (cells4_new' (w.alloc _) _ y (by simp)).alloc _
  · exact cells4_new' ((w.alloc _).alloc _) _ z (by simp)
  · exact bel_alloc (bel_alloc (bel_alloc (Below.refl _ _) _) _) _
  rintro W ⟨c1, c2, c3, hB⟩
  obtain ⟨a0, a1, a2, a3, -, -, -, -⟩ := id c1
  obtain ⟨b0, b1, b2, b3, -, -, -, -⟩ := id c2
  go_upto_region 2 with (go_at_call 29; with_reducible refine (lab _).mono ?_; rintro e w1 ⟨rfl, hb1⟩)
  refine wp_gen (fun W => Cells4 W w.heap.size x ∧ Cells4 W (w.heap.size + 1) y ∧ Cells4 W (w.heap.size + 1 + 1) z ∧ Below w.heap.size w W) ⟨c1.below hb1 c1.lt, c2.below hb1 c2.lt, c3.below hb1 c3.lt, bel_call hB hb1⟩ ?_
  clear a0 a1 a2 a3 b0 b1 b2 b3 hb1 hB c1 c2 c3 w1
  clear W
  rintro W ⟨c1, c2, c3, hB⟩
  obtain ⟨a0, a1, a2, a3, -, -, -, -⟩ := id c1
  obtain ⟨b0, b1, b2, b3, -, -, -, -⟩ := id c2
  go_upto_region 3 with (go_at_call 29; with_reducible refine (lba _).mono ?_; rintro e w1 ⟨rfl, hb1⟩)
  refine wp_gen (fun W => Cells4 W w.heap.size x ∧ Cells4 W (w.heap.size + 1) y ∧ Cells4 W (w.heap.size + 1 + 1) z ∧ Below w.heap.size w W) ⟨c1.below hb1 c1.lt, c2.below hb1 c2.lt, c3.below hb1 c3.lt, bel_call hB hb1⟩ ?_
  clear a0 a1 a2 a3 b0 b1 b2 b3 hb1 hB c1 c2 c3 w1
  clear W
  rintro W ⟨c1, c2, c3, hB⟩
  obtain ⟨a0, a1, a2, a3, -, -, -, -⟩ := id c1
  obtain ⟨b0, b1, b2, b3, -, -, -, -⟩ := id c2
  go_upto_region 5 with (fail)
  clear a0 a1 a2 a3 b0 b1 b2 b3
  have k10 := fun d os => (c1.regrown d os).c0
  have k11 := fun d os => (c1.regrown d os).c1
  have k12 := fun d os => (c1.regrown d os).c2
  have k13 := fun d os => (c1.regrown d os).c3
  have k20 := fun d os => (c2.regrown d os).c0
  have k21 := fun d os => (c2.regrown d os).c1
  have k22 := fun d os => (c2.regrown d os).c2
  have k23 := fun d os => (c2.regrown d os).c3
  have k30 := fun d os => (c3.regrown d os).c0
  have k31 := fun d os => (c3.regrown d os).c1
  have k32 := fun d os => (c3.regrown d os).c2
  have k33 := fun d os => (c3.regrown d os).c3
  have qx := quiet_call W bx
  have qy := quiet_call W byy
  have qw := quiet_call W works_c
  have ql0 := quiet_call W lq0
  have hge := HGE.out
  refine wp_region_quiet_below (by kernel_rfl) (by kernel_rfl) ?_
  repeat (go_big_quiet_step ((first | with_reducible exact qx _ _ | with_reducible exact qy _ _ | with_reducible exact qw _ _ | with_reducible exact ql0 _ _)))
  refine wpQuiet_nil ?_
  intro W1 hw'
  have hB1 : Below w.heap.size w W1 := by obtain ⟨p, rfl⟩ := hw'; exact hB.trans ((below_regrown W _ _).mono hB.size)
  clear hw'
  go_wp2
  go_ret
  exact ⟨rfl, hB1⟩

set_option maxHeartbeats 4000000 in
theorem ord_lt_yes_false (x y z : Int) (hx : 0 ≤ x) (hx' : x < M) (hy : 0 ≤ y) (hy' : y < M) (hz : 0 ≤ z) (hz2 : z < M) (h : x < y) (hyz : y < z) (hbl : bl x < bl y) (w : World) :
    Calls Try.prog 7 #[big x, big y, big z] w fun e w' => e = .returned (.bool true) ∧ Below w.heap.size w w' := by
  have lab : ∀ w, Calls Try.prog 29 #[.agg #[.int .u64 (L0 x), .int .u64 (L1 x), .int .u64 (L2 x), .int .u64 (L3 x)], .agg #[.int .u64 (L0 y), .int .u64 (L1 y), .int .u64 (L2 y), .int .u64 (L3 y)]] w fun e w' => e = .returned (.bool true) ∧ Below w.heap.size w w' := fun w => less_k x y hx hx' hy hy' true (by simp; omega) w
  have lba : ∀ w, Calls Try.prog 29 #[.agg #[.int .u64 (L0 y), .int .u64 (L1 y), .int .u64 (L2 y), .int .u64 (L3 y)], .agg #[.int .u64 (L0 x), .int .u64 (L1 x), .int .u64 (L2 x), .int .u64 (L3 x)]] w fun e w' => e = .returned (.bool false) ∧ Below w.heap.size w w' := fun w => less_k y x hy hy' hx hx' false (by simp; omega) w
  have lq0 : ∀ w, Calls Try.prog 29 #[.agg #[.int .u64 (L0 y), .int .u64 (L1 y), .int .u64 (L2 y), .int .u64 (L3 y)], .agg #[.int .u64 (L0 z), .int .u64 (L1 z), .int .u64 (L2 z), .int .u64 (L3 z)]] w fun e w' => e = .returned (.bool true) ∧ Below w.heap.size w w' := fun w => less_k y z (by omega) (by omega) (by omega) (by omega) true (by simp; omega) w
  have lq1 : ∀ w, Calls Try.prog 29 #[.agg #[.int .u64 (L0 x), .int .u64 (L1 x), .int .u64 (L2 x), .int .u64 (L3 x)], .agg #[.int .u64 (L0 z), .int .u64 (L1 z), .int .u64 (L2 z), .int .u64 (L3 z)]] w fun e w' => e = .returned (.bool true) ∧ Below w.heap.size w w' := fun w => less_k x z (by omega) (by omega) (by omega) (by omega) true (by simp; omega) w
  have bx : ∀ w, Calls Try.prog 22 #[.agg #[.int .u64 (L0 x), .int .u64 (L1 x), .int .u64 (L2 x), .int .u64 (L3 x)]] w fun e w' => e = .returned (.int .i64 (bl x)) ∧ Below w.heap.size w w' := fun w => bits_k x hx hx' w
  have byy : ∀ w, Calls Try.prog 22 #[.agg #[.int .u64 (L0 y), .int .u64 (L1 y), .int .u64 (L2 y), .int .u64 (L3 y)]] w fun e w' => e = .returned (.int .i64 (bl y)) ∧ Below w.heap.size w w' := fun w => bits_k y hy hy' w
  have heq : ∀ w, (binOp .eql 24 (.agg #[.int .u64 (L0 x), .int .u64 (L1 x), .int .u64 (L2 x), .int .u64 (L3 x)]) (.agg #[.int .u64 (L0 y), .int .u64 (L1 y), .int .u64 (L2 y), .int .u64 (L3 y)])).run Try.prog w = .ok (.bool false) w := fun w => by
    have := eq_run x y w
    rw [m_of x hx hx', m_of y hy hy', show (x == y) = false by simp; omega] at this
    exact this
  have hne : ∀ w, (binOp .neq 24 (.agg #[.int .u64 (L0 x), .int .u64 (L1 x), .int .u64 (L2 x), .int .u64 (L3 x)]) (.agg #[.int .u64 (L0 y), .int .u64 (L1 y), .int .u64 (L2 y), .int .u64 (L3 y)])).run Try.prog w = .ok (.bool true) w := fun w => by
    have := neq_run x y w
    rw [m_of x hx hx', m_of y hy hy', show (!(x == y)) = true by simp; omega] at this
    exact this
  have hge : decide (bl y ≤ bl x) = false := by simp; omega
  have HGE := Lib.hid hge
  clear hge hx hx' hy hy' hz hz2 h hyz hbl
  unfold big
  go_enter Try.func7, Try.ntmps7
  go_upto_region 1 with (fail)
  refine wp_gen (fun W => Cells4 W w.heap.size x ∧ Cells4 W (w.heap.size + 1) y ∧ Cells4 W (w.heap.size + 1 + 1) z ∧ Below w.heap.size w W) ⟨?_, ?_, ?_, ?_⟩ ?_
  · exact ((cells4_new w x).alloc _).alloc _
  · exact (cells4_new' (w.alloc _) _ y (by simp)).alloc _
  · exact cells4_new' ((w.alloc _).alloc _) _ z (by simp)
  · exact bel_alloc (bel_alloc (bel_alloc (Below.refl _ _) _) _) _
  rintro W ⟨c1, c2, c3, hB⟩
  obtain ⟨a0, a1, a2, a3, -, -, -, -⟩ := id c1
  obtain ⟨b0, b1, b2, b3, -, -, -, -⟩ := id c2
  go_upto_region 2 with (go_at_call 29; with_reducible refine (lab _).mono ?_; rintro e w1 ⟨rfl, hb1⟩)
  refine wp_gen (fun W => Cells4 W w.heap.size x ∧ Cells4 W (w.heap.size + 1) y ∧ Cells4 W (w.heap.size + 1 + 1) z ∧ Below w.heap.size w W) ⟨c1.below hb1 c1.lt, c2.below hb1 c2.lt, c3.below hb1 c3.lt, bel_call hB hb1⟩ ?_
  clear a0 a1 a2 a3 b0 b1 b2 b3 hb1 hB c1 c2 c3 w1
  clear W
  rintro W ⟨c1, c2, c3, hB⟩
  obtain ⟨a0, a1, a2, a3, -, -, -, -⟩ := id c1
  obtain ⟨b0, b1, b2, b3, -, -, -, -⟩ := id c2
  go_upto_region 3 with (go_at_call 29; with_reducible refine (lba _).mono ?_; rintro e w1 ⟨rfl, hb1⟩)
  refine wp_gen (fun W => Cells4 W w.heap.size x ∧ Cells4 W (w.heap.size + 1) y ∧ Cells4 W (w.heap.size + 1 + 1) z ∧ Below w.heap.size w W) ⟨c1.below hb1 c1.lt, c2.below hb1 c2.lt, c3.below hb1 c3.lt, bel_call hB hb1⟩ ?_
  clear a0 a1 a2 a3 b0 b1 b2 b3 hb1 hB c1 c2 c3 w1
  clear W
  rintro W ⟨c1, c2, c3, hB⟩
  obtain ⟨a0, a1, a2, a3, -, -, -, -⟩ := id c1
  obtain ⟨b0, b1, b2, b3, -, -, -, -⟩ := id c2
  go_upto_region 5 with (fail)
  clear a0 a1 a2 a3 b0 b1 b2 b3
  have k10 := fun d os => (c1.regrown d os).c0
  have k11 := fun d os => (c1.regrown d os).c1
  have k12 := fun d os => (c1.regrown d os).c2
  have k13 := fun d os => (c1.regrown d os).c3
  have k20 := fun d os => (c2.regrown d os).c0
  have k21 := fun d os => (c2.regrown d os).c1
  have k22 := fun d os => (c2.regrown d os).c2
  have k23 := fun d os => (c2.regrown d os).c3
  have k30 := fun d os => (c3.regrown d os).c0
  have k31 := fun d os => (c3.regrown d os).c1
  have k32 := fun d os => (c3.regrown d os).c2
  have k33 := fun d os => (c3.regrown d os).c3
  have qx := quiet_call W bx
  have qy := quiet_call W byy
  have qw := quiet_call W works_c
  have ql0 := quiet_call W lq0
  have ql1 := quiet_call W lq1
  have hge := HGE.out
  refine wp_region_quiet_below (by kernel_rfl) (by kernel_rfl) ?_
  repeat (go_big_quiet_step ((first | with_reducible exact qx _ _ | with_reducible exact qy _ _ | with_reducible exact qw _ _ | with_reducible exact ql0 _ _ | with_reducible exact ql1 _ _)))
  refine wpQuiet_nil ?_
  intro W1 hw'
  have hB1 : Below w.heap.size w W1 := by obtain ⟨p, rfl⟩ := hw'; exact hB.trans ((below_regrown W _ _).mono hB.size)
  clear hw'
  go_wp2
  go_ret
  exact ⟨rfl, hB1⟩

theorem bigOrder.walk (x y z : Int) (hx : 0 ≤ x) (hx' : x < M) (hy : 0 ≤ y) (hy' : y < M) (hz : 0 ≤ z) (hz' : z < M) (w : World) :
    Calls Try.prog 7 #[big x, big y, big z] w fun e w' => e = .returned (.bool true) ∧ Below w.heap.size w w' := by
  by_cases h1 : x = y
  · exact ord_eq x y z hx hx' hy hy' h1 (bl_mono y x hy (by omega)) w
  · by_cases h2 : x < y
    · by_cases h3 : y < z
      · by_cases h4 : bl y ≤ bl x
        · exact ord_lt_yes_true x y z hx hx' hy hy' hz hz' h2 h3 h4 w
        · exact ord_lt_yes_false x y z hx hx' hy hy' hz hz' h2 h3 (by omega) w
      · by_cases h4 : bl y ≤ bl x
        · exact ord_lt_no_true x y z hx hx' hy hy' hz hz' h2 (by omega) h4 w
        · exact ord_lt_no_false x y z hx hx' hy hy' hz hz' h2 (by omega) (by omega) w
    · exact ord_gt x y z hx hx' hy hy' (by omega) (bl_mono y x hy (by omega)) w
end Go.Proofs.Ytefnlmiephombaa
