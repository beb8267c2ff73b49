/- The walk of TargetShort, from its calls' answers. -/
import Derived.Test.YtefnlmiephombaaTl
namespace Go.Proofs.Ytefnlmiephombaa
open Go.RowKit Go.Sort

set_option maxRecDepth 100000 in
set_option maxHeartbeats 4000000 in
theorem short_zt (t u : Int) (w : World)
    (n1 : ∀ w, (binOp .eql 24 (.agg #[.int .u64 (L0 t), .int .u64 (L1 t), .int .u64 (L2 t), .int .u64 (L3 t)]) (.agg #[.int .u64 (L0 0), .int .u64 (L1 0), .int .u64 (L2 0), .int .u64 (L3 0)])).run Try.prog w = .ok (.bool true) w)
    (kc0 : ∀ w, Calls Try.prog 39 #[.agg #[.int .u64 (L0 0), .int .u64 (L1 0), .int .u64 (L2 0), .int .u64 (L3 0)]] w fun e w' => e = .returned (.int .u32 0) ∧ Below w.heap.size w w')
    (k41 : ∀ w, Calls Try.prog 41 #[] w fun e w' => e = .returned (.bool true) ∧ Below w.heap.size w w')
    : Calls Try.prog 11 #[big t, big u] w fun e w' => e = .returned (.bool true) ∧ Below w.heap.size w w' := by
  unfold big
  go_enter Try.func11, Try.ntmps11
  go_upto_region 1 with (fail)
  refine wp_gen (fun W => Cells4 W (w.heap.size) t ∧ Cells4 W (w.heap.size + 1) u ∧ Below w.heap.size w W) ⟨(cells4_new w t).alloc _, cells4_new' (w.alloc _) _ u (by simp), bel_alloc (bel_alloc (Below.refl _ _) _) _⟩ ?_
  rintro W ⟨c0, c1, hB⟩
  go_upto_region 2 with (fail)
  refine wp_gen (fun V => Cells4 V (w.heap.size) t ∧ Cells4 V (w.heap.size + 1) u ∧ Cells4 V W.heap.size 0 ∧ Below w.heap.size w V) ⟨c0.alloc _, c1.alloc _, cells4_zero _, bel_alloc hB _⟩ ?_
  clear c0 c1 hB
  generalize W.heap.size = b1
  clear W
  rintro W ⟨c0, c1, c2, hB⟩
  obtain ⟨x00, x01, x02, x03, -, -, -, -⟩ := id c0
  obtain ⟨x10, x11, x12, x13, -, -, -, -⟩ := id c1
  obtain ⟨x20, x21, x22, x23, -, -, -, -⟩ := id c2
  go_wp2_with (first | (go_at_call 39; with_reducible refine (kc0 _).mono ?_; rintro e w1 ⟨rfl, hb1⟩) | (go_at_call 41; with_reducible refine (k41 _).mono ?_; rintro e w2 ⟨rfl, hb2⟩))
  go_ret
  exact ⟨rfl, bel_call (bel_call hB hb1) hb2⟩

set_option maxRecDepth 100000 in
set_option maxHeartbeats 4000000 in
theorem short_zu (t u : Int) (w : World)
    (n1 : ∀ w, (binOp .eql 24 (.agg #[.int .u64 (L0 t), .int .u64 (L1 t), .int .u64 (L2 t), .int .u64 (L3 t)]) (.agg #[.int .u64 (L0 0), .int .u64 (L1 0), .int .u64 (L2 0), .int .u64 (L3 0)])).run Try.prog w = .ok (.bool false) w)
    (n2 : ∀ w, (binOp .eql 24 (.agg #[.int .u64 (L0 u), .int .u64 (L1 u), .int .u64 (L2 u), .int .u64 (L3 u)]) (.agg #[.int .u64 (L0 0), .int .u64 (L1 0), .int .u64 (L2 0), .int .u64 (L3 0)])).run Try.prog w = .ok (.bool true) w)
    (kc0 : ∀ w, Calls Try.prog 39 #[.agg #[.int .u64 (L0 0), .int .u64 (L1 0), .int .u64 (L2 0), .int .u64 (L3 0)]] w fun e w' => e = .returned (.int .u32 0) ∧ Below w.heap.size w w')
    (k41 : ∀ w, Calls Try.prog 41 #[] w fun e w' => e = .returned (.bool true) ∧ Below w.heap.size w w')
    : Calls Try.prog 11 #[big t, big u] w fun e w' => e = .returned (.bool true) ∧ Below w.heap.size w w' := by
  unfold big
  go_enter Try.func11, Try.ntmps11
  go_upto_region 1 with (fail)
  refine wp_gen (fun W => Cells4 W (w.heap.size) t ∧ Cells4 W (w.heap.size + 1) u ∧ Below w.heap.size w W) ⟨(cells4_new w t).alloc _, cells4_new' (w.alloc _) _ u (by simp), bel_alloc (bel_alloc (Below.refl _ _) _) _⟩ ?_
  rintro W ⟨c0, c1, hB⟩
  go_upto_region 2 with (fail)
  refine wp_gen (fun V => Cells4 V (w.heap.size) t ∧ Cells4 V (w.heap.size + 1) u ∧ Cells4 V W.heap.size 0 ∧ Below w.heap.size w V) ⟨c0.alloc _, c1.alloc _, cells4_zero _, bel_alloc hB _⟩ ?_
  clear c0 c1 hB
  generalize W.heap.size = b1
  clear W
  rintro W ⟨c0, c1, c2, hB⟩
  obtain ⟨x00, x01, x02, x03, -, -, -, -⟩ := id c0
  obtain ⟨x10, x11, x12, x13, -, -, -, -⟩ := id c1
  obtain ⟨x20, x21, x22, x23, -, -, -, -⟩ := id c2
  go_wp2_with (first | (go_at_call 39; with_reducible refine (kc0 _).mono ?_; rintro e w1 ⟨rfl, hb1⟩) | (go_at_call 41; with_reducible refine (k41 _).mono ?_; rintro e w2 ⟨rfl, hb2⟩))
  go_ret
  exact ⟨rfl, bel_call (bel_call hB hb1) hb2⟩

set_option maxRecDepth 100000 in
set_option maxHeartbeats 4000000 in
theorem short_less (t u s d b b2 y lt ld : Int) (ls : Bool) (w : World) (hl0 : 0 ≤ lt) (hl1 : lt ≤ 256) (hd : ld ≤ max 0 (lt - 15))
    (n1 : ∀ w, (binOp .eql 24 (.agg #[.int .u64 (L0 t), .int .u64 (L1 t), .int .u64 (L2 t), .int .u64 (L3 t)]) (.agg #[.int .u64 (L0 0), .int .u64 (L1 0), .int .u64 (L2 0), .int .u64 (L3 0)])).run Try.prog w = .ok (.bool false) w)
    (n2 : ∀ w, (binOp .eql 24 (.agg #[.int .u64 (L0 u), .int .u64 (L1 u), .int .u64 (L2 u), .int .u64 (L3 u)]) (.agg #[.int .u64 (L0 0), .int .u64 (L1 0), .int .u64 (L2 0), .int .u64 (L3 0)])).run Try.prog w = .ok (.bool false) w)
    (kct : ∀ w, Calls Try.prog 39 #[.agg #[.int .u64 (L0 t), .int .u64 (L1 t), .int .u64 (L2 t), .int .u64 (L3 t)]] w fun e w' => e = .returned (.int .u32 b) ∧ Below w.heap.size w w')
    (kof : ∀ w, Calls Try.prog 37 #[.int .u32 b] w fun e w' => e = .returned (.tuple #[.agg #[.int .u64 (L0 s), .int .u64 (L1 s), .int .u64 (L2 s), .int .u64 (L3 s)], .bool true]) ∧ Below w.heap.size w w')
    (kls : ∀ w, Calls Try.prog 29 #[.agg #[.int .u64 (L0 t), .int .u64 (L1 t), .int .u64 (L2 t), .int .u64 (L3 t)], .agg #[.int .u64 (L0 s), .int .u64 (L1 s), .int .u64 (L2 s), .int .u64 (L3 s)]] w fun e w' => e = .returned (.bool false) ∧ Below w.heap.size w w')
    (kcs : ∀ w, Calls Try.prog 39 #[.agg #[.int .u64 (L0 s), .int .u64 (L1 s), .int .u64 (L2 s), .int .u64 (L3 s)]] w fun e w' => e = .returned (.int .u32 b) ∧ Below w.heap.size w w')
    (ksb : ∀ w, Calls Try.prog 24 #[.agg #[.int .u64 (L0 t), .int .u64 (L1 t), .int .u64 (L2 t), .int .u64 (L3 t)], .agg #[.int .u64 (L0 s), .int .u64 (L1 s), .int .u64 (L2 s), .int .u64 (L3 s)]] w fun e w' => e = .returned (.tuple #[.agg #[.int .u64 (L0 d), .int .u64 (L1 d), .int .u64 (L2 d), .int .u64 (L3 d)], .bool ls]) ∧ Below w.heap.size w w')
    (kbd : ∀ w, Calls Try.prog 22 #[.agg #[.int .u64 (L0 d), .int .u64 (L1 d), .int .u64 (L2 d), .int .u64 (L3 d)]] w fun e w' => e = .returned (.int .i64 ld) ∧ Below w.heap.size w w')
    (kbt : ∀ w, Calls Try.prog 22 #[.agg #[.int .u64 (L0 t), .int .u64 (L1 t), .int .u64 (L2 t), .int .u64 (L3 t)]] w fun e w' => e = .returned (.int .i64 lt) ∧ Below w.heap.size w w')
    (klu : ∀ w, Calls Try.prog 29 #[.agg #[.int .u64 (L0 u), .int .u64 (L1 u), .int .u64 (L2 u), .int .u64 (L3 u)], .agg #[.int .u64 (L0 t), .int .u64 (L1 t), .int .u64 (L2 t), .int .u64 (L3 t)]] w fun e w' => e = .returned (.bool true) ∧ Below w.heap.size w w')
    (kcu : ∀ w, Calls Try.prog 39 #[.agg #[.int .u64 (L0 u), .int .u64 (L1 u), .int .u64 (L2 u), .int .u64 (L3 u)]] w fun e w' => e = .returned (.int .u32 b2) ∧ Below w.heap.size w w')
    (kou : ∀ w, Calls Try.prog 37 #[.int .u32 b2] w fun e w' => e = .returned (.tuple #[.agg #[.int .u64 (L0 y), .int .u64 (L1 y), .int .u64 (L2 y), .int .u64 (L3 y)], .bool true]) ∧ Below w.heap.size w w')
    (kly : ∀ w, Calls Try.prog 29 #[.agg #[.int .u64 (L0 s), .int .u64 (L1 s), .int .u64 (L2 s), .int .u64 (L3 s)], .agg #[.int .u64 (L0 y), .int .u64 (L1 y), .int .u64 (L2 y), .int .u64 (L3 y)]] w fun e w' => e = .returned (.bool false) ∧ Below w.heap.size w w')
    (k41 : ∀ w, Calls Try.prog 41 #[] w fun e w' => e = .returned (.bool true) ∧ Below w.heap.size w w')
    : Calls Try.prog 11 #[big t, big u] w fun e w' => e = .returned (.bool true) ∧ Below w.heap.size w w' := by
  have g1 : IntKind.i64.wrap (lt - 15) = lt - 15 := by rw [IntKind.wrap_i64]; omega
  have g2 : ¬ max 0 (lt - 15) < ld := by omega
  unfold big
  go_enter Try.func11, Try.ntmps11
  go_upto_region 1 with (fail)
  refine wp_gen (fun W => Cells4 W (w.heap.size) t ∧ Cells4 W (w.heap.size + 1) u ∧ Below w.heap.size w W) ⟨(cells4_new w t).alloc _, cells4_new' (w.alloc _) _ u (by simp), bel_alloc (bel_alloc (Below.refl _ _) _) _⟩ ?_
  rintro W ⟨c0, c1, hB⟩
  go_upto_region 2 with (fail)
  refine wp_gen (fun V => Cells4 V (w.heap.size) t ∧ Cells4 V (w.heap.size + 1) u ∧ Cells4 V W.heap.size 0 ∧ Below w.heap.size w V) ⟨c0.alloc _, c1.alloc _, cells4_zero _, bel_alloc hB _⟩ ?_
  clear c0 c1 hB
  generalize W.heap.size = b1
  clear W
  rintro W ⟨c0, c1, c2, hB⟩
  obtain ⟨x00, x01, x02, x03, -, -, -, -⟩ := id c0
  obtain ⟨x10, x11, x12, x13, -, -, -, -⟩ := id c1
  obtain ⟨x20, x21, x22, x23, -, -, -, -⟩ := id c2
  go_upto_region 5 with (first | (go_at_call 39; with_reducible refine (kct _).mono ?_; rintro e w1 ⟨rfl, hb1⟩))
  have l0 := c0.lt
  have l1 := c1.lt
  have l2 := c2.lt
  refine wp_gen (fun W => Cells4 W (w.heap.size) t ∧ Cells4 W (w.heap.size + 1) u ∧ Cells4 W b1 0 ∧ Below w.heap.size w W) ⟨(c0.below hb1 l0), (c1.below hb1 l1), (c2.below hb1 l2), bel_call (hB) hb1⟩ ?_
  clear hb1 l0 l1 l2 c0 c1 c2 hB x00 x01 x02 x03 x10 x11 x12 x13 x20 x21 x22 x23
  clear w1 W
  rintro W ⟨c0, c1, c2, hB⟩
  go_upto_region 6 with (first | (go_at_call 37; with_reducible refine (kof _).mono ?_; rintro e w1 ⟨rfl, hb1⟩))
  have l0 := c0.lt
  have l1 := c1.lt
  have l2 := c2.lt
  refine wp_gen (fun W => Cells4 W (w.heap.size) t ∧ Cells4 W (w.heap.size + 1) u ∧ Cells4 W b1 0 ∧ Cells4 W (w1.heap.size) s ∧ Below w.heap.size w W) ⟨((c0.below hb1 l0).alloc _), ((c1.below hb1 l1).alloc _), ((c2.below hb1 l2).alloc _), cells4_new _ _, bel_alloc (bel_call (hB) hb1) _⟩ ?_
  clear hb1 l0 l1 l2 c0 c1 c2 hB 
  generalize w1.heap.size = b2
  clear w1 W
  rintro W ⟨c0, c1, c2, c3, hB⟩
  obtain ⟨x00, x01, x02, x03, -, -, -, -⟩ := id c0
  obtain ⟨x30, x31, x32, x33, -, -, -, -⟩ := id c3
  go_upto_region 8 with (first | (go_at_call 29; with_reducible refine (kls _).mono ?_; rintro e w1 ⟨rfl, hb1⟩; obtain ⟨y30, y31, y32, y33, -, -, -, -⟩ := id (c3.call hb1)) | (go_at_call 39; with_reducible refine (kcs _).mono ?_; rintro e w2 ⟨rfl, hb2⟩))
  have hs1 := hb1.size
  have l0 := c0.lt
  have l1 := c1.lt
  have l2 := c2.lt
  have l3 := c3.lt
  refine wp_gen (fun W => Cells4 W (w.heap.size) t ∧ Cells4 W (w.heap.size + 1) u ∧ Cells4 W b1 0 ∧ Cells4 W b2 s ∧ Below w.heap.size w W) ⟨((c0.below hb1 l0).below hb2 (by omega)), ((c1.below hb1 l1).below hb2 (by omega)), ((c2.below hb1 l2).below hb2 (by omega)), ((c3.below hb1 l3).below hb2 (by omega)), bel_call (bel_call (hB) hb1) hb2⟩ ?_
  clear y30 y31 y32 y33 hb1 hb2 hs1 l0 l1 l2 l3 c0 c1 c2 c3 hB x00 x01 x02 x03 x30 x31 x32 x33
  clear w1 w2 W
  rintro W ⟨c0, c1, c2, c3, hB⟩
  obtain ⟨x00, x01, x02, x03, -, -, -, -⟩ := id c0
  obtain ⟨x30, x31, x32, x33, -, -, -, -⟩ := id c3
  go_upto_region 9 with (first | (go_at_call 24; with_reducible refine (ksb _).mono ?_; rintro e w1 ⟨rfl, hb1⟩))
  have l0 := c0.lt
  have l1 := c1.lt
  have l2 := c2.lt
  have l3 := c3.lt
  refine wp_gen (fun W => Cells4 W (w.heap.size) t ∧ Cells4 W (w.heap.size + 1) u ∧ Cells4 W b1 0 ∧ Cells4 W b2 s ∧ Cells4 W (w1.heap.size) d ∧ Below w.heap.size w W) ⟨((c0.below hb1 l0).alloc _), ((c1.below hb1 l1).alloc _), ((c2.below hb1 l2).alloc _), ((c3.below hb1 l3).alloc _), cells4_new _ _, bel_alloc (bel_call (hB) hb1) _⟩ ?_
  clear hb1 l0 l1 l2 l3 c0 c1 c2 c3 hB x00 x01 x02 x03 x30 x31 x32 x33
  generalize w1.heap.size = b3
  clear w1 W
  rintro W ⟨c0, c1, c2, c3, c4, hB⟩
  have k00 := fun d os => (c0.regrown d os).c0
  have k01 := fun d os => (c0.regrown d os).c1
  have k02 := fun d os => (c0.regrown d os).c2
  have k03 := fun d os => (c0.regrown d os).c3
  have k40 := fun d os => (c4.regrown d os).c0
  have k41 := fun d os => (c4.regrown d os).c1
  have k42 := fun d os => (c4.regrown d os).c2
  have k43 := fun d os => (c4.regrown d os).c3
  have q0 := quiet_call W kbd
  have q1 := quiet_call W kbt
  refine wp_region_quiet_below (by kernel_rfl) (by kernel_rfl) ?_
  repeat (go_big_quiet_step ((first | with_reducible exact q0 _ _ | with_reducible exact q1 _ _)))
  refine wpQuiet_nil ?_
  intro W1 hw'
  have d0 : Cells4 W1 (w.heap.size) t := by obtain ⟨p, rfl⟩ := hw'; exact c0.regrown _ _
  have d1 : Cells4 W1 (w.heap.size + 1) u := by obtain ⟨p, rfl⟩ := hw'; exact c1.regrown _ _
  have d2 : Cells4 W1 b1 0 := by obtain ⟨p, rfl⟩ := hw'; exact c2.regrown _ _
  have d3 : Cells4 W1 b2 s := by obtain ⟨p, rfl⟩ := hw'; exact c3.regrown _ _
  have d4 : Cells4 W1 b3 d := by obtain ⟨p, rfl⟩ := hw'; exact c4.regrown _ _
  have hB1 : Below w.heap.size w W1 := by obtain ⟨p, rfl⟩ := hw'; exact hB.trans ((below_regrown W _ _).mono hB.size)
  clear hw' k00 k01 k02 k03 k40 k41 k42 k43 q0 q1 hB c0 c1 c2 c3 c4 
  clear W
  go_upto_region 11 with (fail)
  refine wp_gen (fun W => Cells4 W (w.heap.size) t ∧ Cells4 W (w.heap.size + 1) u ∧ Cells4 W b1 0 ∧ Cells4 W b2 s ∧ Cells4 W b3 d ∧ Below w.heap.size w W) ⟨d0, d1, d2, d3, d4, hB1⟩ ?_
  clear d0 d1 d2 d3 d4 hB1
  clear W1
  rintro W ⟨c0, c1, c2, c3, c4, hB⟩
  obtain ⟨x00, x01, x02, x03, -, -, -, -⟩ := id c0
  obtain ⟨x10, x11, x12, x13, -, -, -, -⟩ := id c1
  go_upto_region 12 with (first | (go_at_call 29; with_reducible refine (klu _).mono ?_; rintro e w1 ⟨rfl, hb1⟩))
  have l0 := c0.lt
  have l1 := c1.lt
  have l2 := c2.lt
  have l3 := c3.lt
  have l4 := c4.lt
  refine wp_gen (fun W => Cells4 W (w.heap.size) t ∧ Cells4 W (w.heap.size + 1) u ∧ Cells4 W b1 0 ∧ Cells4 W b2 s ∧ Cells4 W b3 d ∧ Below w.heap.size w W) ⟨(c0.below hb1 l0), (c1.below hb1 l1), (c2.below hb1 l2), (c3.below hb1 l3), (c4.below hb1 l4), bel_call (hB) hb1⟩ ?_
  clear hb1 l0 l1 l2 l3 l4 c0 c1 c2 c3 c4 hB x00 x01 x02 x03 x10 x11 x12 x13
  clear w1 W
  rintro W ⟨c0, c1, c2, c3, c4, hB⟩
  obtain ⟨x10, x11, x12, x13, -, -, -, -⟩ := id c1
  go_upto_region 13 with (first | (go_at_call 39; with_reducible refine (kcu _).mono ?_; rintro e w1 ⟨rfl, hb1⟩) | (go_at_call 37; with_reducible refine (kou _).mono ?_; rintro e w2 ⟨rfl, hb2⟩))
  have hs1 := hb1.size
  have l0 := c0.lt
  have l1 := c1.lt
  have l2 := c2.lt
  have l3 := c3.lt
  have l4 := c4.lt
  refine wp_gen (fun W => Cells4 W (w.heap.size) t ∧ Cells4 W (w.heap.size + 1) u ∧ Cells4 W b1 0 ∧ Cells4 W b2 s ∧ Cells4 W b3 d ∧ Cells4 W (w2.heap.size) y ∧ Below w.heap.size w W) ⟨(((c0.below hb1 l0).below hb2 (by omega)).alloc _), (((c1.below hb1 l1).below hb2 (by omega)).alloc _), (((c2.below hb1 l2).below hb2 (by omega)).alloc _), (((c3.below hb1 l3).below hb2 (by omega)).alloc _), (((c4.below hb1 l4).below hb2 (by omega)).alloc _), cells4_new _ _, bel_alloc (bel_call (bel_call (hB) hb1) hb2) _⟩ ?_
  clear hb1 hb2 hs1 l0 l1 l2 l3 l4 c0 c1 c2 c3 c4 hB x10 x11 x12 x13
  generalize w2.heap.size = b4
  clear w1 w2 W
  rintro W ⟨c0, c1, c2, c3, c4, c5, hB⟩
  obtain ⟨x30, x31, x32, x33, -, -, -, -⟩ := id c3
  obtain ⟨x50, x51, x52, x53, -, -, -, -⟩ := id c5
  go_wp2_with (first | (go_at_call 29; with_reducible refine (kly _).mono ?_; rintro e w1 ⟨rfl, hb1⟩) | (go_at_call 41; with_reducible refine (k41 _).mono ?_; rintro e w2 ⟨rfl, hb2⟩))
  go_ret
  exact ⟨rfl, bel_call (bel_call hB hb1) hb2⟩

set_option maxRecDepth 100000 in
set_option maxHeartbeats 4000000 in
theorem short_more (t u s d b lt ld : Int) (ls : Bool) (w : World) (hl0 : 0 ≤ lt) (hl1 : lt ≤ 256) (hd : ld ≤ max 0 (lt - 15))
    (n1 : ∀ w, (binOp .eql 24 (.agg #[.int .u64 (L0 t), .int .u64 (L1 t), .int .u64 (L2 t), .int .u64 (L3 t)]) (.agg #[.int .u64 (L0 0), .int .u64 (L1 0), .int .u64 (L2 0), .int .u64 (L3 0)])).run Try.prog w = .ok (.bool false) w)
    (n2 : ∀ w, (binOp .eql 24 (.agg #[.int .u64 (L0 u), .int .u64 (L1 u), .int .u64 (L2 u), .int .u64 (L3 u)]) (.agg #[.int .u64 (L0 0), .int .u64 (L1 0), .int .u64 (L2 0), .int .u64 (L3 0)])).run Try.prog w = .ok (.bool false) w)
    (kct : ∀ w, Calls Try.prog 39 #[.agg #[.int .u64 (L0 t), .int .u64 (L1 t), .int .u64 (L2 t), .int .u64 (L3 t)]] w fun e w' => e = .returned (.int .u32 b) ∧ Below w.heap.size w w')
    (kof : ∀ w, Calls Try.prog 37 #[.int .u32 b] w fun e w' => e = .returned (.tuple #[.agg #[.int .u64 (L0 s), .int .u64 (L1 s), .int .u64 (L2 s), .int .u64 (L3 s)], .bool true]) ∧ Below w.heap.size w w')
    (kls : ∀ w, Calls Try.prog 29 #[.agg #[.int .u64 (L0 t), .int .u64 (L1 t), .int .u64 (L2 t), .int .u64 (L3 t)], .agg #[.int .u64 (L0 s), .int .u64 (L1 s), .int .u64 (L2 s), .int .u64 (L3 s)]] w fun e w' => e = .returned (.bool false) ∧ Below w.heap.size w w')
    (kcs : ∀ w, Calls Try.prog 39 #[.agg #[.int .u64 (L0 s), .int .u64 (L1 s), .int .u64 (L2 s), .int .u64 (L3 s)]] w fun e w' => e = .returned (.int .u32 b) ∧ Below w.heap.size w w')
    (ksb : ∀ w, Calls Try.prog 24 #[.agg #[.int .u64 (L0 t), .int .u64 (L1 t), .int .u64 (L2 t), .int .u64 (L3 t)], .agg #[.int .u64 (L0 s), .int .u64 (L1 s), .int .u64 (L2 s), .int .u64 (L3 s)]] w fun e w' => e = .returned (.tuple #[.agg #[.int .u64 (L0 d), .int .u64 (L1 d), .int .u64 (L2 d), .int .u64 (L3 d)], .bool ls]) ∧ Below w.heap.size w w')
    (kbd : ∀ w, Calls Try.prog 22 #[.agg #[.int .u64 (L0 d), .int .u64 (L1 d), .int .u64 (L2 d), .int .u64 (L3 d)]] w fun e w' => e = .returned (.int .i64 ld) ∧ Below w.heap.size w w')
    (kbt : ∀ w, Calls Try.prog 22 #[.agg #[.int .u64 (L0 t), .int .u64 (L1 t), .int .u64 (L2 t), .int .u64 (L3 t)]] w fun e w' => e = .returned (.int .i64 lt) ∧ Below w.heap.size w w')
    (klu : ∀ w, Calls Try.prog 29 #[.agg #[.int .u64 (L0 u), .int .u64 (L1 u), .int .u64 (L2 u), .int .u64 (L3 u)], .agg #[.int .u64 (L0 t), .int .u64 (L1 t), .int .u64 (L2 t), .int .u64 (L3 t)]] w fun e w' => e = .returned (.bool false) ∧ Below w.heap.size w w')
    (k41 : ∀ w, Calls Try.prog 41 #[] w fun e w' => e = .returned (.bool true) ∧ Below w.heap.size w w')
    : Calls Try.prog 11 #[big t, big u] w fun e w' => e = .returned (.bool true) ∧ Below w.heap.size w w' := by
  have g1 : IntKind.i64.wrap (lt - 15) = lt - 15 := by rw [IntKind.wrap_i64]; omega
  have g2 : ¬ max 0 (lt - 15) < ld := by omega
  unfold big
  go_enter Try.func11, Try.ntmps11
  go_upto_region 1 with (fail)
  refine wp_gen (fun W => Cells4 W (w.heap.size) t ∧ Cells4 W (w.heap.size + 1) u ∧ Below w.heap.size w W) ⟨(cells4_new w t).alloc _, cells4_new' (w.alloc _) _ u (by simp), bel_alloc (bel_alloc (Below.refl _ _) _) _⟩ ?_
  rintro W ⟨c0, c1, hB⟩
  go_upto_region 2 with (fail)
  refine wp_gen (fun V => Cells4 V (w.heap.size) t ∧ Cells4 V (w.heap.size + 1) u ∧ Cells4 V W.heap.size 0 ∧ Below w.heap.size w V) ⟨c0.alloc _, c1.alloc _, cells4_zero _, bel_alloc hB _⟩ ?_
  clear c0 c1 hB
  generalize W.heap.size = b1
  clear W
  rintro W ⟨c0, c1, c2, hB⟩
  obtain ⟨x00, x01, x02, x03, -, -, -, -⟩ := id c0
  obtain ⟨x10, x11, x12, x13, -, -, -, -⟩ := id c1
  obtain ⟨x20, x21, x22, x23, -, -, -, -⟩ := id c2
  go_upto_region 5 with (first | (go_at_call 39; with_reducible refine (kct _).mono ?_; rintro e w1 ⟨rfl, hb1⟩))
  have l0 := c0.lt
  have l1 := c1.lt
  have l2 := c2.lt
  refine wp_gen (fun W => Cells4 W (w.heap.size) t ∧ Cells4 W (w.heap.size + 1) u ∧ Cells4 W b1 0 ∧ Below w.heap.size w W) ⟨(c0.below hb1 l0), (c1.below hb1 l1), (c2.below hb1 l2), bel_call (hB) hb1⟩ ?_
  clear hb1 l0 l1 l2 c0 c1 c2 hB x00 x01 x02 x03 x10 x11 x12 x13 x20 x21 x22 x23
  clear w1 W
  rintro W ⟨c0, c1, c2, hB⟩
  go_upto_region 6 with (first | (go_at_call 37; with_reducible refine (kof _).mono ?_; rintro e w1 ⟨rfl, hb1⟩))
  have l0 := c0.lt
  have l1 := c1.lt
  have l2 := c2.lt
  refine wp_gen (fun W => Cells4 W (w.heap.size) t ∧ Cells4 W (w.heap.size + 1) u ∧ Cells4 W b1 0 ∧ Cells4 W (w1.heap.size) s ∧ Below w.heap.size w W) ⟨((c0.below hb1 l0).alloc _), ((c1.below hb1 l1).alloc _), ((c2.below hb1 l2).alloc _), cells4_new _ _, bel_alloc (bel_call (hB) hb1) _⟩ ?_
  clear hb1 l0 l1 l2 c0 c1 c2 hB 
  generalize w1.heap.size = b2
  clear w1 W
  rintro W ⟨c0, c1, c2, c3, hB⟩
  obtain ⟨x00, x01, x02, x03, -, -, -, -⟩ := id c0
  obtain ⟨x30, x31, x32, x33, -, -, -, -⟩ := id c3
  go_upto_region 8 with (first | (go_at_call 29; with_reducible refine (kls _).mono ?_; rintro e w1 ⟨rfl, hb1⟩; obtain ⟨y30, y31, y32, y33, -, -, -, -⟩ := id (c3.call hb1)) | (go_at_call 39; with_reducible refine (kcs _).mono ?_; rintro e w2 ⟨rfl, hb2⟩))
  have hs1 := hb1.size
  have l0 := c0.lt
  have l1 := c1.lt
  have l2 := c2.lt
  have l3 := c3.lt
  refine wp_gen (fun W => Cells4 W (w.heap.size) t ∧ Cells4 W (w.heap.size + 1) u ∧ Cells4 W b1 0 ∧ Cells4 W b2 s ∧ Below w.heap.size w W) ⟨((c0.below hb1 l0).below hb2 (by omega)), ((c1.below hb1 l1).below hb2 (by omega)), ((c2.below hb1 l2).below hb2 (by omega)), ((c3.below hb1 l3).below hb2 (by omega)), bel_call (bel_call (hB) hb1) hb2⟩ ?_
  clear y30 y31 y32 y33 hb1 hb2 hs1 l0 l1 l2 l3 c0 c1 c2 c3 hB x00 x01 x02 x03 x30 x31 x32 x33
  clear w1 w2 W
  rintro W ⟨c0, c1, c2, c3, hB⟩
  obtain ⟨x00, x01, x02, x03, -, -, -, -⟩ := id c0
  obtain ⟨x30, x31, x32, x33, -, -, -, -⟩ := id c3
  go_upto_region 9 with (first | (go_at_call 24; with_reducible refine (ksb _).mono ?_; rintro e w1 ⟨rfl, hb1⟩))
  have l0 := c0.lt
  have l1 := c1.lt
  have l2 := c2.lt
  have l3 := c3.lt
  refine wp_gen (fun W => Cells4 W (w.heap.size) t ∧ Cells4 W (w.heap.size + 1) u ∧ Cells4 W b1 0 ∧ Cells4 W b2 s ∧ Cells4 W (w1.heap.size) d ∧ Below w.heap.size w W) ⟨((c0.below hb1 l0).alloc _), ((c1.below hb1 l1).alloc _), ((c2.below hb1 l2).alloc _), ((c3.below hb1 l3).alloc _), cells4_new _ _, bel_alloc (bel_call (hB) hb1) _⟩ ?_
  clear hb1 l0 l1 l2 l3 c0 c1 c2 c3 hB x00 x01 x02 x03 x30 x31 x32 x33
  generalize w1.heap.size = b3
  clear w1 W
  rintro W ⟨c0, c1, c2, c3, c4, hB⟩
  have k00 := fun d os => (c0.regrown d os).c0
  have k01 := fun d os => (c0.regrown d os).c1
  have k02 := fun d os => (c0.regrown d os).c2
  have k03 := fun d os => (c0.regrown d os).c3
  have k40 := fun d os => (c4.regrown d os).c0
  have k41 := fun d os => (c4.regrown d os).c1
  have k42 := fun d os => (c4.regrown d os).c2
  have k43 := fun d os => (c4.regrown d os).c3
  have q0 := quiet_call W kbd
  have q1 := quiet_call W kbt
  refine wp_region_quiet_below (by kernel_rfl) (by kernel_rfl) ?_
  repeat (go_big_quiet_step ((first | with_reducible exact q0 _ _ | with_reducible exact q1 _ _)))
  refine wpQuiet_nil ?_
  intro W1 hw'
  have d0 : Cells4 W1 (w.heap.size) t := by obtain ⟨p, rfl⟩ := hw'; exact c0.regrown _ _
  have d1 : Cells4 W1 (w.heap.size + 1) u := by obtain ⟨p, rfl⟩ := hw'; exact c1.regrown _ _
  have d2 : Cells4 W1 b1 0 := by obtain ⟨p, rfl⟩ := hw'; exact c2.regrown _ _
  have d3 : Cells4 W1 b2 s := by obtain ⟨p, rfl⟩ := hw'; exact c3.regrown _ _
  have d4 : Cells4 W1 b3 d := by obtain ⟨p, rfl⟩ := hw'; exact c4.regrown _ _
  have hB1 : Below w.heap.size w W1 := by obtain ⟨p, rfl⟩ := hw'; exact hB.trans ((below_regrown W _ _).mono hB.size)
  clear hw' k00 k01 k02 k03 k40 k41 k42 k43 q0 q1 hB c0 c1 c2 c3 c4 
  clear W
  go_upto_region 11 with (fail)
  refine wp_gen (fun W => Cells4 W (w.heap.size) t ∧ Cells4 W (w.heap.size + 1) u ∧ Cells4 W b1 0 ∧ Cells4 W b2 s ∧ Cells4 W b3 d ∧ Below w.heap.size w W) ⟨d0, d1, d2, d3, d4, hB1⟩ ?_
  clear d0 d1 d2 d3 d4 hB1
  clear W1
  rintro W ⟨c0, c1, c2, c3, c4, hB⟩
  obtain ⟨x00, x01, x02, x03, -, -, -, -⟩ := id c0
  obtain ⟨x10, x11, x12, x13, -, -, -, -⟩ := id c1
  go_upto_region 14 with (first | (go_at_call 29; with_reducible refine (klu _).mono ?_; rintro e w1 ⟨rfl, hb1⟩))
  have l0 := c0.lt
  have l1 := c1.lt
  have l2 := c2.lt
  have l3 := c3.lt
  have l4 := c4.lt
  refine wp_gen (fun W => Cells4 W (w.heap.size) t ∧ Cells4 W (w.heap.size + 1) u ∧ Cells4 W b1 0 ∧ Cells4 W b2 s ∧ Cells4 W b3 d ∧ Below w.heap.size w W) ⟨(c0.below hb1 l0), (c1.below hb1 l1), (c2.below hb1 l2), (c3.below hb1 l3), (c4.below hb1 l4), bel_call (hB) hb1⟩ ?_
  clear hb1 l0 l1 l2 l3 l4 c0 c1 c2 c3 c4 hB x00 x01 x02 x03 x10 x11 x12 x13
  clear w1 W
  rintro W ⟨c0, c1, c2, c3, c4, hB⟩
  go_wp2_with (first | (go_at_call 41; with_reducible refine (k41 _).mono ?_; rintro e w2 ⟨rfl, hb2⟩))
  go_ret
  exact ⟨rfl, bel_call hB hb2⟩
end Go.Proofs.Ytefnlmiephombaa
