/- The walk of chapter 3's anchor, from its calls' answers. -/
import Derived.Test.YtefnlmiephombaaTl
namespace Go.Proofs.Ytefnlmiephombaa
open Go.RowKit Go.Sort

set_option maxRecDepth 100000 in
set_option maxHeartbeats 4000000 in
theorem works3_w (t f q : Int) (w : World)
    (k1 : ∀ w, Calls Try.prog 37 #[.int .u32 486604799] w fun e w' => e = .returned (.tuple #[.agg #[.int .u64 (L0 t), .int .u64 (L1 t), .int .u64 (L2 t), .int .u64 (L3 t)], .bool true]) ∧ Below w.heap.size w w')
    (k2 : ∀ w, Calls Try.prog 37 #[.int .u32 17104896] w fun e w' => e = .returned (.tuple #[.agg #[.int .u64 (L0 f), .int .u64 (L1 f), .int .u64 (L2 f), .int .u64 (L3 f)], .bool true]) ∧ Below w.heap.size w w')
    (k3 : ∀ w, Calls Try.prog 37 #[.int .u32 0] w fun e w' => e = .returned (.tuple #[.agg #[.int .u64 (L0 0), .int .u64 (L1 0), .int .u64 (L2 0), .int .u64 (L3 0)], .bool false]) ∧ Below w.heap.size w w')
    (k4 : ∀ w, Calls Try.prog 37 #[.int .u32 58720261] w fun e w' => e = .returned (.tuple #[.agg #[.int .u64 (L0 0), .int .u64 (L1 0), .int .u64 (L2 0), .int .u64 (L3 0)], .bool false]) ∧ Below w.heap.size w w')
    (k5 : ∀ w, Calls Try.prog 37 #[.int .u32 587202561] w fun e w' => e = .returned (.tuple #[.agg #[.int .u64 (L0 0), .int .u64 (L1 0), .int .u64 (L2 0), .int .u64 (L3 0)], .bool false]) ∧ Below w.heap.size w w')
    (ku : ∀ w, Calls Try.prog 17 #[.agg #[.int .u64 65535, .int .u64 0, .int .u64 0, .int .u64 0], .int .i64 208] w fun e w' => e = .returned (.agg #[.int .u64 (L0 t), .int .u64 (L1 t), .int .u64 (L2 t), .int .u64 (L3 t)]) ∧ Below w.heap.size w w')
    (kc : ∀ w, Calls Try.prog 39 #[.agg #[.int .u64 (L0 t), .int .u64 (L1 t), .int .u64 (L2 t), .int .u64 (L3 t)]] w fun e w' => e = .returned (.int .u32 486604799) ∧ Below w.heap.size w w')
    (kd : ∀ w, Calls Try.prog 39 #[.agg #[.int .u64 128, .int .u64 0, .int .u64 0, .int .u64 0]] w fun e w' => e = .returned (.int .u32 33587200) ∧ Below w.heap.size w w')
    (kw : ∀ w, Calls Try.prog 42 #[.agg #[.int .u64 (L0 t), .int .u64 (L1 t), .int .u64 (L2 t), .int .u64 (L3 t)]] w fun e w' => e = .returned (.agg #[.int .u64 (L0 q), .int .u64 (L1 q), .int .u64 (L2 q), .int .u64 (L3 q)]) ∧ Below w.heap.size w w')
    (n1 : ∀ w, (binOp .eql 24 (.agg #[.int .u64 (L0 t), .int .u64 (L1 t), .int .u64 (L2 t), .int .u64 (L3 t)]) (.agg #[.int .u64 (L0 t), .int .u64 (L1 t), .int .u64 (L2 t), .int .u64 (L3 t)])).run Try.prog w = .ok (.bool true) w)
    (n2 : ∀ w, (binOp .eql 24 (.agg #[.int .u64 (L0 f), .int .u64 (L1 f), .int .u64 (L2 f), .int .u64 (L3 f)]) (.agg #[.int .u64 5, .int .u64 0, .int .u64 0, .int .u64 0])).run Try.prog w = .ok (.bool true) w)
    (n3 : ∀ w, (binOp .eql 24 (.agg #[.int .u64 (L0 q), .int .u64 (L1 q), .int .u64 (L2 q), .int .u64 (L3 q)]) (.agg #[.int .u64 4295032833, .int .u64 0, .int .u64 0, .int .u64 0])).run Try.prog w = .ok (.bool true) w)
    : Calls Try.prog 41 #[] w fun e w' => e = .returned (.bool true) ∧ Below w.heap.size w w' := by
  go_enter Try.func41, Try.ntmps41
  go_upto_region 1 with (fail)
  refine wp_gen (fun W => Below w.heap.size w W) (Below.refl _ _) ?_
  intro W hB
  go_upto_region 2 with (first | (go_at_call 37; with_reducible refine (k1 _).mono ?_; rintro e w1 ⟨rfl, hb1⟩))
  refine wp_gen (fun W => Cells4 W (w1.heap.size) t ∧ Below w.heap.size w W) ⟨cells4_new _ _, bel_alloc (bel_call (hB) hb1) _⟩ ?_
  clear hb1 hB 
  generalize w1.heap.size = b1
  clear w1 W
  rintro W ⟨c0, hB⟩
  go_upto_region 3 with (first | (go_at_call 37; with_reducible refine (k2 _).mono ?_; rintro e w1 ⟨rfl, hb1⟩))
  have l0 := c0.lt
  refine wp_gen (fun W => Cells4 W b1 t ∧ Cells4 W (w1.heap.size) f ∧ Below w.heap.size w W) ⟨((c0.below hb1 l0).alloc _), cells4_new _ _, bel_alloc (bel_call (hB) hb1) _⟩ ?_
  clear hb1 l0 c0 hB 
  generalize w1.heap.size = b2
  clear w1 W
  rintro W ⟨c0, c1, hB⟩
  go_upto_region 4 with (first | (go_at_call 37; with_reducible refine (k3 _).mono ?_; rintro e w1 ⟨rfl, hb1⟩))
  have l0 := c0.lt
  have l1 := c1.lt
  refine wp_gen (fun W => Cells4 W b1 t ∧ Cells4 W b2 f ∧ Cells4 W (w1.heap.size) 0 ∧ Below w.heap.size w W) ⟨((c0.below hb1 l0).alloc _), ((c1.below hb1 l1).alloc _), cells4_new _ _, bel_alloc (bel_call (hB) hb1) _⟩ ?_
  clear hb1 l0 l1 c0 c1 hB 
  generalize w1.heap.size = b3
  clear w1 W
  rintro W ⟨c0, c1, c2, hB⟩
  go_upto_region 5 with (first | (go_at_call 37; with_reducible refine (k4 _).mono ?_; rintro e w1 ⟨rfl, hb1⟩))
  have l0 := c0.lt
  have l1 := c1.lt
  have l2 := c2.lt
  refine wp_gen (fun W => Cells4 W b1 t ∧ Cells4 W b2 f ∧ Cells4 W b3 0 ∧ Cells4 W (w1.heap.size) 0 ∧ Below w.heap.size w W) ⟨((c0.below hb1 l0).alloc _), ((c1.below hb1 l1).alloc _), ((c2.below hb1 l2).alloc _), cells4_new _ _, bel_alloc (bel_call (hB) hb1) _⟩ ?_
  clear hb1 l0 l1 l2 c0 c1 c2 hB 
  generalize w1.heap.size = b4
  clear w1 W
  rintro W ⟨c0, c1, c2, c3, hB⟩
  go_upto_region 6 with (first | (go_at_call 37; with_reducible refine (k5 _).mono ?_; rintro e w1 ⟨rfl, hb1⟩))
  have l0 := c0.lt
  have l1 := c1.lt
  have l2 := c2.lt
  have l3 := c3.lt
  refine wp_gen (fun W => Cells4 W b1 t ∧ Cells4 W b2 f ∧ Cells4 W b3 0 ∧ Cells4 W b4 0 ∧ Cells4 W (w1.heap.size) 0 ∧ Below w.heap.size w W) ⟨((c0.below hb1 l0).alloc _), ((c1.below hb1 l1).alloc _), ((c2.below hb1 l2).alloc _), ((c3.below hb1 l3).alloc _), cells4_new _ _, bel_alloc (bel_call (hB) hb1) _⟩ ?_
  clear hb1 l0 l1 l2 l3 c0 c1 c2 c3 hB 
  generalize w1.heap.size = b5
  clear w1 W
  rintro W ⟨c0, c1, c2, c3, c4, hB⟩
  have k00 := fun d os => (c0.regrown d os).c0
  have k01 := fun d os => (c0.regrown d os).c1
  have k02 := fun d os => (c0.regrown d os).c2
  have k03 := fun d os => (c0.regrown d os).c3
  have k10 := fun d os => (c1.regrown d os).c0
  have k11 := fun d os => (c1.regrown d os).c1
  have k12 := fun d os => (c1.regrown d os).c2
  have k13 := fun d os => (c1.regrown d os).c3
  have q0 := quiet_call W ku
  have q1 := quiet_call W kc
  have q2 := quiet_call W kd
  have q3 := quiet_call W kw
  refine wp_region_quiet_below (by kernel_rfl) (by kernel_rfl) ?_
  repeat (go_big_quiet_step ((first | with_reducible exact q0 _ _ | with_reducible exact q1 _ _ | with_reducible exact q2 _ _ | with_reducible exact q3 _ _)))
  refine wpQuiet_nil ?_
  intro W1 hw'
  have hB1 : Below w.heap.size w W1 := by obtain ⟨p, rfl⟩ := hw'; exact hB.trans ((below_regrown W _ _).mono hB.size)
  clear hw'
  go_wp2
  go_ret
  exact ⟨rfl, hB1⟩
end Go.Proofs.Ytefnlmiephombaa
