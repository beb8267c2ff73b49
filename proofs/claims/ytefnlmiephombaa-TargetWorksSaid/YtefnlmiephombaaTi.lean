/- The walk of TargetBits, from its calls' answers. -/
import Derived.Test.YtefnlmiephombaaTl
namespace Go.Proofs.Ytefnlmiephombaa
open Go.RowKit Go.Sort

set_option maxRecDepth 100000 in
set_option maxHeartbeats 4000000 in
theorem tbits_true (b x v c : Int) (w : World)
    (k37 : ∀ w, Calls Try.prog 37 #[.int .u32 b] w fun e w' => e = .returned (.tuple #[.agg #[.int .u64 (L0 v), .int .u64 (L1 v), .int .u64 (L2 v), .int .u64 (L3 v)], .bool true]) ∧ Below w.heap.size w w')
    (k38 : ∀ w, Calls Try.prog 38 #[.int .u32 b] w fun e w' => e = .returned (.tuple #[.agg #[.int .u64 (L0 v), .int .u64 (L1 v), .int .u64 (L2 v), .int .u64 (L3 v)], .bool true]) ∧ Below w.heap.size w w')
    (k39 : ∀ w, Calls Try.prog 39 #[.agg #[.int .u64 (L0 x), .int .u64 (L1 x), .int .u64 (L2 x), .int .u64 (L3 x)]] w fun e w' => e = .returned (.int .u32 c) ∧ Below w.heap.size w w')
    (k40 : ∀ w, Calls Try.prog 40 #[.agg #[.int .u64 (L0 x), .int .u64 (L1 x), .int .u64 (L2 x), .int .u64 (L3 x)]] w fun e w' => e = .returned (.int .u32 c) ∧ Below w.heap.size w w')
    (k41 : ∀ w, Calls Try.prog 41 #[] w fun e w' => e = .returned (.bool true) ∧ Below w.heap.size w w')
    (n1 : ∀ w, (binOp .eql 24 (.agg #[.int .u64 (L0 v), .int .u64 (L1 v), .int .u64 (L2 v), .int .u64 (L3 v)]) (.agg #[.int .u64 (L0 v), .int .u64 (L1 v), .int .u64 (L2 v), .int .u64 (L3 v)])).run Try.prog w = .ok (.bool true) w)
    : Calls Try.prog 9 #[.int .u32 b, big x] w fun e w' => e = .returned (.bool true) ∧ Below w.heap.size w w' := by
  unfold big
  go_enter Try.func9, Try.ntmps9
  go_upto_region 1 with (fail)
  refine wp_gen (fun W => Cells4 W (w.heap.size) x ∧ Below w.heap.size w W) ⟨cells4_new w x, bel_alloc (Below.refl _ _) _⟩ ?_
  rintro W ⟨c0, hB⟩
  go_upto_region 2 with (first | (go_at_call 37; with_reducible refine (k37 _).mono ?_; rintro e w1 ⟨rfl, hb1⟩))
  have l0 := c0.lt
  refine wp_gen (fun W => Cells4 W (w.heap.size) x ∧ Cells4 W (w1.heap.size) v ∧ Below w.heap.size w W) ⟨((c0.below hb1 l0).alloc _), cells4_new _ _, bel_alloc (bel_call (hB) hb1) _⟩ ?_
  clear hb1 l0 c0 hB 
  generalize w1.heap.size = b1
  clear w1 W
  rintro W ⟨c0, c1, hB⟩
  go_upto_region 3 with (first | (go_at_call 38; with_reducible refine (k38 _).mono ?_; rintro e w1 ⟨rfl, hb1⟩))
  have l0 := c0.lt
  have l1 := c1.lt
  refine wp_gen (fun W => Cells4 W (w.heap.size) x ∧ Cells4 W b1 v ∧ Cells4 W (w1.heap.size) v ∧ Below w.heap.size w W) ⟨((c0.below hb1 l0).alloc _), ((c1.below hb1 l1).alloc _), cells4_new _ _, bel_alloc (bel_call (hB) hb1) _⟩ ?_
  clear hb1 l0 l1 c0 c1 hB 
  generalize w1.heap.size = b2
  clear w1 W
  rintro W ⟨c0, c1, c2, hB⟩
  have k00 := fun d os => (c0.regrown d os).c0
  have k01 := fun d os => (c0.regrown d os).c1
  have k02 := fun d os => (c0.regrown d os).c2
  have k03 := fun d os => (c0.regrown d os).c3
  have k10 := fun d os => (c1.regrown d os).c0
  have k11 := fun d os => (c1.regrown d os).c1
  have k12 := fun d os => (c1.regrown d os).c2
  have k13 := fun d os => (c1.regrown d os).c3
  have k20 := fun d os => (c2.regrown d os).c0
  have k21 := fun d os => (c2.regrown d os).c1
  have k22 := fun d os => (c2.regrown d os).c2
  have k23 := fun d os => (c2.regrown d os).c3
  have q0 := quiet_call W k39
  have q1 := quiet_call W k40
  have q2 := quiet_call W k41
  refine wp_region_quiet_below (by kernel_rfl) (by kernel_rfl) ?_
  repeat (go_big_quiet_step ((first | with_reducible exact q0 _ _ | with_reducible exact q1 _ _ | with_reducible exact q2 _ _)))
  refine wpQuiet_nil ?_
  intro W1 hw'
  have hB1 : Below w.heap.size w W1 := by obtain ⟨p, rfl⟩ := hw'; exact hB.trans ((below_regrown W _ _).mono hB.size)
  clear hw'
  go_wp2
  go_ret
  exact ⟨rfl, hB1⟩

set_option maxRecDepth 100000 in
set_option maxHeartbeats 4000000 in
theorem tbits_false (b x v c : Int) (w : World)
    (k37 : ∀ w, Calls Try.prog 37 #[.int .u32 b] w fun e w' => e = .returned (.tuple #[.agg #[.int .u64 (L0 v), .int .u64 (L1 v), .int .u64 (L2 v), .int .u64 (L3 v)], .bool false]) ∧ Below w.heap.size w w')
    (k38 : ∀ w, Calls Try.prog 38 #[.int .u32 b] w fun e w' => e = .returned (.tuple #[.agg #[.int .u64 (L0 v), .int .u64 (L1 v), .int .u64 (L2 v), .int .u64 (L3 v)], .bool false]) ∧ Below w.heap.size w w')
    (k39 : ∀ w, Calls Try.prog 39 #[.agg #[.int .u64 (L0 x), .int .u64 (L1 x), .int .u64 (L2 x), .int .u64 (L3 x)]] w fun e w' => e = .returned (.int .u32 c) ∧ Below w.heap.size w w')
    (k40 : ∀ w, Calls Try.prog 40 #[.agg #[.int .u64 (L0 x), .int .u64 (L1 x), .int .u64 (L2 x), .int .u64 (L3 x)]] w fun e w' => e = .returned (.int .u32 c) ∧ Below w.heap.size w w')
    (k41 : ∀ w, Calls Try.prog 41 #[] w fun e w' => e = .returned (.bool true) ∧ Below w.heap.size w w')
    (n1 : ∀ w, (binOp .eql 24 (.agg #[.int .u64 (L0 v), .int .u64 (L1 v), .int .u64 (L2 v), .int .u64 (L3 v)]) (.agg #[.int .u64 (L0 v), .int .u64 (L1 v), .int .u64 (L2 v), .int .u64 (L3 v)])).run Try.prog w = .ok (.bool true) w)
    : Calls Try.prog 9 #[.int .u32 b, big x] w fun e w' => e = .returned (.bool true) ∧ Below w.heap.size w w' := by
  unfold big
  go_enter Try.func9, Try.ntmps9
  go_upto_region 1 with (fail)
  refine wp_gen (fun W => Cells4 W (w.heap.size) x ∧ Below w.heap.size w W) ⟨cells4_new w x, bel_alloc (Below.refl _ _) _⟩ ?_
  rintro W ⟨c0, hB⟩
  go_upto_region 2 with (first | (go_at_call 37; with_reducible refine (k37 _).mono ?_; rintro e w1 ⟨rfl, hb1⟩))
  have l0 := c0.lt
  refine wp_gen (fun W => Cells4 W (w.heap.size) x ∧ Cells4 W (w1.heap.size) v ∧ Below w.heap.size w W) ⟨((c0.below hb1 l0).alloc _), cells4_new _ _, bel_alloc (bel_call (hB) hb1) _⟩ ?_
  clear hb1 l0 c0 hB 
  generalize w1.heap.size = b1
  clear w1 W
  rintro W ⟨c0, c1, hB⟩
  go_upto_region 3 with (first | (go_at_call 38; with_reducible refine (k38 _).mono ?_; rintro e w1 ⟨rfl, hb1⟩))
  have l0 := c0.lt
  have l1 := c1.lt
  refine wp_gen (fun W => Cells4 W (w.heap.size) x ∧ Cells4 W b1 v ∧ Cells4 W (w1.heap.size) v ∧ Below w.heap.size w W) ⟨((c0.below hb1 l0).alloc _), ((c1.below hb1 l1).alloc _), cells4_new _ _, bel_alloc (bel_call (hB) hb1) _⟩ ?_
  clear hb1 l0 l1 c0 c1 hB 
  generalize w1.heap.size = b2
  clear w1 W
  rintro W ⟨c0, c1, c2, hB⟩
  have k00 := fun d os => (c0.regrown d os).c0
  have k01 := fun d os => (c0.regrown d os).c1
  have k02 := fun d os => (c0.regrown d os).c2
  have k03 := fun d os => (c0.regrown d os).c3
  have k10 := fun d os => (c1.regrown d os).c0
  have k11 := fun d os => (c1.regrown d os).c1
  have k12 := fun d os => (c1.regrown d os).c2
  have k13 := fun d os => (c1.regrown d os).c3
  have k20 := fun d os => (c2.regrown d os).c0
  have k21 := fun d os => (c2.regrown d os).c1
  have k22 := fun d os => (c2.regrown d os).c2
  have k23 := fun d os => (c2.regrown d os).c3
  have q0 := quiet_call W k39
  have q1 := quiet_call W k40
  have q2 := quiet_call W k41
  refine wp_region_quiet_below (by kernel_rfl) (by kernel_rfl) ?_
  repeat (go_big_quiet_step ((first | with_reducible exact q0 _ _ | with_reducible exact q1 _ _ | with_reducible exact q2 _ _)))
  refine wpQuiet_nil ?_
  intro W1 hw'
  have hB1 : Below w.heap.size w W1 := by obtain ⟨p, rfl⟩ := hw'; exact hB.trans ((below_regrown W _ _).mono hB.size)
  clear hw'
  go_wp2
  go_ret
  exact ⟨rfl, hB1⟩
end Go.Proofs.Ytefnlmiephombaa
