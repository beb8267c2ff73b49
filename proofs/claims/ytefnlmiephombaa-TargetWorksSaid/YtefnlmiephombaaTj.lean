/- The walk of TargetEasy, from its calls' answers. -/
import Derived.Test.YtefnlmiephombaaTl
namespace Go.Proofs.Ytefnlmiephombaa
open Go.RowKit Go.Sort

set_option maxRecDepth 100000 in
set_option maxHeartbeats 4000000 in
theorem easy_true (sz pt r p b b2 v : Int) (w : World) (hs0 : 0 ≤ sz) (hs1 : sz ≤ 255) (e1 : sz % 29 = r) (e2 : sz.tmod 29 = r) (e3 : pt % 8388608 = p) (e7 : pt.tmod 8388608 = p) (e4 : bits .or .u32 ((3 + r) * 16777216) p = b) (e5 : bits .or .u32 b 8388608 = b2) (e6 : (p != 0) = true)
    (k37 : ∀ w, Calls Try.prog 37 #[.int .u32 b] w fun e w' => e = .returned (.tuple #[.agg #[.int .u64 (L0 v), .int .u64 (L1 v), .int .u64 (L2 v), .int .u64 (L3 v)], .bool true]) ∧ Below w.heap.size w w')
    (k3m : ∀ w, Calls Try.prog 37 #[.int .u32 b2] w fun e w' => e = .returned (.tuple #[.agg #[.int .u64 (L0 0), .int .u64 (L1 0), .int .u64 (L2 0), .int .u64 (L3 0)], .bool false]) ∧ Below w.heap.size w w')
    (kof : ∀ w, Calls Try.prog 23 #[.int .u64 p] w fun e w' => e = .returned (.agg #[.int .u64 (L0 p), .int .u64 (L1 p), .int .u64 (L2 p), .int .u64 (L3 p)]) ∧ Below w.heap.size w w')
    (kup : ∀ w, Calls Try.prog 16 #[.agg #[.int .u64 (L0 p), .int .u64 (L1 p), .int .u64 (L2 p), .int .u64 (L3 p)], .int .i64 (8 * r)] w fun e w' => e = .returned (.agg #[.int .u64 (L0 v), .int .u64 (L1 v), .int .u64 (L2 v), .int .u64 (L3 v)]) ∧ Below w.heap.size w w')
    (k41 : ∀ w, Calls Try.prog 41 #[] w fun e w' => e = .returned (.bool true) ∧ Below w.heap.size w w')
    (n1 : ∀ w, (binOp .eql 24 (.agg #[.int .u64 (L0 v), .int .u64 (L1 v), .int .u64 (L2 v), .int .u64 (L3 v)]) (.agg #[.int .u64 (L0 v), .int .u64 (L1 v), .int .u64 (L2 v), .int .u64 (L3 v)])).run Try.prog w = .ok (.bool true) w)
    : Calls Try.prog 10 #[.int .u8 sz, .int .u32 pt] w fun e w' => e = .returned (.bool true) ∧ Below w.heap.size w w' := by
  have g1 : IntKind.i64.wrap sz = sz := by rw [IntKind.wrap_i64]; omega
  have g2 : IntKind.i64.wrap (3 + r) = 3 + r := by rw [IntKind.wrap_i64]; omega
  have g3 : IntKind.u32.wrap (3 + r) = 3 + r := by rw [IntKind.wrap_u32]; omega
  have g4 : IntKind.u32.wrap ((3 + r) * 16777216) = (3 + r) * 16777216 := by rw [IntKind.wrap_u32]; omega
  have g5 : 3 + r - 3 = r := by omega
  have g6 : IntKind.i64.wrap r = r := by rw [IntKind.wrap_i64]; omega
  have g7 : IntKind.i64.wrap (8 * r) = 8 * r := by rw [IntKind.wrap_i64]; omega
  have g8 : IntKind.u64.wrap p = p := by rw [IntKind.wrap_u64]; omega
  clear hs0 hs1
  go_enter Try.func10, Try.ntmps10
  go_upto_region 4 with (fail)
  refine wp_gen (fun W => Below w.heap.size w W) (Below.refl _ _) ?_
  intro W hB
  go_upto_region 5 with (first | (go_at_call 37; with_reducible refine (k37 _).mono ?_; rintro e w1 ⟨rfl, hb1⟩))
  refine wp_gen (fun W => Cells4 W (w1.heap.size) v ∧ Below w.heap.size w W) ⟨cells4_new _ _, bel_alloc (bel_call (hB) hb1) _⟩ ?_
  clear hb1 hB 
  generalize w1.heap.size = b1
  clear w1 W
  rintro W ⟨c0, hB⟩
  go_upto_region 6 with (first | (go_at_call 37; with_reducible refine (k3m _).mono ?_; rintro e w1 ⟨rfl, hb1⟩))
  have l0 := c0.lt
  refine wp_gen (fun W => Cells4 W b1 v ∧ Cells4 W (w1.heap.size) 0 ∧ Below w.heap.size w W) ⟨((c0.below hb1 l0).alloc _), cells4_new _ _, bel_alloc (bel_call (hB) hb1) _⟩ ?_
  clear hb1 l0 c0 hB 
  generalize w1.heap.size = b2
  clear w1 W
  rintro W ⟨c0, c1, hB⟩
  have k00 := fun d os => (c0.regrown d os).c0
  have k01 := fun d os => (c0.regrown d os).c1
  have k02 := fun d os => (c0.regrown d os).c2
  have k03 := fun d os => (c0.regrown d os).c3
  have q0 := quiet_call W kof
  have q1 := quiet_call W kup
  have q2 := quiet_call W k41
  refine wp_region_quiet_below (by kernel_rfl) (by kernel_rfl) ?_
  repeat (go_big_quiet_step ((first | with_reducible exact q0 _ _ | with_reducible exact q1 _ _ | with_reducible exact q2 _ _)))
  refine wpQuiet_nil ?_
  intro W1 hw'
  have hB1 : Below w.heap.size w W1 := by obtain ⟨p, rfl⟩ := hw'; exact hB.trans ((below_regrown W _ _).mono hB.size)
  clear hw'
  go_wp2
  go_ret
  exact ⟨rfl, hB1⟩

set_option maxRecDepth 100000 in
set_option maxHeartbeats 4000000 in
theorem easy_false (sz pt r p b b2 v : Int) (w : World) (hs0 : 0 ≤ sz) (hs1 : sz ≤ 255) (e1 : sz % 29 = r) (e2 : sz.tmod 29 = r) (e3 : pt % 8388608 = p) (e7 : pt.tmod 8388608 = p) (e4 : bits .or .u32 ((3 + r) * 16777216) p = b) (e5 : bits .or .u32 b 8388608 = b2) (e6 : (p != 0) = false)
    (k37 : ∀ w, Calls Try.prog 37 #[.int .u32 b] w fun e w' => e = .returned (.tuple #[.agg #[.int .u64 (L0 v), .int .u64 (L1 v), .int .u64 (L2 v), .int .u64 (L3 v)], .bool false]) ∧ Below w.heap.size w w')
    (k3m : ∀ w, Calls Try.prog 37 #[.int .u32 b2] w fun e w' => e = .returned (.tuple #[.agg #[.int .u64 (L0 0), .int .u64 (L1 0), .int .u64 (L2 0), .int .u64 (L3 0)], .bool false]) ∧ Below w.heap.size w w')
    (kof : ∀ w, Calls Try.prog 23 #[.int .u64 p] w fun e w' => e = .returned (.agg #[.int .u64 (L0 p), .int .u64 (L1 p), .int .u64 (L2 p), .int .u64 (L3 p)]) ∧ Below w.heap.size w w')
    (kup : ∀ w, Calls Try.prog 16 #[.agg #[.int .u64 (L0 p), .int .u64 (L1 p), .int .u64 (L2 p), .int .u64 (L3 p)], .int .i64 (8 * r)] w fun e w' => e = .returned (.agg #[.int .u64 (L0 v), .int .u64 (L1 v), .int .u64 (L2 v), .int .u64 (L3 v)]) ∧ Below w.heap.size w w')
    (k41 : ∀ w, Calls Try.prog 41 #[] w fun e w' => e = .returned (.bool true) ∧ Below w.heap.size w w')
    (n1 : ∀ w, (binOp .eql 24 (.agg #[.int .u64 (L0 v), .int .u64 (L1 v), .int .u64 (L2 v), .int .u64 (L3 v)]) (.agg #[.int .u64 (L0 v), .int .u64 (L1 v), .int .u64 (L2 v), .int .u64 (L3 v)])).run Try.prog w = .ok (.bool true) w)
    : Calls Try.prog 10 #[.int .u8 sz, .int .u32 pt] w fun e w' => e = .returned (.bool true) ∧ Below w.heap.size w w' := by
  have g1 : IntKind.i64.wrap sz = sz := by rw [IntKind.wrap_i64]; omega
  have g2 : IntKind.i64.wrap (3 + r) = 3 + r := by rw [IntKind.wrap_i64]; omega
  have g3 : IntKind.u32.wrap (3 + r) = 3 + r := by rw [IntKind.wrap_u32]; omega
  have g4 : IntKind.u32.wrap ((3 + r) * 16777216) = (3 + r) * 16777216 := by rw [IntKind.wrap_u32]; omega
  have g5 : 3 + r - 3 = r := by omega
  have g6 : IntKind.i64.wrap r = r := by rw [IntKind.wrap_i64]; omega
  have g7 : IntKind.i64.wrap (8 * r) = 8 * r := by rw [IntKind.wrap_i64]; omega
  have g8 : IntKind.u64.wrap p = p := by rw [IntKind.wrap_u64]; omega
  clear hs0 hs1
  go_enter Try.func10, Try.ntmps10
  go_upto_region 4 with (fail)
  refine wp_gen (fun W => Below w.heap.size w W) (Below.refl _ _) ?_
  intro W hB
  go_upto_region 5 with (first | (go_at_call 37; with_reducible refine (k37 _).mono ?_; rintro e w1 ⟨rfl, hb1⟩))
  refine wp_gen (fun W => Cells4 W (w1.heap.size) v ∧ Below w.heap.size w W) ⟨cells4_new _ _, bel_alloc (bel_call (hB) hb1) _⟩ ?_
  clear hb1 hB 
  generalize w1.heap.size = b1
  clear w1 W
  rintro W ⟨c0, hB⟩
  go_upto_region 6 with (first | (go_at_call 37; with_reducible refine (k3m _).mono ?_; rintro e w1 ⟨rfl, hb1⟩))
  have l0 := c0.lt
  refine wp_gen (fun W => Cells4 W b1 v ∧ Cells4 W (w1.heap.size) 0 ∧ Below w.heap.size w W) ⟨((c0.below hb1 l0).alloc _), cells4_new _ _, bel_alloc (bel_call (hB) hb1) _⟩ ?_
  clear hb1 l0 c0 hB 
  generalize w1.heap.size = b2
  clear w1 W
  rintro W ⟨c0, c1, hB⟩
  have k00 := fun d os => (c0.regrown d os).c0
  have k01 := fun d os => (c0.regrown d os).c1
  have k02 := fun d os => (c0.regrown d os).c2
  have k03 := fun d os => (c0.regrown d os).c3
  have q0 := quiet_call W kof
  have q1 := quiet_call W kup
  have q2 := quiet_call W k41
  refine wp_region_quiet_below (by kernel_rfl) (by kernel_rfl) ?_
  repeat (go_big_quiet_step ((first | with_reducible exact q0 _ _ | with_reducible exact q1 _ _ | with_reducible exact q2 _ _)))
  refine wpQuiet_nil ?_
  intro W1 hw'
  have hB1 : Below w.heap.size w W1 := by obtain ⟨p, rfl⟩ := hw'; exact hB.trans ((below_regrown W _ _).mono hB.size)
  clear hw'
  go_wp2
  go_ret
  exact ⟨rfl, hB1⟩
end Go.Proofs.Ytefnlmiephombaa
