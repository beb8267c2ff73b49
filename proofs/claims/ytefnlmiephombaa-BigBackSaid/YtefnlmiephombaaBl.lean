/- The walk of BigBack, from its calls' answers. -/
import Derived.Test.YtefnlmiephombaaTl
namespace Go.Proofs.Ytefnlmiephombaa
open Go.RowKit Go.Sort

set_option maxRecDepth 100000 in
set_option maxHeartbeats 4000000 in
theorem back_all (x y s d n q r mm k l ww : Int) (ov ls : Bool) (w : World)
    (kadd : ∀ w, Calls Try.prog 21 #[.agg #[.int .u64 (L0 x), .int .u64 (L1 x), .int .u64 (L2 x), .int .u64 (L3 x)], .agg #[.int .u64 (L0 y), .int .u64 (L1 y), .int .u64 (L2 y), .int .u64 (L3 y)]] w fun e w' => e = .returned (.tuple #[.agg #[.int .u64 (L0 s), .int .u64 (L1 s), .int .u64 (L2 s), .int .u64 (L3 s)], .bool ov]) ∧ Below w.heap.size w w')
    (ksub : ∀ w, Calls Try.prog 24 #[.agg #[.int .u64 (L0 s), .int .u64 (L1 s), .int .u64 (L2 s), .int .u64 (L3 s)], .agg #[.int .u64 (L0 y), .int .u64 (L1 y), .int .u64 (L2 y), .int .u64 (L3 y)]] w fun e w' => e = .returned (.tuple #[.agg #[.int .u64 (L0 x), .int .u64 (L1 x), .int .u64 (L2 x), .int .u64 (L3 x)], .bool ov]) ∧ Below w.heap.size w w')
    (kl1 : ∀ w, Calls Try.prog 29 #[.agg #[.int .u64 (L0 s), .int .u64 (L1 s), .int .u64 (L2 s), .int .u64 (L3 s)], .agg #[.int .u64 (L0 x), .int .u64 (L1 x), .int .u64 (L2 x), .int .u64 (L3 x)]] w fun e w' => e = .returned (.bool ov) ∧ Below w.heap.size w w')
    (ksb2 : ∀ w, Calls Try.prog 24 #[.agg #[.int .u64 (L0 x), .int .u64 (L1 x), .int .u64 (L2 x), .int .u64 (L3 x)], .agg #[.int .u64 (L0 y), .int .u64 (L1 y), .int .u64 (L2 y), .int .u64 (L3 y)]] w fun e w' => e = .returned (.tuple #[.agg #[.int .u64 (L0 d), .int .u64 (L1 d), .int .u64 (L2 d), .int .u64 (L3 d)], .bool ls]) ∧ Below w.heap.size w w')
    (kad2 : ∀ w, Calls Try.prog 21 #[.agg #[.int .u64 (L0 d), .int .u64 (L1 d), .int .u64 (L2 d), .int .u64 (L3 d)], .agg #[.int .u64 (L0 y), .int .u64 (L1 y), .int .u64 (L2 y), .int .u64 (L3 y)]] w fun e w' => e = .returned (.tuple #[.agg #[.int .u64 (L0 x), .int .u64 (L1 x), .int .u64 (L2 x), .int .u64 (L3 x)], .bool ls]) ∧ Below w.heap.size w w')
    (kl2 : ∀ w, Calls Try.prog 29 #[.agg #[.int .u64 (L0 x), .int .u64 (L1 x), .int .u64 (L2 x), .int .u64 (L3 x)], .agg #[.int .u64 (L0 y), .int .u64 (L1 y), .int .u64 (L2 y), .int .u64 (L3 y)]] w fun e w' => e = .returned (.bool ls) ∧ Below w.heap.size w w')
    (hn : (n == 0) = false)
    (kof : ∀ w, Calls Try.prog 23 #[.int .u64 n] w fun e w' => e = .returned (.agg #[.int .u64 (L0 n), .int .u64 (L1 n), .int .u64 (L2 n), .int .u64 (L3 n)]) ∧ Below w.heap.size w w')
    (kdv : ∀ w, Calls Try.prog 14 #[.agg #[.int .u64 (L0 x), .int .u64 (L1 x), .int .u64 (L2 x), .int .u64 (L3 x)], .agg #[.int .u64 (L0 n), .int .u64 (L1 n), .int .u64 (L2 n), .int .u64 (L3 n)]] w fun e w' => e = .returned (.tuple #[.agg #[.int .u64 (L0 q), .int .u64 (L1 q), .int .u64 (L2 q), .int .u64 (L3 q)], .agg #[.int .u64 (L0 r), .int .u64 (L1 r), .int .u64 (L2 r), .int .u64 (L3 r)], .int .i64 0]) ∧ Below w.heap.size w w')
    (kmu : ∀ w, Calls Try.prog 27 #[.agg #[.int .u64 (L0 q), .int .u64 (L1 q), .int .u64 (L2 q), .int .u64 (L3 q)], .int .u64 n] w fun e w' => e = .returned (.tuple #[.agg #[.int .u64 (L0 mm), .int .u64 (L1 mm), .int .u64 (L2 mm), .int .u64 (L3 mm)], .int .u64 0]) ∧ Below w.heap.size w w')
    (kad3 : ∀ w, Calls Try.prog 21 #[.agg #[.int .u64 (L0 mm), .int .u64 (L1 mm), .int .u64 (L2 mm), .int .u64 (L3 mm)], .agg #[.int .u64 (L0 r), .int .u64 (L1 r), .int .u64 (L2 r), .int .u64 (L3 r)]] w fun e w' => e = .returned (.tuple #[.agg #[.int .u64 (L0 x), .int .u64 (L1 x), .int .u64 (L2 x), .int .u64 (L3 x)], .bool false]) ∧ Below w.heap.size w w')
    (kl3 : ∀ w, Calls Try.prog 29 #[.agg #[.int .u64 (L0 r), .int .u64 (L1 r), .int .u64 (L2 r), .int .u64 (L3 r)], .agg #[.int .u64 (L0 n), .int .u64 (L1 n), .int .u64 (L2 n), .int .u64 (L3 n)]] w fun e w' => e = .returned (.bool true) ∧ Below w.heap.size w w')
    (hy : ∀ w, (binOp .eql 24 (.agg #[.int .u64 (L0 y), .int .u64 (L1 y), .int .u64 (L2 y), .int .u64 (L3 y)]) (.agg #[.int .u64 0, .int .u64 0, .int .u64 0, .int .u64 0])).run Try.prog w = .ok (.bool false) w)
    (kdy : ∀ w, Calls Try.prog 14 #[.agg #[.int .u64 (L0 x), .int .u64 (L1 x), .int .u64 (L2 x), .int .u64 (L3 x)], .agg #[.int .u64 (L0 y), .int .u64 (L1 y), .int .u64 (L2 y), .int .u64 (L3 y)]] w fun e w' => e = .returned (.tuple #[.agg #[.int .u64 (L0 k), .int .u64 (L1 k), .int .u64 (L2 k), .int .u64 (L3 k)], .agg #[.int .u64 (L0 l), .int .u64 (L1 l), .int .u64 (L2 l), .int .u64 (L3 l)], .int .i64 0]) ∧ Below w.heap.size w w')
    (kdl : ∀ w, Calls Try.prog 14 #[.agg #[.int .u64 (L0 l), .int .u64 (L1 l), .int .u64 (L2 l), .int .u64 (L3 l)], .agg #[.int .u64 (L0 y), .int .u64 (L1 y), .int .u64 (L2 y), .int .u64 (L3 y)]] w fun e w' => e = .returned (.tuple #[.agg #[.int .u64 (L0 0), .int .u64 (L1 0), .int .u64 (L2 0), .int .u64 (L3 0)], .agg #[.int .u64 (L0 l), .int .u64 (L1 l), .int .u64 (L2 l), .int .u64 (L3 l)], .int .i64 0]) ∧ Below w.heap.size w w')
    (kl4 : ∀ w, Calls Try.prog 29 #[.agg #[.int .u64 (L0 l), .int .u64 (L1 l), .int .u64 (L2 l), .int .u64 (L3 l)], .agg #[.int .u64 (L0 y), .int .u64 (L1 y), .int .u64 (L2 y), .int .u64 (L3 y)]] w fun e w' => e = .returned (.bool true) ∧ Below w.heap.size w w')
    (ksb3 : ∀ w, Calls Try.prog 24 #[.agg #[.int .u64 (L0 x), .int .u64 (L1 x), .int .u64 (L2 x), .int .u64 (L3 x)], .agg #[.int .u64 (L0 l), .int .u64 (L1 l), .int .u64 (L2 l), .int .u64 (L3 l)]] w fun e w' => e = .returned (.tuple #[.agg #[.int .u64 (L0 ww), .int .u64 (L1 ww), .int .u64 (L2 ww), .int .u64 (L3 ww)], .bool false]) ∧ Below w.heap.size w w')
    (kdw : ∀ w, Calls Try.prog 14 #[.agg #[.int .u64 (L0 ww), .int .u64 (L1 ww), .int .u64 (L2 ww), .int .u64 (L3 ww)], .agg #[.int .u64 (L0 y), .int .u64 (L1 y), .int .u64 (L2 y), .int .u64 (L3 y)]] w fun e w' => e = .returned (.tuple #[.agg #[.int .u64 (L0 k), .int .u64 (L1 k), .int .u64 (L2 k), .int .u64 (L3 k)], .agg #[.int .u64 (L0 0), .int .u64 (L1 0), .int .u64 (L2 0), .int .u64 (L3 0)], .int .i64 0]) ∧ Below w.heap.size w w')
    : Calls Try.prog 6 #[big x, big y, .int .u64 n] w fun e w' => e = .returned (.bool true) ∧ Below w.heap.size w w' := by
  have n1 : ∀ w, (binOp .neq 24 (.agg #[.int .u64 (L0 x), .int .u64 (L1 x), .int .u64 (L2 x), .int .u64 (L3 x)]) (.agg #[.int .u64 (L0 x), .int .u64 (L1 x), .int .u64 (L2 x), .int .u64 (L3 x)])).run Try.prog w = .ok (.bool false) w := fun w => by
    have := neq_run x x w
    rwa [show (!(m x == m x)) = false by simp] at this
  have n2 : ∀ w, (binOp .eql 24 (.agg #[.int .u64 (L0 k), .int .u64 (L1 k), .int .u64 (L2 k), .int .u64 (L3 k)]) (.agg #[.int .u64 (L0 k), .int .u64 (L1 k), .int .u64 (L2 k), .int .u64 (L3 k)])).run Try.prog w = .ok (.bool true) w := fun w => by
    have := eq_run k k w
    rwa [show (m k == m k) = true by simp] at this
  have n3 : ∀ w, (binOp .eql 24 (.agg #[.int .u64 (L0 0), .int .u64 (L1 0), .int .u64 (L2 0), .int .u64 (L3 0)]) (.agg #[.int .u64 0, .int .u64 0, .int .u64 0, .int .u64 0])).run Try.prog w = .ok (.bool true) w := fun w => eq_run 0 0 w
  have n4 : ∀ w, (binOp .neq 24 (.agg #[.int .u64 (L0 0), .int .u64 (L1 0), .int .u64 (L2 0), .int .u64 (L3 0)]) (.agg #[.int .u64 0, .int .u64 0, .int .u64 0, .int .u64 0])).run Try.prog w = .ok (.bool false) w := fun w => neq_run 0 0 w
  have HN := Lib.hid hn
  clear hn
  unfold big
  go_enter Try.func6, Try.ntmps6
  go_upto_region 1 with (fail)
  refine wp_gen (fun W => Cells4 W (w.heap.size) x ∧ Cells4 W (w.heap.size + 1) y ∧ Below w.heap.size w W) ⟨(cells4_new w x).alloc _, cells4_new' (w.alloc _) _ y (by simp), bel_alloc (bel_alloc (Below.refl _ _) _) _⟩ ?_
  rintro W ⟨c0, c1, hB⟩
  obtain ⟨x00, x01, x02, x03, -, -, -, -⟩ := id c0
  obtain ⟨x10, x11, x12, x13, -, -, -, -⟩ := id c1
  go_upto_region 2 with (first | (go_at_call 21; with_reducible refine (kadd _).mono ?_; rintro e w1 ⟨rfl, hb1⟩))
  have l0 := c0.lt
  have l1 := c1.lt
  refine wp_gen (fun W => Cells4 W (w.heap.size) x ∧ Cells4 W (w.heap.size + 1) y ∧ Cells4 W (w1.heap.size) s ∧ Below w.heap.size w W) ⟨((c0.below hb1 l0).alloc _), ((c1.below hb1 l1).alloc _), cells4_new _ _, bel_alloc (bel_call (hB) hb1) _⟩ ?_
  clear hb1 l0 l1 c0 c1 hB x00 x01 x02 x03 x10 x11 x12 x13
  generalize w1.heap.size = b1
  clear w1 W
  rintro W ⟨c0, c1, c2, hB⟩
  obtain ⟨x10, x11, x12, x13, -, -, -, -⟩ := id c1
  obtain ⟨x20, x21, x22, x23, -, -, -, -⟩ := id c2
  go_upto_region 3 with (first | (go_at_call 24; with_reducible refine (ksub _).mono ?_; rintro e w1 ⟨rfl, hb1⟩))
  have l0 := c0.lt
  have l1 := c1.lt
  have l2 := c2.lt
  refine wp_gen (fun W => Cells4 W (w.heap.size) x ∧ Cells4 W (w.heap.size + 1) y ∧ Cells4 W b1 s ∧ Cells4 W (w1.heap.size) x ∧ Below w.heap.size w W) ⟨((c0.below hb1 l0).alloc _), ((c1.below hb1 l1).alloc _), ((c2.below hb1 l2).alloc _), cells4_new _ _, bel_alloc (bel_call (hB) hb1) _⟩ ?_
  clear hb1 l0 l1 l2 c0 c1 c2 hB x10 x11 x12 x13 x20 x21 x22 x23
  generalize w1.heap.size = b2
  clear w1 W
  rintro W ⟨c0, c1, c2, c3, hB⟩
  obtain ⟨x00, x01, x02, x03, -, -, -, -⟩ := id c0
  obtain ⟨x20, x21, x22, x23, -, -, -, -⟩ := id c2
  obtain ⟨x30, x31, x32, x33, -, -, -, -⟩ := id c3
  go_upto_region 5 with (first | (go_at_call 29; with_reducible refine (kl1 _).mono ?_; rintro e w1 ⟨rfl, hb1⟩))
  have l0 := c0.lt
  have l1 := c1.lt
  have l2 := c2.lt
  have l3 := c3.lt
  refine wp_gen (fun W => Cells4 W (w.heap.size) x ∧ Cells4 W (w.heap.size + 1) y ∧ Cells4 W b1 s ∧ Cells4 W b2 x ∧ Below w.heap.size w W) ⟨(c0.below hb1 l0), (c1.below hb1 l1), (c2.below hb1 l2), (c3.below hb1 l3), bel_call (hB) hb1⟩ ?_
  clear hb1 l0 l1 l2 l3 c0 c1 c2 c3 hB x00 x01 x02 x03 x20 x21 x22 x23 x30 x31 x32 x33
  clear w1 W
  rintro W ⟨c0, c1, c2, c3, hB⟩
  clear c2 c3
  obtain ⟨x00, x01, x02, x03, -, -, -, -⟩ := id c0
  obtain ⟨x10, x11, x12, x13, -, -, -, -⟩ := id c1
  go_upto_region 6 with (first | (go_at_call 24; with_reducible refine (ksb2 _).mono ?_; rintro e w1 ⟨rfl, hb1⟩))
  have l0 := c0.lt
  have l1 := c1.lt
  refine wp_gen (fun W => Cells4 W (w.heap.size) x ∧ Cells4 W (w.heap.size + 1) y ∧ Cells4 W (w1.heap.size) d ∧ Below w.heap.size w W) ⟨((c0.below hb1 l0).alloc _), ((c1.below hb1 l1).alloc _), cells4_new _ _, bel_alloc (bel_call (hB) hb1) _⟩ ?_
  clear hb1 l0 l1 c0 c1 hB x00 x01 x02 x03 x10 x11 x12 x13
  generalize w1.heap.size = b3
  clear w1 W
  rintro W ⟨c0, c1, c2, hB⟩
  obtain ⟨x10, x11, x12, x13, -, -, -, -⟩ := id c1
  obtain ⟨x20, x21, x22, x23, -, -, -, -⟩ := id c2
  go_upto_region 7 with (first | (go_at_call 21; with_reducible refine (kad2 _).mono ?_; rintro e w1 ⟨rfl, hb1⟩))
  have l0 := c0.lt
  have l1 := c1.lt
  have l2 := c2.lt
  refine wp_gen (fun W => Cells4 W (w.heap.size) x ∧ Cells4 W (w.heap.size + 1) y ∧ Cells4 W b3 d ∧ Cells4 W (w1.heap.size) x ∧ Below w.heap.size w W) ⟨((c0.below hb1 l0).alloc _), ((c1.below hb1 l1).alloc _), ((c2.below hb1 l2).alloc _), cells4_new _ _, bel_alloc (bel_call (hB) hb1) _⟩ ?_
  clear hb1 l0 l1 l2 c0 c1 c2 hB x10 x11 x12 x13 x20 x21 x22 x23
  generalize w1.heap.size = b4
  clear w1 W
  rintro W ⟨c0, c1, c2, c3, hB⟩
  obtain ⟨x00, x01, x02, x03, -, -, -, -⟩ := id c0
  obtain ⟨x10, x11, x12, x13, -, -, -, -⟩ := id c1
  obtain ⟨x30, x31, x32, x33, -, -, -, -⟩ := id c3
  go_upto_region 9 with (first | (go_at_call 29; with_reducible refine (kl2 _).mono ?_; rintro e w1 ⟨rfl, hb1⟩))
  have l0 := c0.lt
  have l1 := c1.lt
  have l2 := c2.lt
  have l3 := c3.lt
  refine wp_gen (fun W => Cells4 W (w.heap.size) x ∧ Cells4 W (w.heap.size + 1) y ∧ Cells4 W b3 d ∧ Cells4 W b4 x ∧ Below w.heap.size w W) ⟨(c0.below hb1 l0), (c1.below hb1 l1), (c2.below hb1 l2), (c3.below hb1 l3), bel_call (hB) hb1⟩ ?_
  clear hb1 l0 l1 l2 l3 c0 c1 c2 c3 hB x00 x01 x02 x03 x10 x11 x12 x13 x30 x31 x32 x33
  clear w1 W
  rintro W ⟨c0, c1, c2, c3, hB⟩
  clear c2 c3
  have hn := HN.out
  go_upto_region 11 with (fail)
  clear hn
  obtain ⟨x00, x01, x02, x03, -, -, -, -⟩ := id c0
  go_cut [15, 16, 17] (fun s15 s16 s17 wx => ∃ e15 : Nat, ∃ e16 : Nat, s15 = .pointer (some ⟨e15, 0, none⟩) ∧ s16 = .pointer (some ⟨e16, 0, none⟩) ∧ s17 = .int .i64 0 ∧ Cells4 wx (w.heap.size) x ∧ Cells4 wx (w.heap.size + 1) y ∧ Cells4 wx e15 q ∧ Cells4 wx e16 r ∧ Below w.heap.size w wx)
  case first =>
    have mk : ∀ w', Below W.heap.size W w' → w'.cell? ⟨w.heap.size, 0, none⟩ = some (.int .u64 (L0 x)) ∧ w'.cell? ⟨w.heap.size, 1, none⟩ = some (.int .u64 (L1 x)) ∧ w'.cell? ⟨w.heap.size, 2, none⟩ = some (.int .u64 (L2 x)) ∧ w'.cell? ⟨w.heap.size, 3, none⟩ = some (.int .u64 (L3 x)) := fun w' hb' => ⟨(c0.call hb').c0, (c0.call hb').c1, (c0.call hb').c2, (c0.call hb').c3⟩
    go_region_held3 (fun w' => w'.cell? ⟨w.heap.size, 0, none⟩ = some (.int .u64 (L0 x)) ∧ w'.cell? ⟨w.heap.size, 1, none⟩ = some (.int .u64 (L1 x)) ∧ w'.cell? ⟨w.heap.size, 2, none⟩ = some (.int .u64 (L2 x)) ∧ w'.cell? ⟨w.heap.size, 3, none⟩ = some (.int .u64 (L3 x))) (first | (with_reducible refine mk _ ?_; repeat (first | with_reducible exact Below.refl _ _ | with_reducible refine bel_drew ?_ | with_reducible refine bel_alloc ?_ _ | with_reducible refine bel_set ?_ _ _ (Nat.le_refl _) _ | with_reducible refine hq2 ?_ | with_reducible refine hq1 ?_ | with_reducible refine bel_set ?_ _ _ hz2 _ | with_reducible refine bel_set ?_ _ _ hz1 _ | with_reducible refine bel_set ?_ _ _ (Nat.le_succ _) _ | with_reducible refine bel_set ?_ _ _ (Nat.le_succ_of_le hz2) _ | with_reducible refine bel_set ?_ _ _ (Nat.le_succ_of_le hz1) _)) | fail) (first | (go_at_call 23; with_reducible refine (kof _).mono ?_; rintro e w1 ⟨rfl, hb1⟩; have hq1 : Below W.heap.size W _ → Below W.heap.size W w1 := fun h => bel_call h hb1; have hv1 : ∀ b v, Cells4 _ b v → Cells4 w1 b v := fun _ _ h => h.call hb1; have hs1 := hb1.size; (try (have hy1_0_0 : W.heap.size < w1.heap.size := by (have hh := hb1.size; (try simp at hh); omega))); (try (have hn1_0_0 : W.heap.size ≠ w1.heap.size := Nat.ne_of_lt hy1_0_0)); (try (have hm1_0_0 : w1.heap.size ≠ W.heap.size := Nat.ne_of_gt hy1_0_0)); (try (have hy1_0_1 : W.heap.size + 1 < w1.heap.size := by (have hh := hb1.size; (try simp at hh); omega))); (try (have hn1_0_1 : W.heap.size + 1 ≠ w1.heap.size := Nat.ne_of_lt hy1_0_1)); (try (have hm1_0_1 : w1.heap.size ≠ W.heap.size + 1 := Nat.ne_of_gt hy1_0_1)); obtain ⟨hc1, hf1⟩ := bcell hb1; have hz1 : W.heap.size ≤ w1.heap.size := by (have hh := hb1.size; (try simp at hh); omega)) | (go_at_call 14; with_reducible refine (kdv _).mono ?_; rintro e w2 ⟨rfl, hb2⟩; have hq2 : Below W.heap.size W _ → Below W.heap.size W w2 := fun h => bel_call h hb2; have hv2 : ∀ b v, Cells4 _ b v → Cells4 w2 b v := fun _ _ h => h.call hb2; have hs2 := hb2.size; (try (have hy2_0_0 : W.heap.size < w2.heap.size := by (have hh := hb2.size; (try simp at hh); omega))); (try (have hn2_0_0 : W.heap.size ≠ w2.heap.size := Nat.ne_of_lt hy2_0_0)); (try (have hm2_0_0 : w2.heap.size ≠ W.heap.size := Nat.ne_of_gt hy2_0_0)); (try (have hy2_0_1 : W.heap.size + 1 < w2.heap.size := by (have hh := hb2.size; (try simp at hh); omega))); (try (have hn2_0_1 : W.heap.size + 1 ≠ w2.heap.size := Nat.ne_of_lt hy2_0_1)); (try (have hm2_0_1 : w2.heap.size ≠ W.heap.size + 1 := Nat.ne_of_gt hy2_0_1)); (try (have hy2_1_0 : w1.heap.size < w2.heap.size := by (have hh := hb2.size; (try simp at hh); omega))); (try (have hn2_1_0 : w1.heap.size ≠ w2.heap.size := Nat.ne_of_lt hy2_1_0)); (try (have hm2_1_0 : w2.heap.size ≠ w1.heap.size := Nat.ne_of_gt hy2_1_0)); (try (have hy2_1_1 : w1.heap.size + 1 < w2.heap.size := by (have hh := hb2.size; (try simp at hh); omega))); (try (have hn2_1_1 : w1.heap.size + 1 ≠ w2.heap.size := Nat.ne_of_lt hy2_1_1)); (try (have hm2_1_1 : w2.heap.size ≠ w1.heap.size + 1 := Nat.ne_of_gt hy2_1_1)); obtain ⟨hc2, hf2⟩ := bcell hb2; have hz2 : W.heap.size ≤ w2.heap.size := by (have hh := hb2.size; (try simp at hh); omega)) | fail)
    all_goals (go_wp2_with fail; go_meet)
    all_goals refine (fun (h1 : Below W.heap.size W _) (k15 : Cells4 _ _ q) (k16 : Cells4 _ _ r) => ⟨_, _, rfl, rfl, rfl, c0.call h1, c1.call h1, k15, k16, bel_call hB h1⟩) ?_ ?_ ?_
    all_goals (first | (with_reducible refine Below.trans (Below.refl _ _) ?_; repeat (first | with_reducible exact Below.refl _ _ | with_reducible refine bel_drew ?_ | with_reducible refine bel_alloc ?_ _ | with_reducible refine bel_set ?_ _ _ (Nat.le_refl _) _ | with_reducible refine hq2 ?_ | with_reducible refine hq1 ?_ | with_reducible refine bel_set ?_ _ _ hz2 _ | with_reducible refine bel_set ?_ _ _ hz1 _ | with_reducible refine bel_set ?_ _ _ (Nat.le_succ _) _ | with_reducible refine bel_set ?_ _ _ (Nat.le_succ_of_le hz2) _ | with_reducible refine bel_set ?_ _ _ (Nat.le_succ_of_le hz1) _)) | (repeat (first | with_reducible exact cells4_zero _ | with_reducible exact cells4_new _ _ | with_reducible exact cells4_zero' _ _ (size_al _ _) | with_reducible exact cells4_new' _ _ _ (size_al _ _) | with_reducible exact cells4_new' _ _ _ (size_set4 _ _ _ _ _ _ _ _ _) | with_reducible refine Cells4.alloc ?_ _ | with_reducible refine Cells4.drew ?_ | with_reducible refine hv2 _ _ ?_ | with_reducible refine hv1 _ _ ?_ | with_reducible refine cells4_puts (u := 0) ?_ _ | with_reducible refine Cells4.set_other ?_ hn2_0_0 _ | with_reducible refine Cells4.set_other ?_ hm2_0_0 _ | with_reducible refine Cells4.set_other ?_ hn2_0_1 _ | with_reducible refine Cells4.set_other ?_ hm2_0_1 _ | with_reducible refine Cells4.set_other ?_ hn2_1_0 _ | with_reducible refine Cells4.set_other ?_ hm2_1_0 _ | with_reducible refine Cells4.set_other ?_ hn2_1_1 _ | with_reducible refine Cells4.set_other ?_ hm2_1_1 _ | with_reducible refine Cells4.set_other ?_ hn1_0_0 _ | with_reducible refine Cells4.set_other ?_ hm1_0_0 _ | with_reducible refine Cells4.set_other ?_ hn1_0_1 _ | with_reducible refine Cells4.set_other ?_ hm1_0_1 _ | with_reducible refine Cells4.set_other ?_ (Nat.ne_of_lt (Nat.lt_succ_self _)) _ | with_reducible refine Cells4.set_other ?_ (Nat.ne_of_gt (Nat.lt_succ_self _)) _)))
  case' rest =>
    obtain ⟨e15, e16, rfl, rfl, rfl, nc0, nc1, nc2, nc3, hB'⟩ := hcut
    clear c0 c1 hB x00 x01 x02 x03 
    clear W
    go_upto_region 12 with (fail)
    refine wp_gen (fun W => Cells4 W (w.heap.size) x ∧ Cells4 W (w.heap.size + 1) y ∧ Cells4 W e15 q ∧ Cells4 W e16 r ∧ Below w.heap.size w W) ⟨nc0, nc1, nc2, nc3, hB'⟩ ?_
    clear nc0 nc1 nc2 nc3 hB'
    clear wc
  rintro W ⟨c0, c1, c2, c3, hB⟩
  obtain ⟨x20, x21, x22, x23, -, -, -, -⟩ := id c2
  go_upto_region 13 with (first | (go_at_call 27; with_reducible refine (kmu _).mono ?_; rintro e w1 ⟨rfl, hb1⟩))
  have l0 := c0.lt
  have l1 := c1.lt
  have l2 := c2.lt
  have l3 := c3.lt
  refine wp_gen (fun W => Cells4 W (w.heap.size) x ∧ Cells4 W (w.heap.size + 1) y ∧ Cells4 W e15 q ∧ Cells4 W e16 r ∧ Cells4 W (w1.heap.size) mm ∧ Below w.heap.size w W) ⟨((c0.below hb1 l0).alloc _), ((c1.below hb1 l1).alloc _), ((c2.below hb1 l2).alloc _), ((c3.below hb1 l3).alloc _), cells4_new _ _, bel_alloc (bel_call (hB) hb1) _⟩ ?_
  clear hb1 l0 l1 l2 l3 c0 c1 c2 c3 hB x20 x21 x22 x23
  generalize w1.heap.size = b5
  clear w1 W
  rintro W ⟨c0, c1, c2, c3, c4, hB⟩
  obtain ⟨x30, x31, x32, x33, -, -, -, -⟩ := id c3
  obtain ⟨x40, x41, x42, x43, -, -, -, -⟩ := id c4
  go_upto_region 14 with (first | (go_at_call 21; with_reducible refine (kad3 _).mono ?_; rintro e w1 ⟨rfl, hb1⟩))
  have l0 := c0.lt
  have l1 := c1.lt
  have l2 := c2.lt
  have l3 := c3.lt
  have l4 := c4.lt
  refine wp_gen (fun W => Cells4 W (w.heap.size) x ∧ Cells4 W (w.heap.size + 1) y ∧ Cells4 W e15 q ∧ Cells4 W e16 r ∧ Cells4 W b5 mm ∧ Cells4 W (w1.heap.size) x ∧ Below w.heap.size w W) ⟨((c0.below hb1 l0).alloc _), ((c1.below hb1 l1).alloc _), ((c2.below hb1 l2).alloc _), ((c3.below hb1 l3).alloc _), ((c4.below hb1 l4).alloc _), cells4_new _ _, bel_alloc (bel_call (hB) hb1) _⟩ ?_
  clear hb1 l0 l1 l2 l3 l4 c0 c1 c2 c3 c4 hB x30 x31 x32 x33 x40 x41 x42 x43
  generalize w1.heap.size = b6
  clear w1 W
  rintro W ⟨c0, c1, c2, c3, c4, c5, hB⟩
  have k00 := fun d os => (c0.regrown d os).c0
  have k01 := fun d os => (c0.regrown d os).c1
  have k02 := fun d os => (c0.regrown d os).c2
  have k03 := fun d os => (c0.regrown d os).c3
  have k30 := fun d os => (c3.regrown d os).c0
  have k31 := fun d os => (c3.regrown d os).c1
  have k32 := fun d os => (c3.regrown d os).c2
  have k33 := fun d os => (c3.regrown d os).c3
  have k50 := fun d os => (c5.regrown d os).c0
  have k51 := fun d os => (c5.regrown d os).c1
  have k52 := fun d os => (c5.regrown d os).c2
  have k53 := fun d os => (c5.regrown d os).c3
  have q0 := quiet_call W kof
  have q1 := quiet_call W kl3
  refine wp_region_quiet_below (by kernel_rfl) (by kernel_rfl) ?_
  repeat (go_big_quiet_step ((first | with_reducible exact q0 _ _ | with_reducible exact q1 _ _)))
  refine wpQuiet_nil ?_
  intro W1 hw'
  have d0 : Cells4 W1 (w.heap.size) x := by obtain ⟨p, rfl⟩ := hw'; exact c0.regrown _ _
  have d1 : Cells4 W1 (w.heap.size + 1) y := by obtain ⟨p, rfl⟩ := hw'; exact c1.regrown _ _
  have d2 : Cells4 W1 e15 q := by obtain ⟨p, rfl⟩ := hw'; exact c2.regrown _ _
  have d3 : Cells4 W1 e16 r := by obtain ⟨p, rfl⟩ := hw'; exact c3.regrown _ _
  have d4 : Cells4 W1 b5 mm := by obtain ⟨p, rfl⟩ := hw'; exact c4.regrown _ _
  have d5 : Cells4 W1 b6 x := by obtain ⟨p, rfl⟩ := hw'; exact c5.regrown _ _
  have hB1 : Below w.heap.size w W1 := by obtain ⟨p, rfl⟩ := hw'; exact hB.trans ((below_regrown W _ _).mono hB.size)
  clear hw' k00 k01 k02 k03 k30 k31 k32 k33 k50 k51 k52 k53 q0 q1 hB c0 c1 c2 c3 c4 c5 
  clear W
  go_upto_region 16 with (fail)
  refine wp_gen (fun W => Cells4 W (w.heap.size) x ∧ Cells4 W (w.heap.size + 1) y ∧ Cells4 W e15 q ∧ Cells4 W e16 r ∧ Cells4 W b5 mm ∧ Cells4 W b6 x ∧ Below w.heap.size w W) ⟨d0, d1, d2, d3, d4, d5, hB1⟩ ?_
  clear d0 d1 d2 d3 d4 d5 hB1
  clear W1
  rintro W ⟨c0, c1, c2, c3, c4, c5, hB⟩
  clear c2 c3 c4 c5
  obtain ⟨x10, x11, x12, x13, -, -, -, -⟩ := id c1
  go_upto_region 18 with (first | fail)
  have l0 := c0.lt
  have l1 := c1.lt
  refine wp_gen (fun W => Cells4 W (w.heap.size) x ∧ Cells4 W (w.heap.size + 1) y ∧ Below w.heap.size w W) ⟨c0, c1, hB⟩ ?_
  clear l0 l1 c0 c1 hB x10 x11 x12 x13
  clear W
  rintro W ⟨c0, c1, hB⟩
  obtain ⟨x00, x01, x02, x03, -, -, -, -⟩ := id c0
  obtain ⟨x10, x11, x12, x13, -, -, -, -⟩ := id c1
  go_upto_region 19 with (first | (go_at_call 14; with_reducible refine (kdy _).mono ?_; rintro e w1 ⟨rfl, hb1⟩))
  have l0 := c0.lt
  have l1 := c1.lt
  refine wp_gen (fun W => Cells4 W (w.heap.size) x ∧ Cells4 W (w.heap.size + 1) y ∧ Cells4 W (w1.heap.size) k ∧ Cells4 W (w1.heap.size + 1) l ∧ Below w.heap.size w W) ⟨(((c0.below hb1 l0).alloc _).alloc _), (((c1.below hb1 l1).alloc _).alloc _), (cells4_new _ _).alloc _, cells4_new' _ _ _ (by simp), bel_alloc (bel_alloc (bel_call (hB) hb1) _) _⟩ ?_
  clear hb1 l0 l1 c0 c1 hB x00 x01 x02 x03 x10 x11 x12 x13
  generalize w1.heap.size = b7
  clear w1 W
  rintro W ⟨c0, c1, c2, c3, hB⟩
  obtain ⟨x10, x11, x12, x13, -, -, -, -⟩ := id c1
  obtain ⟨x30, x31, x32, x33, -, -, -, -⟩ := id c3
  go_upto_region 20 with (first | (go_at_call 14; with_reducible refine (kdl _).mono ?_; rintro e w1 ⟨rfl, hb1⟩))
  have l0 := c0.lt
  have l1 := c1.lt
  have l2 := c2.lt
  have l3 := c3.lt
  refine wp_gen (fun W => Cells4 W (w.heap.size) x ∧ Cells4 W (w.heap.size + 1) y ∧ Cells4 W b7 k ∧ Cells4 W (b7 + 1) l ∧ Cells4 W (w1.heap.size) 0 ∧ Cells4 W (w1.heap.size + 1) l ∧ Below w.heap.size w W) ⟨(((c0.below hb1 l0).alloc _).alloc _), (((c1.below hb1 l1).alloc _).alloc _), (((c2.below hb1 l2).alloc _).alloc _), (((c3.below hb1 l3).alloc _).alloc _), (cells4_new _ _).alloc _, cells4_new' _ _ _ (by simp), bel_alloc (bel_alloc (bel_call (hB) hb1) _) _⟩ ?_
  clear hb1 l0 l1 l2 l3 c0 c1 c2 c3 hB x10 x11 x12 x13 x30 x31 x32 x33
  generalize w1.heap.size = b8
  clear w1 W
  rintro W ⟨c0, c1, c2, c3, c4, c5, hB⟩
  obtain ⟨x10, x11, x12, x13, -, -, -, -⟩ := id c1
  obtain ⟨x30, x31, x32, x33, -, -, -, -⟩ := id c3
  obtain ⟨x40, x41, x42, x43, -, -, -, -⟩ := id c4
  go_upto_region 22 with (first | (go_at_call 29; with_reducible refine (kl4 _).mono ?_; rintro e w1 ⟨rfl, hb1⟩))
  have l0 := c0.lt
  have l1 := c1.lt
  have l2 := c2.lt
  have l3 := c3.lt
  have l4 := c4.lt
  have l5 := c5.lt
  refine wp_gen (fun W => Cells4 W (w.heap.size) x ∧ Cells4 W (w.heap.size + 1) y ∧ Cells4 W b7 k ∧ Cells4 W (b7 + 1) l ∧ Cells4 W b8 0 ∧ Cells4 W (b8 + 1) l ∧ Below w.heap.size w W) ⟨(c0.below hb1 l0), (c1.below hb1 l1), (c2.below hb1 l2), (c3.below hb1 l3), (c4.below hb1 l4), (c5.below hb1 l5), bel_call (hB) hb1⟩ ?_
  clear hb1 l0 l1 l2 l3 l4 l5 c0 c1 c2 c3 c4 c5 hB x10 x11 x12 x13 x30 x31 x32 x33 x40 x41 x42 x43
  clear w1 W
  rintro W ⟨c0, c1, c2, c3, c4, c5, hB⟩
  obtain ⟨x00, x01, x02, x03, -, -, -, -⟩ := id c0
  obtain ⟨x30, x31, x32, x33, -, -, -, -⟩ := id c3
  go_upto_region 23 with (first | (go_at_call 24; with_reducible refine (ksb3 _).mono ?_; rintro e w1 ⟨rfl, hb1⟩))
  have l0 := c0.lt
  have l1 := c1.lt
  have l2 := c2.lt
  have l3 := c3.lt
  have l4 := c4.lt
  have l5 := c5.lt
  refine wp_gen (fun W => Cells4 W (w.heap.size) x ∧ Cells4 W (w.heap.size + 1) y ∧ Cells4 W b7 k ∧ Cells4 W (b7 + 1) l ∧ Cells4 W b8 0 ∧ Cells4 W (b8 + 1) l ∧ Cells4 W (w1.heap.size) ww ∧ Below w.heap.size w W) ⟨((c0.below hb1 l0).alloc _), ((c1.below hb1 l1).alloc _), ((c2.below hb1 l2).alloc _), ((c3.below hb1 l3).alloc _), ((c4.below hb1 l4).alloc _), ((c5.below hb1 l5).alloc _), cells4_new _ _, bel_alloc (bel_call (hB) hb1) _⟩ ?_
  clear hb1 l0 l1 l2 l3 l4 l5 c0 c1 c2 c3 c4 c5 hB x00 x01 x02 x03 x30 x31 x32 x33
  generalize w1.heap.size = b9
  clear w1 W
  rintro W ⟨c0, c1, c2, c3, c4, c5, c6, hB⟩
  obtain ⟨x10, x11, x12, x13, -, -, -, -⟩ := id c1
  obtain ⟨x60, x61, x62, x63, -, -, -, -⟩ := id c6
  go_upto_region 24 with (first | (go_at_call 14; with_reducible refine (kdw _).mono ?_; rintro e w1 ⟨rfl, hb1⟩))
  have l0 := c0.lt
  have l1 := c1.lt
  have l2 := c2.lt
  have l3 := c3.lt
  have l4 := c4.lt
  have l5 := c5.lt
  have l6 := c6.lt
  refine wp_gen (fun W => Cells4 W (w.heap.size) x ∧ Cells4 W (w.heap.size + 1) y ∧ Cells4 W b7 k ∧ Cells4 W (b7 + 1) l ∧ Cells4 W b8 0 ∧ Cells4 W (b8 + 1) l ∧ Cells4 W b9 ww ∧ Cells4 W (w1.heap.size) k ∧ Cells4 W (w1.heap.size + 1) 0 ∧ Below w.heap.size w W) ⟨(((c0.below hb1 l0).alloc _).alloc _), (((c1.below hb1 l1).alloc _).alloc _), (((c2.below hb1 l2).alloc _).alloc _), (((c3.below hb1 l3).alloc _).alloc _), (((c4.below hb1 l4).alloc _).alloc _), (((c5.below hb1 l5).alloc _).alloc _), (((c6.below hb1 l6).alloc _).alloc _), (cells4_new _ _).alloc _, cells4_new' _ _ _ (by simp), bel_alloc (bel_alloc (bel_call (hB) hb1) _) _⟩ ?_
  clear hb1 l0 l1 l2 l3 l4 l5 l6 c0 c1 c2 c3 c4 c5 c6 hB x10 x11 x12 x13 x60 x61 x62 x63
  generalize w1.heap.size = b10
  clear w1 W
  rintro W ⟨c0, c1, c2, c3, c4, c5, c6, c7, c8, hB⟩
  obtain ⟨x20, x21, x22, x23, -, -, -, -⟩ := id c2
  obtain ⟨x70, x71, x72, x73, -, -, -, -⟩ := id c7
  obtain ⟨x80, x81, x82, x83, -, -, -, -⟩ := id c8
  go_wp2_with (first | (go_at_call 20; with_reducible refine (works_c _).mono ?_; rintro e w1 ⟨rfl, hb1⟩))
  go_ret
  exact ⟨rfl, bel_call (hB) hb1⟩
end Go.Proofs.Ytefnlmiephombaa
