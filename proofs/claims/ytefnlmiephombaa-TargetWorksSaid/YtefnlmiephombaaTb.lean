/- The walks of target.Of and scantlingref03.Of. -/
import Derived.Test.YtefnlmiephombaaTl
namespace Go.Proofs.Ytefnlmiephombaa
open Go.RowKit Go.Sort

set_option maxRecDepth 100000 in
set_option maxHeartbeats 4000000 in
theorem of_hi (b s p u d : Int) (nf sg z : Bool) (w : World) (hs0 : 3 ≤ s) (hs1 : s ≤ 255) (hp0 : 0 ≤ p) (hp1 : p < 8388608)
    (e1 : b / 16777216 = s) (e2 : bits .and .u32 b 8388607 = p) (e3 : (bits .and .u32 b 8388608 != 0) = sg)
    (kof : ∀ w, Calls Try.prog 23 #[.int .u64 p] w fun e w' => e = .returned (.agg #[.int .u64 (L0 p), .int .u64 (L1 p), .int .u64 (L2 p), .int .u64 (L3 p)]) ∧ Below w.heap.size w w')
    (kup : ∀ w, Calls Try.prog 16 #[.agg #[.int .u64 (L0 p), .int .u64 (L1 p), .int .u64 (L2 p), .int .u64 (L3 p)], .int .i64 (8 * (s - 3))] w fun e w' => e = .returned (.agg #[.int .u64 (L0 u), .int .u64 (L1 u), .int .u64 (L2 u), .int .u64 (L3 u)]) ∧ Below w.heap.size w w')
    (kdn : ∀ w, Calls Try.prog 18 #[.agg #[.int .u64 (L0 u), .int .u64 (L1 u), .int .u64 (L2 u), .int .u64 (L3 u)], .int .i64 (8 * (s - 3))] w fun e w' => e = .returned (.agg #[.int .u64 (L0 d), .int .u64 (L1 d), .int .u64 (L2 d), .int .u64 (L3 d)]) ∧ Below w.heap.size w w')
    (n1 : ∀ w, (binOp .neq 24 (.agg #[.int .u64 (L0 d), .int .u64 (L1 d), .int .u64 (L2 d), .int .u64 (L3 d)]) (.agg #[.int .u64 (L0 p), .int .u64 (L1 p), .int .u64 (L2 p), .int .u64 (L3 p)])).run Try.prog w = .ok (.bool nf) w)
    (n2 : ∀ w, (binOp .eql 24 (.agg #[.int .u64 (L0 u), .int .u64 (L1 u), .int .u64 (L2 u), .int .u64 (L3 u)]) (.agg #[.int .u64 0, .int .u64 0, .int .u64 0, .int .u64 0])).run Try.prog w = .ok (.bool z) w)
    : Calls Try.prog 37 #[.int .u32 b] w fun e w' => e = .returned (.tuple #[if nf || sg || z then .agg #[.int .u64 0, .int .u64 0, .int .u64 0, .int .u64 0] else .agg #[.int .u64 (L0 u), .int .u64 (L1 u), .int .u64 (L2 u), .int .u64 (L3 u)], .bool (!(nf || sg || z))]) ∧ Below w.heap.size w w' := by
  have w1 : IntKind.i64.wrap s = s := by rw [IntKind.wrap_i64]; omega
  have w2 : IntKind.u64.wrap p = p := by rw [IntKind.wrap_u64]; omega
  have w3 : IntKind.i64.wrap (s - 3) = s - 3 := by rw [IntKind.wrap_i64]; omega
  have w4 : IntKind.i64.wrap (8 * (s - 3)) = 8 * (s - 3) := by rw [IntKind.wrap_i64]; omega
  have w5 : ¬ s < 3 := by omega
  go_enter Try.func37, Try.ntmps37
  go_upto_region 2 with (first | (go_at_call 23; with_reducible refine (kof _).mono ?_; rintro e w1 ⟨rfl, hb1⟩))
  refine wp_gen (fun W => Cells4 W w.heap.size 0 ∧ Cells4 W w1.heap.size p ∧ w.heap.size < w1.heap.size ∧ Below w.heap.size w W) ⟨((cells4_new' w _ 0 (by simp)).call hb1).alloc _, cells4_new _ _, by (have := hb1.size; simp at this; omega), bel_alloc (bel_call (bel_alloc (Below.refl _ _) _) hb1) _⟩ ?_
  clear hb1
  generalize w1.heap.size = b1
  clear w1
  rintro W ⟨c0, c1, hn1, hB⟩
  obtain ⟨x0, x1, x2, x3, -, -, -, -⟩ := id c1
  have l0 := c0.lt
  have l1 := c1.lt
  go_upto_region 4 with (first | (go_at_call 16; with_reducible refine (kup _).mono ?_; rintro e w1 ⟨rfl, hb1⟩; obtain ⟨hc, hf⟩ := bcell hb1))
  refine wp_gen (fun V => Cells4 V w.heap.size 0 ∧ Cells4 V b1 p ∧ Cells4 V W.heap.size u ∧ Below w.heap.size w V) ⟨((c0.alloc _).call hb1).put_other (by omega) _, ((c1.alloc _).call hb1).put_other (by omega) _, (((cells4_zero _)).call hb1).put _, below_put4 (bel_call (bel_alloc hB _) hb1) (by omega) _⟩ ?_
  clear hc hf hb1 w1 x0 x1 x2 x3 c0 c1 hB
  generalize W.heap.size = b2 at l0 l1
  clear W
  rintro W ⟨c0, c1, c2, hB⟩
  have k10 := fun d os => (c1.regrown d os).c0
  have k11 := fun d os => (c1.regrown d os).c1
  have k12 := fun d os => (c1.regrown d os).c2
  have k13 := fun d os => (c1.regrown d os).c3
  have k20 := fun d os => (c2.regrown d os).c0
  have k21 := fun d os => (c2.regrown d os).c1
  have k22 := fun d os => (c2.regrown d os).c2
  have k23 := fun d os => (c2.regrown d os).c3
  have q0 := quiet_call W kdn
  refine wp_region_quiet_below (by kernel_rfl) (by kernel_rfl) ?_
  repeat (go_big_quiet_step ((first | with_reducible exact q0 _ _)))
  refine wpQuiet_nil ?_
  intro W1 hw'
  have d0 : Cells4 W1 w.heap.size 0 := by obtain ⟨p, rfl⟩ := hw'; exact c0.regrown _ _
  have d2 : Cells4 W1 b2 u := by obtain ⟨p, rfl⟩ := hw'; exact c2.regrown _ _
  have hB1 : Below w.heap.size w W1 := by obtain ⟨p, rfl⟩ := hw'; exact bel_call hB (below_regrown W _ _)
  clear hw' k10 k11 k12 k13 k20 k21 k22 k23 q0 c0 c1 c2 hB
  clear W
  obtain ⟨x0, x1, x2, x3, f0, f1, f2, f3⟩ := id d0
  obtain ⟨y0, y1, y2, y3, -, -, -, -⟩ := id d2
  cases nf <;> cases sg <;> cases z
  all_goals go_wp2
  all_goals first | exact bodyPost_ret (v := .tuple #[.agg #[.int .u64 0, .int .u64 0, .int .u64 0, .int .u64 0], .bool false]) (by simp [results, Try.results37, go_sem, x0, x1, x2, x3]) rfl ⟨rfl, below_put4 hB1 (Nat.le_refl _) 0⟩ | exact bodyPost_ret (v := .tuple #[.agg #[.int .u64 (L0 u), .int .u64 (L1 u), .int .u64 (L2 u), .int .u64 (L3 u)], .bool true]) (by simp [results, Try.results37, go_sem, x0, x1, x2, x3]) rfl ⟨rfl, below_put4 hB1 (Nat.le_refl _) u⟩

set_option maxRecDepth 100000 in
set_option maxHeartbeats 4000000 in
theorem of_lo (b s p u : Int) (sg z : Bool) (w : World) (hs0 : 0 ≤ s) (hs1 : s < 3) (hp0 : 0 ≤ p) (hp1 : p < 8388608)
    (e1 : b / 16777216 = s) (e2 : bits .and .u32 b 8388607 = p) (e3 : (bits .and .u32 b 8388608 != 0) = sg)
    (kof : ∀ w, Calls Try.prog 23 #[.int .u64 p] w fun e w' => e = .returned (.agg #[.int .u64 (L0 p), .int .u64 (L1 p), .int .u64 (L2 p), .int .u64 (L3 p)]) ∧ Below w.heap.size w w')
    (kdn : ∀ w, Calls Try.prog 18 #[.agg #[.int .u64 (L0 p), .int .u64 (L1 p), .int .u64 (L2 p), .int .u64 (L3 p)], .int .i64 (8 * (3 - s))] w fun e w' => e = .returned (.agg #[.int .u64 (L0 u), .int .u64 (L1 u), .int .u64 (L2 u), .int .u64 (L3 u)]) ∧ Below w.heap.size w w')
    (n2 : ∀ w, (binOp .eql 24 (.agg #[.int .u64 (L0 u), .int .u64 (L1 u), .int .u64 (L2 u), .int .u64 (L3 u)]) (.agg #[.int .u64 0, .int .u64 0, .int .u64 0, .int .u64 0])).run Try.prog w = .ok (.bool z) w)
    : Calls Try.prog 37 #[.int .u32 b] w fun e w' => e = .returned (.tuple #[if sg || z then .agg #[.int .u64 0, .int .u64 0, .int .u64 0, .int .u64 0] else .agg #[.int .u64 (L0 u), .int .u64 (L1 u), .int .u64 (L2 u), .int .u64 (L3 u)], .bool (!(sg || z))]) ∧ Below w.heap.size w w' := by
  have w1 : IntKind.i64.wrap s = s := by rw [IntKind.wrap_i64]; omega
  have w2 : IntKind.u64.wrap p = p := by rw [IntKind.wrap_u64]; omega
  have w3 : IntKind.i64.wrap (3 - s) = 3 - s := by rw [IntKind.wrap_i64]; omega
  have w4 : IntKind.i64.wrap (8 * (3 - s)) = 8 * (3 - s) := by rw [IntKind.wrap_i64]; omega
  go_enter Try.func37, Try.ntmps37
  go_upto_region 2 with (first | (go_at_call 23; with_reducible refine (kof _).mono ?_; rintro e w1 ⟨rfl, hb1⟩))
  refine wp_gen (fun W => Cells4 W w.heap.size 0 ∧ Cells4 W w1.heap.size p ∧ w.heap.size < w1.heap.size ∧ Below w.heap.size w W) ⟨((cells4_new' w _ 0 (by simp)).call hb1).alloc _, cells4_new _ _, by (have := hb1.size; simp at this; omega), bel_alloc (bel_call (bel_alloc (Below.refl _ _) _) hb1) _⟩ ?_
  clear hb1
  generalize w1.heap.size = b1
  clear w1
  rintro W ⟨c0, c1, hn1, hB⟩
  obtain ⟨x0, x1, x2, x3, -, -, -, -⟩ := id c1
  have l0 := c0.lt
  have l1 := c1.lt
  go_upto_region 8 with (first | (go_at_call 18; with_reducible refine (kdn _).mono ?_; rintro e w1 ⟨rfl, hb1⟩; obtain ⟨hc, hf⟩ := bcell hb1))
  refine wp_gen (fun V => Cells4 V w.heap.size 0 ∧ Cells4 V b1 p ∧ Cells4 V W.heap.size u ∧ Below w.heap.size w V) ⟨((c0.alloc _).call hb1).put_other (by omega) _, ((c1.alloc _).call hb1).put_other (by omega) _, (((cells4_zero _)).call hb1).put _, below_put4 (bel_call (bel_alloc hB _) hb1) (by omega) _⟩ ?_
  clear hc hf hb1 w1 x0 x1 x2 x3 c0 c1 hB
  generalize W.heap.size = b2 at l0 l1
  clear W
  rintro W ⟨c0, c1, c2, hB⟩
  obtain ⟨x0, x1, x2, x3, f0, f1, f2, f3⟩ := id c0
  obtain ⟨y0, y1, y2, y3, -, -, -, -⟩ := id c2
  cases sg <;> cases z
  all_goals go_wp2
  all_goals first | exact bodyPost_ret (v := .tuple #[.agg #[.int .u64 0, .int .u64 0, .int .u64 0, .int .u64 0], .bool false]) (by simp [results, Try.results37, go_sem, x0, x1, x2, x3]) rfl ⟨rfl, below_put4 hB (Nat.le_refl _) 0⟩ | exact bodyPost_ret (v := .tuple #[.agg #[.int .u64 (L0 u), .int .u64 (L1 u), .int .u64 (L2 u), .int .u64 (L3 u)], .bool true]) (by simp [results, Try.results37, go_sem, x0, x1, x2, x3]) rfl ⟨rfl, below_put4 hB (Nat.le_refl _) u⟩

set_option maxRecDepth 100000 in
set_option maxHeartbeats 4000000 in
theorem rof_lo (b s p u : Int) (sg z : Bool) (w : World) (hs0 : 0 ≤ s) (hs1 : s < 3) (hp0 : 0 ≤ p) (hp1 : p < 8388608)
    (e1 : b / 16777216 = s) (e2 : bits .and .u32 b 8388607 = p) (e3 : (bits .and .u32 b 8388608 != 0) = sg)
    (kof : ∀ w, Calls Try.prog 32 #[.int .u64 p] w fun e w' => e = .returned (.agg #[.int .u64 (L0 p), .int .u64 (L1 p), .int .u64 (L2 p), .int .u64 (L3 p)]) ∧ Below w.heap.size w w')
    (kdn : ∀ w, Calls Try.prog 19 #[.agg #[.int .u64 (L0 p), .int .u64 (L1 p), .int .u64 (L2 p), .int .u64 (L3 p)], .int .i64 (8 * (3 - s))] w fun e w' => e = .returned (.agg #[.int .u64 (L0 u), .int .u64 (L1 u), .int .u64 (L2 u), .int .u64 (L3 u)]) ∧ Below w.heap.size w w')
    (n2 : ∀ w, (binOp .eql 24 (.agg #[.int .u64 (L0 u), .int .u64 (L1 u), .int .u64 (L2 u), .int .u64 (L3 u)]) (.agg #[.int .u64 0, .int .u64 0, .int .u64 0, .int .u64 0])).run Try.prog w = .ok (.bool z) w)
    : Calls Try.prog 38 #[.int .u32 b] w fun e w' => e = .returned (.tuple #[if sg || z then .agg #[.int .u64 0, .int .u64 0, .int .u64 0, .int .u64 0] else .agg #[.int .u64 (L0 u), .int .u64 (L1 u), .int .u64 (L2 u), .int .u64 (L3 u)], .bool (!(sg || z))]) ∧ Below w.heap.size w w' := by
  have w1 : IntKind.i64.wrap s = s := by rw [IntKind.wrap_i64]; omega
  have w2 : IntKind.u64.wrap p = p := by rw [IntKind.wrap_u64]; omega
  have w3 : IntKind.i64.wrap (3 - s) = 3 - s := by rw [IntKind.wrap_i64]; omega
  have w4 : IntKind.i64.wrap (8 * (3 - s)) = 8 * (3 - s) := by rw [IntKind.wrap_i64]; omega
  go_enter Try.func38, Try.ntmps38
  go_upto_region 3 with (first | (go_at_call 32; with_reducible refine (kof _).mono ?_; rintro e w1 ⟨rfl, hb1⟩))
  refine wp_gen (fun W => Cells4 W w.heap.size 0 ∧ Cells4 W w1.heap.size p ∧ w.heap.size < w1.heap.size ∧ Below w.heap.size w W) ⟨((cells4_new' w _ 0 (by simp)).call hb1).alloc _, cells4_new _ _, by (have := hb1.size; simp at this; omega), bel_alloc (bel_call (bel_alloc (Below.refl _ _) _) hb1) _⟩ ?_
  clear hb1
  generalize w1.heap.size = b1
  clear w1
  rintro W ⟨c0, c1, hn1, hB⟩
  obtain ⟨x0, x1, x2, x3, -, -, -, -⟩ := id c1
  have l0 := c0.lt
  have l1 := c1.lt
  go_upto_region 9 with (first | (go_at_call 19; with_reducible refine (kdn _).mono ?_; rintro e w1 ⟨rfl, hb1⟩; obtain ⟨hc, hf⟩ := bcell hb1))
  refine wp_gen (fun V => Cells4 V w.heap.size 0 ∧ Cells4 V b1 p ∧ Cells4 V W.heap.size u ∧ Below w.heap.size w V) ⟨((c0.alloc _).call hb1).put_other (by omega) _, ((c1.alloc _).call hb1).put_other (by omega) _, (((cells4_zero _)).call hb1).put _, below_put4 (bel_call (bel_alloc hB _) hb1) (by omega) _⟩ ?_
  clear hc hf hb1 w1 x0 x1 x2 x3 c0 c1 hB
  generalize W.heap.size = b2 at l0 l1
  clear W
  rintro W ⟨c0, c1, c2, hB⟩
  obtain ⟨x0, x1, x2, x3, f0, f1, f2, f3⟩ := id c0
  obtain ⟨y0, y1, y2, y3, -, -, -, -⟩ := id c2
  cases sg <;> cases z
  all_goals go_wp2
  all_goals first | exact bodyPost_ret (v := .tuple #[.agg #[.int .u64 0, .int .u64 0, .int .u64 0, .int .u64 0], .bool false]) (by simp [results, Try.results38, go_sem, x0, x1, x2, x3]) rfl ⟨rfl, below_put4 hB (Nat.le_refl _) 0⟩ | exact bodyPost_ret (v := .tuple #[.agg #[.int .u64 (L0 u), .int .u64 (L1 u), .int .u64 (L2 u), .int .u64 (L3 u)], .bool true]) (by simp [results, Try.results38, go_sem, x0, x1, x2, x3]) rfl ⟨rfl, below_put4 hB (Nat.le_refl _) u⟩

set_option maxRecDepth 100000 in
set_option maxHeartbeats 4000000 in
theorem rof_hi (b s p u l : Int) (nz sg z : Bool) (w : World) (hs0 : 3 ≤ s) (hs1 : s ≤ 255) (hp0 : 0 ≤ p) (hp1 : p < 8388608) (hl0 : 0 ≤ l) (hl1 : l ≤ 256)
    (e1 : b / 16777216 = s) (e2 : bits .and .u32 b 8388607 = p) (e3 : (bits .and .u32 b 8388608 != 0) = sg)
    (kof : ∀ w, Calls Try.prog 32 #[.int .u64 p] w fun e w' => e = .returned (.agg #[.int .u64 (L0 p), .int .u64 (L1 p), .int .u64 (L2 p), .int .u64 (L3 p)]) ∧ Below w.heap.size w w')
    (kup : ∀ w, Calls Try.prog 17 #[.agg #[.int .u64 (L0 p), .int .u64 (L1 p), .int .u64 (L2 p), .int .u64 (L3 p)], .int .i64 (8 * (s - 3))] w fun e w' => e = .returned (.agg #[.int .u64 (L0 u), .int .u64 (L1 u), .int .u64 (L2 u), .int .u64 (L3 u)]) ∧ Below w.heap.size w w')
    (kbt : ∀ w, Calls Try.prog 31 #[.agg #[.int .u64 (L0 p), .int .u64 (L1 p), .int .u64 (L2 p), .int .u64 (L3 p)]] w fun e w' => e = .returned (.int .i64 l) ∧ Below w.heap.size w w')
    (n1 : ∀ w, (binOp .neq 24 (.agg #[.int .u64 (L0 p), .int .u64 (L1 p), .int .u64 (L2 p), .int .u64 (L3 p)]) (.agg #[.int .u64 0, .int .u64 0, .int .u64 0, .int .u64 0])).run Try.prog w = .ok (.bool nz) w)
    (n2 : ∀ w, (binOp .eql 24 (.agg #[.int .u64 (L0 u), .int .u64 (L1 u), .int .u64 (L2 u), .int .u64 (L3 u)]) (.agg #[.int .u64 0, .int .u64 0, .int .u64 0, .int .u64 0])).run Try.prog w = .ok (.bool z) w)
    : Calls Try.prog 38 #[.int .u32 b] w fun e w' => e = .returned (.tuple #[if (decide (256 < l + 8 * (s - 3)) && nz) || z || sg then .agg #[.int .u64 0, .int .u64 0, .int .u64 0, .int .u64 0] else .agg #[.int .u64 (L0 u), .int .u64 (L1 u), .int .u64 (L2 u), .int .u64 (L3 u)], .bool (!((decide (256 < l + 8 * (s - 3)) && nz) || z || sg))]) ∧ Below w.heap.size w w' := by
  have w1 : IntKind.i64.wrap s = s := by rw [IntKind.wrap_i64]; omega
  have w2 : IntKind.u64.wrap p = p := by rw [IntKind.wrap_u64]; omega
  have w3 : IntKind.i64.wrap (s - 3) = s - 3 := by rw [IntKind.wrap_i64]; omega
  have w4 : IntKind.i64.wrap (8 * (s - 3)) = 8 * (s - 3) := by rw [IntKind.wrap_i64]; omega
  have w5 : ¬ s < 3 := by omega
  have w6 : IntKind.i64.wrap (l + 8 * (s - 3)) = l + 8 * (s - 3) := by rw [IntKind.wrap_i64]; omega
  go_enter Try.func38, Try.ntmps38
  go_upto_region 3 with (first | (go_at_call 32; with_reducible refine (kof _).mono ?_; rintro e w1 ⟨rfl, hb1⟩))
  refine wp_gen (fun W => Cells4 W w.heap.size 0 ∧ Cells4 W w1.heap.size p ∧ w.heap.size < w1.heap.size ∧ Below w.heap.size w W) ⟨((cells4_new' w _ 0 (by simp)).call hb1).alloc _, cells4_new _ _, by (have := hb1.size; simp at this; omega), bel_alloc (bel_call (bel_alloc (Below.refl _ _) _) hb1) _⟩ ?_
  clear hb1
  generalize w1.heap.size = b1
  clear w1
  rintro W ⟨c0, c1, hn1, hB⟩
  obtain ⟨x0, x1, x2, x3, -, -, -, -⟩ := id c1
  have l0 := c0.lt
  have l1 := c1.lt
  go_upto_region 7 with (first | (go_at_call 17; with_reducible refine (kup _).mono ?_; rintro e w1 ⟨rfl, hb1⟩; obtain ⟨hc, hf⟩ := bcell hb1))
  refine wp_gen (fun V => Cells4 V w.heap.size 0 ∧ Cells4 V b1 p ∧ Cells4 V W.heap.size u ∧ Below w.heap.size w V) ⟨((c0.alloc _).call hb1).put_other (by omega) _, ((c1.alloc _).call hb1).put_other (by omega) _, (((cells4_zero _)).call hb1).put _, below_put4 (bel_call (bel_alloc hB _) hb1) (by omega) _⟩ ?_
  clear hc hf hb1 w1 x0 x1 x2 x3 c0 c1 hB
  generalize W.heap.size = b2 at l0 l1
  clear W
  rintro W ⟨c0, c1, c2, hB⟩
  obtain ⟨x0, x1, x2, x3, f0, f1, f2, f3⟩ := id c0
  obtain ⟨y0, y1, y2, y3, -, -, -, -⟩ := id c2
  obtain ⟨z0, z1, z2, z3, -, -, -, -⟩ := id c1
  generalize hbg : decide (256 < l + 8 * (s - 3)) = bg
  cases bg <;> cases nz <;> cases sg <;> cases z
  all_goals go_wp2_with (first | (go_at_call 31; with_reducible refine (kbt _).mono ?_; rintro e w1 ⟨rfl, hb1⟩; obtain ⟨x0, x1, x2, x3, f0, f1, f2, f3⟩ := id (c0.call hb1); obtain ⟨y0, y1, y2, y3, -, -, -, -⟩ := id (c2.call hb1); obtain ⟨z0, z1, z2, z3, -, -, -, -⟩ := id (c1.call hb1)))
  all_goals first | exact bodyPost_ret (v := .tuple #[.agg #[.int .u64 0, .int .u64 0, .int .u64 0, .int .u64 0], .bool false]) (by simp [results, Try.results38, go_sem, x0, x1, x2, x3]) rfl ⟨rfl, below_put4 (bel_call hB hb1) (Nat.le_refl _) 0⟩ | exact bodyPost_ret (v := .tuple #[.agg #[.int .u64 (L0 u), .int .u64 (L1 u), .int .u64 (L2 u), .int .u64 (L3 u)], .bool true]) (by simp [results, Try.results38, go_sem, x0, x1, x2, x3]) rfl ⟨rfl, below_put4 (bel_call hB hb1) (Nat.le_refl _) u⟩
end Go.Proofs.Ytefnlmiephombaa
