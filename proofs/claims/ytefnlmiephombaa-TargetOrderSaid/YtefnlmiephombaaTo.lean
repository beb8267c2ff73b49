/- The walk of TargetOrder, from its calls' answers. -/
import Derived.Test.YtefnlmiephombaaHw
import Derived.Test.YtefnlmiephombaaTl
namespace Go.Proofs.Ytefnlmiephombaa
open Go.RowKit Go.Sort

theorem RowU.heap {g : Nat} {bs : List Int} {w : World} (h : RowU g bs w) : w.heap[g]? = some (.cells (bs.map (Value.int .u8)).toArray 42 (0, 0)) := h
theorem RowU.new' (w : World) (bs : List Int) (b : Nat) (hb : b = w.heap.size) : RowU b bs (w.alloc (.cells (bs.map (Value.int .u8)).toArray 42)) := hb ▸ RowU.new w bs

set_option maxRecDepth 100000 in
set_option maxHeartbeats 4000000 in
theorem order_zf (bs : List Int) (t u a b d : Int) (ov : Bool) (hb : bs.length = 32) (w : World)
    (kwt : ∀ w, Calls Try.prog 42 #[.agg #[.int .u64 (L0 t), .int .u64 (L1 t), .int .u64 (L2 t), .int .u64 (L3 t)]] w fun e w' => e = .returned (.agg #[.int .u64 (L0 a), .int .u64 (L1 a), .int .u64 (L2 a), .int .u64 (L3 a)]) ∧ Below w.heap.size w w')
    (kwu : ∀ w, Calls Try.prog 42 #[.agg #[.int .u64 (L0 u), .int .u64 (L1 u), .int .u64 (L2 u), .int .u64 (L3 u)]] w fun e w' => e = .returned (.agg #[.int .u64 (L0 b), .int .u64 (L1 b), .int .u64 (L2 b), .int .u64 (L3 b)]) ∧ Below w.heap.size w w')
    (klt : ∀ w, Calls Try.prog 29 #[.agg #[.int .u64 (L0 t), .int .u64 (L1 t), .int .u64 (L2 t), .int .u64 (L3 t)], .agg #[.int .u64 (L0 u), .int .u64 (L1 u), .int .u64 (L2 u), .int .u64 (L3 u)]] w fun e w' => e = .returned (.bool false) ∧ Below w.heap.size w w')
    (n1 : ∀ w, (binOp .neq 24 (.agg #[.int .u64 (L0 t), .int .u64 (L1 t), .int .u64 (L2 t), .int .u64 (L3 t)]) (.agg #[.int .u64 (L0 0), .int .u64 (L1 0), .int .u64 (L2 0), .int .u64 (L3 0)])).run Try.prog w = .ok (.bool false) w)
    (n2 : ∀ w, (binOp .eql 24 (.agg #[.int .u64 (L0 t), .int .u64 (L1 t), .int .u64 (L2 t), .int .u64 (L3 t)]) (.agg #[.int .u64 (L0 0), .int .u64 (L1 0), .int .u64 (L2 0), .int .u64 (L3 0)])).run Try.prog w = .ok (.bool true) w)
    (kof : ∀ w, Calls Try.prog 23 #[.int .u64 1] w fun e w' => e = .returned (.agg #[.int .u64 (L0 1), .int .u64 (L1 1), .int .u64 (L2 1), .int .u64 (L3 1)]) ∧ Below w.heap.size w w')
    (kad : ∀ w, Calls Try.prog 21 #[.agg #[.int .u64 (L0 t), .int .u64 (L1 t), .int .u64 (L2 t), .int .u64 (L3 t)], .agg #[.int .u64 (L0 1), .int .u64 (L1 1), .int .u64 (L2 1), .int .u64 (L3 1)]] w fun e w' => e = .returned (.tuple #[.agg #[.int .u64 (L0 d), .int .u64 (L1 d), .int .u64 (L2 d), .int .u64 (L3 d)], .bool ov]) ∧ Below w.heap.size w w')
    (k41 : ∀ w, Calls Try.prog 41 #[] w fun e w' => e = .returned (.bool true) ∧ Below w.heap.size w w')
    : Calls Try.prog 12 #[big t, big u, hsh bs] w fun e w' => e = .returned (.bool true) ∧ Below w.heap.size w w' := by
  have hib := info42 (bs.map (Value.int .u8)).toArray.size (by simp [hb])
  have HIB := Lib.hid hib
  clear hb hib
  unfold big hsh
  go_enter Try.func12, Try.ntmps12
  go_upto_region 1 with (fail)
  refine wp_gen (fun W => Cells4 W w.heap.size t ∧ Cells4 W (w.heap.size + 1) u ∧ RowU (w.heap.size + 1 + 1) bs W ∧ Below w.heap.size w W) ⟨((cells4_new w t).alloc _).alloc _, (cells4_new' (w.alloc _) _ u (by simp)).alloc _, RowU.new' ((w.alloc _).alloc _) bs _ (by simp), bel_alloc (bel_alloc (bel_alloc (Below.refl _ _) _) _) _⟩ ?_
  rintro W ⟨c0, c1, c2, hB⟩
  obtain ⟨x00, x01, x02, x03, -, -, -, -⟩ := id c0
  go_upto_region 2 with (first | (go_at_call 42; with_reducible refine (kwt _).mono ?_; rintro e w1 ⟨rfl, hb1⟩))
  have l0 := c0.lt
  have l1 := c1.lt
  have l2 := c2.lt
  refine wp_gen (fun W => Cells4 W (w.heap.size) t ∧ Cells4 W (w.heap.size + 1) u ∧ RowU (w.heap.size + 1 + 1) bs W ∧ Cells4 W (w1.heap.size) a ∧ Below w.heap.size w W) ⟨((c0.below hb1 l0).alloc _), ((c1.below hb1 l1).alloc _), ((c2.below hb1 l2).alloc _), cells4_new _ _, bel_alloc (bel_call (hB) hb1) _⟩ ?_
  clear hb1 l0 l1 l2 c0 c1 c2 hB x00 x01 x02 x03
  generalize w1.heap.size = b1
  clear w1 W
  rintro W ⟨c0, c1, c2, c3, hB⟩
  obtain ⟨x10, x11, x12, x13, -, -, -, -⟩ := id c1
  go_upto_region 3 with (first | (go_at_call 42; with_reducible refine (kwu _).mono ?_; rintro e w1 ⟨rfl, hb1⟩))
  have l0 := c0.lt
  have l1 := c1.lt
  have l2 := c2.lt
  have l3 := c3.lt
  refine wp_gen (fun W => Cells4 W (w.heap.size) t ∧ Cells4 W (w.heap.size + 1) u ∧ RowU (w.heap.size + 1 + 1) bs W ∧ Cells4 W b1 a ∧ Cells4 W (w1.heap.size) b ∧ Below w.heap.size w W) ⟨((c0.below hb1 l0).alloc _), ((c1.below hb1 l1).alloc _), ((c2.below hb1 l2).alloc _), ((c3.below hb1 l3).alloc _), cells4_new _ _, bel_alloc (bel_call (hB) hb1) _⟩ ?_
  clear hb1 l0 l1 l2 l3 c0 c1 c2 c3 hB x10 x11 x12 x13
  generalize w1.heap.size = b2
  clear w1 W
  rintro W ⟨c0, c1, c2, c3, c4, hB⟩
  obtain ⟨x00, x01, x02, x03, -, -, -, -⟩ := id c0
  obtain ⟨x10, x11, x12, x13, -, -, -, -⟩ := id c1
  go_upto_region 5 with (first | (go_at_call 29; with_reducible refine (klt _).mono ?_; rintro e w1 ⟨rfl, hb1⟩))
  have l0 := c0.lt
  have l1 := c1.lt
  have l2 := c2.lt
  have l3 := c3.lt
  have l4 := c4.lt
  refine wp_gen (fun W => Cells4 W (w.heap.size) t ∧ Cells4 W (w.heap.size + 1) u ∧ RowU (w.heap.size + 1 + 1) bs W ∧ Cells4 W b1 a ∧ Cells4 W b2 b ∧ Below w.heap.size w W) ⟨(c0.below hb1 l0), (c1.below hb1 l1), (c2.below hb1 l2), (c3.below hb1 l3), (c4.below hb1 l4), bel_call (hB) hb1⟩ ?_
  clear hb1 l0 l1 l2 l3 l4 c0 c1 c2 c3 c4 hB x00 x01 x02 x03 x10 x11 x12 x13
  clear w1 W
  rintro W ⟨c0, c1, c2, c3, c4, hB⟩
  go_upto_region 6 with (fail)
  refine wp_gen (fun V => Cells4 V (w.heap.size) t ∧ Cells4 V (w.heap.size + 1) u ∧ RowU (w.heap.size + 1 + 1) bs V ∧ Cells4 V b1 a ∧ Cells4 V b2 b ∧ Cells4 V W.heap.size 0 ∧ Below w.heap.size w V) ⟨c0.alloc _, c1.alloc _, c2.alloc _, c3.alloc _, c4.alloc _, cells4_zero _, bel_alloc hB _⟩ ?_
  clear c0 c1 c2 c3 c4 hB
  generalize W.heap.size = b3
  clear W
  rintro W ⟨c0, c1, c2, c3, c4, c5, hB⟩
  obtain ⟨x00, x01, x02, x03, -, -, -, -⟩ := id c0
  obtain ⟨x50, x51, x52, x53, -, -, -, -⟩ := id c5
  go_upto_region 8 with (first | fail)
  have l0 := c0.lt
  have l1 := c1.lt
  have l2 := c2.lt
  have l3 := c3.lt
  have l4 := c4.lt
  have l5 := c5.lt
  refine wp_gen (fun W => Cells4 W (w.heap.size) t ∧ Cells4 W (w.heap.size + 1) u ∧ RowU (w.heap.size + 1 + 1) bs W ∧ Cells4 W b1 a ∧ Cells4 W b2 b ∧ Cells4 W b3 0 ∧ Below w.heap.size w W) ⟨c0, c1, c2, c3, c4, c5, hB⟩ ?_
  clear l0 l1 l2 l3 l4 l5 c0 c1 c2 c3 c4 c5 hB x00 x01 x02 x03 x50 x51 x52 x53
  clear W
  rintro W ⟨c0, c1, c2, c3, c4, c5, hB⟩
  refine wp_gen (fun W => Cells4 W (w.heap.size) t ∧ Cells4 W b3 0 ∧ Cells4 W b1 a ∧ Below w.heap.size w W) ⟨c0, c5, c3, hB⟩ ?_
  clear c0 c1 c2 c3 c4 c5 hB
  clear W
  rintro W ⟨c0, c1, c2, hB⟩
  obtain ⟨x00, x01, x02, x03, -, -, -, -⟩ := id c0
  go_cut [10, 11] (fun s10 s11 wx => ∃ e10 : Nat, s10 = .pointer (some ⟨e10, 0, none⟩) ∧ s11 = .bool ov ∧ Cells4 wx (w.heap.size) t ∧ Cells4 wx b3 0 ∧ Cells4 wx b1 a ∧ Cells4 wx e10 d ∧ Below w.heap.size w wx)
  case first =>
    have mk : ∀ w', Below W.heap.size W w' → w'.cell? ⟨w.heap.size, 0, none⟩ = some (.int .u64 (L0 t)) ∧ w'.cell? ⟨w.heap.size, 1, none⟩ = some (.int .u64 (L1 t)) ∧ w'.cell? ⟨w.heap.size, 2, none⟩ = some (.int .u64 (L2 t)) ∧ w'.cell? ⟨w.heap.size, 3, none⟩ = some (.int .u64 (L3 t)) := fun w' hb' => ⟨(c0.call hb').c0, (c0.call hb').c1, (c0.call hb').c2, (c0.call hb').c3⟩
    go_region_held3 (fun w' => w'.cell? ⟨w.heap.size, 0, none⟩ = some (.int .u64 (L0 t)) ∧ w'.cell? ⟨w.heap.size, 1, none⟩ = some (.int .u64 (L1 t)) ∧ w'.cell? ⟨w.heap.size, 2, none⟩ = some (.int .u64 (L2 t)) ∧ w'.cell? ⟨w.heap.size, 3, none⟩ = some (.int .u64 (L3 t))) (first | (with_reducible refine mk _ ?_; repeat (first | with_reducible exact Below.refl _ _ | with_reducible refine bel_drew ?_ | with_reducible refine bel_alloc ?_ _ | with_reducible refine bel_set ?_ _ _ (Nat.le_refl _) _ | with_reducible refine hq2 ?_ | with_reducible refine hq1 ?_ | with_reducible refine bel_set ?_ _ _ hz2 _ | with_reducible refine bel_set ?_ _ _ hz1 _)) | fail) (first | (go_at_call 23; with_reducible refine (kof _).mono ?_; rintro e w1 ⟨rfl, hb1⟩; have hq1 : Below W.heap.size W _ → Below W.heap.size W w1 := fun h => bel_call h hb1; have hv1 : ∀ b v, Cells4 _ b v → Cells4 w1 b v := fun _ _ h => h.call hb1; have hs1 := hb1.size; (try (have hy1_0_0 : W.heap.size < w1.heap.size := by (have hh := hb1.size; (try simp at hh); omega))); obtain ⟨hc1, hf1⟩ := bcell hb1; have hz1 : W.heap.size ≤ w1.heap.size := by (have hh := hb1.size; (try simp at hh); omega)) | (go_at_call 21; with_reducible refine (kad _).mono ?_; rintro e w2 ⟨rfl, hb2⟩; have hq2 : Below W.heap.size W _ → Below W.heap.size W w2 := fun h => bel_call h hb2; have hv2 : ∀ b v, Cells4 _ b v → Cells4 w2 b v := fun _ _ h => h.call hb2; have hs2 := hb2.size; (try (have hy2_0_0 : W.heap.size < w2.heap.size := by (have hh := hb2.size; (try simp at hh); omega))); (try (have hy2_1_0 : w1.heap.size < w2.heap.size := by (have hh := hb2.size; (try simp at hh); omega))); obtain ⟨hc2, hf2⟩ := bcell hb2; have hz2 : W.heap.size ≤ w2.heap.size := by (have hh := hb2.size; (try simp at hh); omega)) | fail)
    all_goals (go_wp2_with fail; go_meet)
    all_goals refine (fun (h1 : Below W.heap.size W _) (k10 : Cells4 _ _ d) => ⟨_, rfl, rfl, c0.call h1, c1.call h1, c2.call h1, k10, bel_call hB h1⟩) ?_ ?_
    all_goals (first | (with_reducible refine Below.trans (Below.refl _ _) ?_; repeat (first | with_reducible exact Below.refl _ _ | with_reducible refine bel_drew ?_ | with_reducible refine bel_alloc ?_ _ | with_reducible refine bel_set ?_ _ _ (Nat.le_refl _) _ | with_reducible refine hq2 ?_ | with_reducible refine hq1 ?_ | with_reducible refine bel_set ?_ _ _ hz2 _ | with_reducible refine bel_set ?_ _ _ hz1 _)) | (repeat (first | with_reducible exact cells4_zero _ | with_reducible exact cells4_new _ _ | with_reducible refine Cells4.alloc ?_ _ | with_reducible refine Cells4.drew ?_ | with_reducible refine hv2 _ _ ?_ | with_reducible refine hv1 _ _ ?_ | with_reducible refine cells4_puts (u := 0) ?_ _)))
  case' rest =>
    obtain ⟨e10, rfl, rfl, nc0, nc1, nc2, nc3, hB'⟩ := hcut
    clear c0 c1 c2 hB x00 x01 x02 x03 
    clear W
    go_upto_region 9 with (fail)
    refine wp_gen (fun W => Cells4 W (w.heap.size) t ∧ Cells4 W b3 0 ∧ Cells4 W b1 a ∧ Cells4 W e10 d ∧ Below w.heap.size w W) ⟨nc0, nc1, nc2, nc3, hB'⟩ ?_
    clear nc0 nc1 nc2 nc3 hB'
    clear wc
  rintro W ⟨c0, c1, c2, c3, hB⟩
  obtain ⟨x00, x01, x02, x03, -, -, -, -⟩ := id c0
  obtain ⟨x10, x11, x12, x13, -, -, -, -⟩ := id c1
  go_upto_region 10 with (first | fail)
  have l0 := c0.lt
  have l1 := c1.lt
  have l2 := c2.lt
  have l3 := c3.lt
  refine wp_gen (fun W => Cells4 W (w.heap.size) t ∧ Cells4 W b3 0 ∧ Cells4 W b1 a ∧ Cells4 W e10 d ∧ Below w.heap.size w W) ⟨c0, c1, c2, c3, hB⟩ ?_
  clear l0 l1 l2 l3 c0 c1 c2 c3 hB x00 x01 x02 x03 x10 x11 x12 x13
  clear W
  rintro W ⟨c0, c1, c2, c3, hB⟩
  have k00 := fun d os => (c0.regrown d os).c0
  have k01 := fun d os => (c0.regrown d os).c1
  have k02 := fun d os => (c0.regrown d os).c2
  have k03 := fun d os => (c0.regrown d os).c3
  have k10 := fun d os => (c1.regrown d os).c0
  have k11 := fun d os => (c1.regrown d os).c1
  have k12 := fun d os => (c1.regrown d os).c2
  have k13 := fun d os => (c1.regrown d os).c3
  have q0 := quiet_call W k41
  refine wp_region_quiet_below (by kernel_rfl) (by kernel_rfl) ?_
  repeat (go_big_quiet_step ((first | with_reducible exact q0 _ _)))
  refine wpQuiet_nil ?_
  intro W1 hw'
  have hB1 : Below w.heap.size w W1 := by obtain ⟨p, rfl⟩ := hw'; exact hB.trans ((below_regrown W _ _).mono hB.size)
  clear hw'
  go_wp2
  go_ret
  exact ⟨rfl, hB1⟩

set_option maxRecDepth 100000 in
set_option maxHeartbeats 4000000 in
theorem order_zt (bs : List Int) (t u a b d : Int) (ov : Bool) (hb : bs.length = 32) (w : World)
    (kwt : ∀ w, Calls Try.prog 42 #[.agg #[.int .u64 (L0 t), .int .u64 (L1 t), .int .u64 (L2 t), .int .u64 (L3 t)]] w fun e w' => e = .returned (.agg #[.int .u64 (L0 a), .int .u64 (L1 a), .int .u64 (L2 a), .int .u64 (L3 a)]) ∧ Below w.heap.size w w')
    (kwu : ∀ w, Calls Try.prog 42 #[.agg #[.int .u64 (L0 u), .int .u64 (L1 u), .int .u64 (L2 u), .int .u64 (L3 u)]] w fun e w' => e = .returned (.agg #[.int .u64 (L0 b), .int .u64 (L1 b), .int .u64 (L2 b), .int .u64 (L3 b)]) ∧ Below w.heap.size w w')
    (klt : ∀ w, Calls Try.prog 29 #[.agg #[.int .u64 (L0 t), .int .u64 (L1 t), .int .u64 (L2 t), .int .u64 (L3 t)], .agg #[.int .u64 (L0 u), .int .u64 (L1 u), .int .u64 (L2 u), .int .u64 (L3 u)]] w fun e w' => e = .returned (.bool true) ∧ Below w.heap.size w w')
    (kab : ∀ w, Calls Try.prog 29 #[.agg #[.int .u64 (L0 a), .int .u64 (L1 a), .int .u64 (L2 a), .int .u64 (L3 a)], .agg #[.int .u64 (L0 b), .int .u64 (L1 b), .int .u64 (L2 b), .int .u64 (L3 b)]] w fun e w' => e = .returned (.bool false) ∧ Below w.heap.size w w')
    (n1 : ∀ w, (binOp .neq 24 (.agg #[.int .u64 (L0 t), .int .u64 (L1 t), .int .u64 (L2 t), .int .u64 (L3 t)]) (.agg #[.int .u64 (L0 0), .int .u64 (L1 0), .int .u64 (L2 0), .int .u64 (L3 0)])).run Try.prog w = .ok (.bool false) w)
    (n2 : ∀ w, (binOp .eql 24 (.agg #[.int .u64 (L0 t), .int .u64 (L1 t), .int .u64 (L2 t), .int .u64 (L3 t)]) (.agg #[.int .u64 (L0 0), .int .u64 (L1 0), .int .u64 (L2 0), .int .u64 (L3 0)])).run Try.prog w = .ok (.bool true) w)
    (kof : ∀ w, Calls Try.prog 23 #[.int .u64 1] w fun e w' => e = .returned (.agg #[.int .u64 (L0 1), .int .u64 (L1 1), .int .u64 (L2 1), .int .u64 (L3 1)]) ∧ Below w.heap.size w w')
    (kad : ∀ w, Calls Try.prog 21 #[.agg #[.int .u64 (L0 t), .int .u64 (L1 t), .int .u64 (L2 t), .int .u64 (L3 t)], .agg #[.int .u64 (L0 1), .int .u64 (L1 1), .int .u64 (L2 1), .int .u64 (L3 1)]] w fun e w' => e = .returned (.tuple #[.agg #[.int .u64 (L0 d), .int .u64 (L1 d), .int .u64 (L2 d), .int .u64 (L3 d)], .bool ov]) ∧ Below w.heap.size w w')
    (k41 : ∀ w, Calls Try.prog 41 #[] w fun e w' => e = .returned (.bool true) ∧ Below w.heap.size w w')
    : Calls Try.prog 12 #[big t, big u, hsh bs] w fun e w' => e = .returned (.bool true) ∧ Below w.heap.size w w' := by
  have hib := info42 (bs.map (Value.int .u8)).toArray.size (by simp [hb])
  have HIB := Lib.hid hib
  clear hb hib
  unfold big hsh
  go_enter Try.func12, Try.ntmps12
  go_upto_region 1 with (fail)
  refine wp_gen (fun W => Cells4 W w.heap.size t ∧ Cells4 W (w.heap.size + 1) u ∧ RowU (w.heap.size + 1 + 1) bs W ∧ Below w.heap.size w W) ⟨((cells4_new w t).alloc _).alloc _, (cells4_new' (w.alloc _) _ u (by simp)).alloc _, RowU.new' ((w.alloc _).alloc _) bs _ (by simp), bel_alloc (bel_alloc (bel_alloc (Below.refl _ _) _) _) _⟩ ?_
  rintro W ⟨c0, c1, c2, hB⟩
  obtain ⟨x00, x01, x02, x03, -, -, -, -⟩ := id c0
  go_upto_region 2 with (first | (go_at_call 42; with_reducible refine (kwt _).mono ?_; rintro e w1 ⟨rfl, hb1⟩))
  have l0 := c0.lt
  have l1 := c1.lt
  have l2 := c2.lt
  refine wp_gen (fun W => Cells4 W (w.heap.size) t ∧ Cells4 W (w.heap.size + 1) u ∧ RowU (w.heap.size + 1 + 1) bs W ∧ Cells4 W (w1.heap.size) a ∧ Below w.heap.size w W) ⟨((c0.below hb1 l0).alloc _), ((c1.below hb1 l1).alloc _), ((c2.below hb1 l2).alloc _), cells4_new _ _, bel_alloc (bel_call (hB) hb1) _⟩ ?_
  clear hb1 l0 l1 l2 c0 c1 c2 hB x00 x01 x02 x03
  generalize w1.heap.size = b1
  clear w1 W
  rintro W ⟨c0, c1, c2, c3, hB⟩
  obtain ⟨x10, x11, x12, x13, -, -, -, -⟩ := id c1
  go_upto_region 3 with (first | (go_at_call 42; with_reducible refine (kwu _).mono ?_; rintro e w1 ⟨rfl, hb1⟩))
  have l0 := c0.lt
  have l1 := c1.lt
  have l2 := c2.lt
  have l3 := c3.lt
  refine wp_gen (fun W => Cells4 W (w.heap.size) t ∧ Cells4 W (w.heap.size + 1) u ∧ RowU (w.heap.size + 1 + 1) bs W ∧ Cells4 W b1 a ∧ Cells4 W (w1.heap.size) b ∧ Below w.heap.size w W) ⟨((c0.below hb1 l0).alloc _), ((c1.below hb1 l1).alloc _), ((c2.below hb1 l2).alloc _), ((c3.below hb1 l3).alloc _), cells4_new _ _, bel_alloc (bel_call (hB) hb1) _⟩ ?_
  clear hb1 l0 l1 l2 l3 c0 c1 c2 c3 hB x10 x11 x12 x13
  generalize w1.heap.size = b2
  clear w1 W
  rintro W ⟨c0, c1, c2, c3, c4, hB⟩
  obtain ⟨x00, x01, x02, x03, -, -, -, -⟩ := id c0
  obtain ⟨x10, x11, x12, x13, -, -, -, -⟩ := id c1
  go_upto_region 5 with (first | (go_at_call 29; with_reducible refine (klt _).mono ?_; rintro e w1 ⟨rfl, hb1⟩; obtain ⟨y30, y31, y32, y33, -, -, -, -⟩ := id (c3.call hb1); obtain ⟨y40, y41, y42, y43, -, -, -, -⟩ := id (c4.call hb1)) | (go_at_call 29; with_reducible refine (kab _).mono ?_; rintro e w2 ⟨rfl, hb2⟩))
  have hs1 := hb1.size
  have l0 := c0.lt
  have l1 := c1.lt
  have l2 := c2.lt
  have l3 := c3.lt
  have l4 := c4.lt
  refine wp_gen (fun W => Cells4 W (w.heap.size) t ∧ Cells4 W (w.heap.size + 1) u ∧ RowU (w.heap.size + 1 + 1) bs W ∧ Cells4 W b1 a ∧ Cells4 W b2 b ∧ Below w.heap.size w W) ⟨((c0.below hb1 l0).below hb2 (by omega)), ((c1.below hb1 l1).below hb2 (by omega)), ((c2.below hb1 l2).below hb2 (by omega)), ((c3.below hb1 l3).below hb2 (by omega)), ((c4.below hb1 l4).below hb2 (by omega)), bel_call (bel_call (hB) hb1) hb2⟩ ?_
  clear y30 y31 y32 y33 y40 y41 y42 y43 hb1 hb2 hs1 l0 l1 l2 l3 l4 c0 c1 c2 c3 c4 hB x00 x01 x02 x03 x10 x11 x12 x13
  clear w1 w2 W
  rintro W ⟨c0, c1, c2, c3, c4, hB⟩
  go_upto_region 6 with (fail)
  refine wp_gen (fun V => Cells4 V (w.heap.size) t ∧ Cells4 V (w.heap.size + 1) u ∧ RowU (w.heap.size + 1 + 1) bs V ∧ Cells4 V b1 a ∧ Cells4 V b2 b ∧ Cells4 V W.heap.size 0 ∧ Below w.heap.size w V) ⟨c0.alloc _, c1.alloc _, c2.alloc _, c3.alloc _, c4.alloc _, cells4_zero _, bel_alloc hB _⟩ ?_
  clear c0 c1 c2 c3 c4 hB
  generalize W.heap.size = b3
  clear W
  rintro W ⟨c0, c1, c2, c3, c4, c5, hB⟩
  obtain ⟨x00, x01, x02, x03, -, -, -, -⟩ := id c0
  obtain ⟨x50, x51, x52, x53, -, -, -, -⟩ := id c5
  go_upto_region 8 with (first | fail)
  have l0 := c0.lt
  have l1 := c1.lt
  have l2 := c2.lt
  have l3 := c3.lt
  have l4 := c4.lt
  have l5 := c5.lt
  refine wp_gen (fun W => Cells4 W (w.heap.size) t ∧ Cells4 W (w.heap.size + 1) u ∧ RowU (w.heap.size + 1 + 1) bs W ∧ Cells4 W b1 a ∧ Cells4 W b2 b ∧ Cells4 W b3 0 ∧ Below w.heap.size w W) ⟨c0, c1, c2, c3, c4, c5, hB⟩ ?_
  clear l0 l1 l2 l3 l4 l5 c0 c1 c2 c3 c4 c5 hB x00 x01 x02 x03 x50 x51 x52 x53
  clear W
  rintro W ⟨c0, c1, c2, c3, c4, c5, hB⟩
  refine wp_gen (fun W => Cells4 W (w.heap.size) t ∧ Cells4 W b3 0 ∧ Cells4 W b1 a ∧ Below w.heap.size w W) ⟨c0, c5, c3, hB⟩ ?_
  clear c0 c1 c2 c3 c4 c5 hB
  clear W
  rintro W ⟨c0, c1, c2, hB⟩
  obtain ⟨x00, x01, x02, x03, -, -, -, -⟩ := id c0
  go_cut [10, 11] (fun s10 s11 wx => ∃ e10 : Nat, s10 = .pointer (some ⟨e10, 0, none⟩) ∧ s11 = .bool ov ∧ Cells4 wx (w.heap.size) t ∧ Cells4 wx b3 0 ∧ Cells4 wx b1 a ∧ Cells4 wx e10 d ∧ Below w.heap.size w wx)
  case first =>
    have mk : ∀ w', Below W.heap.size W w' → w'.cell? ⟨w.heap.size, 0, none⟩ = some (.int .u64 (L0 t)) ∧ w'.cell? ⟨w.heap.size, 1, none⟩ = some (.int .u64 (L1 t)) ∧ w'.cell? ⟨w.heap.size, 2, none⟩ = some (.int .u64 (L2 t)) ∧ w'.cell? ⟨w.heap.size, 3, none⟩ = some (.int .u64 (L3 t)) := fun w' hb' => ⟨(c0.call hb').c0, (c0.call hb').c1, (c0.call hb').c2, (c0.call hb').c3⟩
    go_region_held3 (fun w' => w'.cell? ⟨w.heap.size, 0, none⟩ = some (.int .u64 (L0 t)) ∧ w'.cell? ⟨w.heap.size, 1, none⟩ = some (.int .u64 (L1 t)) ∧ w'.cell? ⟨w.heap.size, 2, none⟩ = some (.int .u64 (L2 t)) ∧ w'.cell? ⟨w.heap.size, 3, none⟩ = some (.int .u64 (L3 t))) (first | (with_reducible refine mk _ ?_; repeat (first | with_reducible exact Below.refl _ _ | with_reducible refine bel_drew ?_ | with_reducible refine bel_alloc ?_ _ | with_reducible refine bel_set ?_ _ _ (Nat.le_refl _) _ | with_reducible refine hq2 ?_ | with_reducible refine hq1 ?_ | with_reducible refine bel_set ?_ _ _ hz2 _ | with_reducible refine bel_set ?_ _ _ hz1 _)) | fail) (first | (go_at_call 23; with_reducible refine (kof _).mono ?_; rintro e w1 ⟨rfl, hb1⟩; have hq1 : Below W.heap.size W _ → Below W.heap.size W w1 := fun h => bel_call h hb1; have hv1 : ∀ b v, Cells4 _ b v → Cells4 w1 b v := fun _ _ h => h.call hb1; have hs1 := hb1.size; (try (have hy1_0_0 : W.heap.size < w1.heap.size := by (have hh := hb1.size; (try simp at hh); omega))); obtain ⟨hc1, hf1⟩ := bcell hb1; have hz1 : W.heap.size ≤ w1.heap.size := by (have hh := hb1.size; (try simp at hh); omega)) | (go_at_call 21; with_reducible refine (kad _).mono ?_; rintro e w2 ⟨rfl, hb2⟩; have hq2 : Below W.heap.size W _ → Below W.heap.size W w2 := fun h => bel_call h hb2; have hv2 : ∀ b v, Cells4 _ b v → Cells4 w2 b v := fun _ _ h => h.call hb2; have hs2 := hb2.size; (try (have hy2_0_0 : W.heap.size < w2.heap.size := by (have hh := hb2.size; (try simp at hh); omega))); (try (have hy2_1_0 : w1.heap.size < w2.heap.size := by (have hh := hb2.size; (try simp at hh); omega))); obtain ⟨hc2, hf2⟩ := bcell hb2; have hz2 : W.heap.size ≤ w2.heap.size := by (have hh := hb2.size; (try simp at hh); omega)) | fail)
    all_goals (go_wp2_with fail; go_meet)
    all_goals refine (fun (h1 : Below W.heap.size W _) (k10 : Cells4 _ _ d) => ⟨_, rfl, rfl, c0.call h1, c1.call h1, c2.call h1, k10, bel_call hB h1⟩) ?_ ?_
    all_goals (first | (with_reducible refine Below.trans (Below.refl _ _) ?_; repeat (first | with_reducible exact Below.refl _ _ | with_reducible refine bel_drew ?_ | with_reducible refine bel_alloc ?_ _ | with_reducible refine bel_set ?_ _ _ (Nat.le_refl _) _ | with_reducible refine hq2 ?_ | with_reducible refine hq1 ?_ | with_reducible refine bel_set ?_ _ _ hz2 _ | with_reducible refine bel_set ?_ _ _ hz1 _)) | (repeat (first | with_reducible exact cells4_zero _ | with_reducible exact cells4_new _ _ | with_reducible refine Cells4.alloc ?_ _ | with_reducible refine Cells4.drew ?_ | with_reducible refine hv2 _ _ ?_ | with_reducible refine hv1 _ _ ?_ | with_reducible refine cells4_puts (u := 0) ?_ _)))
  case' rest =>
    obtain ⟨e10, rfl, rfl, nc0, nc1, nc2, nc3, hB'⟩ := hcut
    clear c0 c1 c2 hB x00 x01 x02 x03 
    clear W
    go_upto_region 9 with (fail)
    refine wp_gen (fun W => Cells4 W (w.heap.size) t ∧ Cells4 W b3 0 ∧ Cells4 W b1 a ∧ Cells4 W e10 d ∧ Below w.heap.size w W) ⟨nc0, nc1, nc2, nc3, hB'⟩ ?_
    clear nc0 nc1 nc2 nc3 hB'
    clear wc
  rintro W ⟨c0, c1, c2, c3, hB⟩
  obtain ⟨x00, x01, x02, x03, -, -, -, -⟩ := id c0
  obtain ⟨x10, x11, x12, x13, -, -, -, -⟩ := id c1
  go_upto_region 10 with (first | fail)
  have l0 := c0.lt
  have l1 := c1.lt
  have l2 := c2.lt
  have l3 := c3.lt
  refine wp_gen (fun W => Cells4 W (w.heap.size) t ∧ Cells4 W b3 0 ∧ Cells4 W b1 a ∧ Cells4 W e10 d ∧ Below w.heap.size w W) ⟨c0, c1, c2, c3, hB⟩ ?_
  clear l0 l1 l2 l3 c0 c1 c2 c3 hB x00 x01 x02 x03 x10 x11 x12 x13
  clear W
  rintro W ⟨c0, c1, c2, c3, hB⟩
  have k00 := fun d os => (c0.regrown d os).c0
  have k01 := fun d os => (c0.regrown d os).c1
  have k02 := fun d os => (c0.regrown d os).c2
  have k03 := fun d os => (c0.regrown d os).c3
  have k10 := fun d os => (c1.regrown d os).c0
  have k11 := fun d os => (c1.regrown d os).c1
  have k12 := fun d os => (c1.regrown d os).c2
  have k13 := fun d os => (c1.regrown d os).c3
  have q0 := quiet_call W k41
  refine wp_region_quiet_below (by kernel_rfl) (by kernel_rfl) ?_
  repeat (go_big_quiet_step ((first | with_reducible exact q0 _ _)))
  refine wpQuiet_nil ?_
  intro W1 hw'
  have hB1 : Below w.heap.size w W1 := by obtain ⟨p, rfl⟩ := hw'; exact hB.trans ((below_regrown W _ _).mono hB.size)
  clear hw'
  go_wp2
  go_ret
  exact ⟨rfl, hB1⟩

set_option maxRecDepth 100000 in
set_option maxHeartbeats 4000000 in
theorem order_of (bs : List Int) (t u a b d : Int) (hb : bs.length = 32) (w : World)
    (kwt : ∀ w, Calls Try.prog 42 #[.agg #[.int .u64 (L0 t), .int .u64 (L1 t), .int .u64 (L2 t), .int .u64 (L3 t)]] w fun e w' => e = .returned (.agg #[.int .u64 (L0 a), .int .u64 (L1 a), .int .u64 (L2 a), .int .u64 (L3 a)]) ∧ Below w.heap.size w w')
    (kwu : ∀ w, Calls Try.prog 42 #[.agg #[.int .u64 (L0 u), .int .u64 (L1 u), .int .u64 (L2 u), .int .u64 (L3 u)]] w fun e w' => e = .returned (.agg #[.int .u64 (L0 b), .int .u64 (L1 b), .int .u64 (L2 b), .int .u64 (L3 b)]) ∧ Below w.heap.size w w')
    (klt : ∀ w, Calls Try.prog 29 #[.agg #[.int .u64 (L0 t), .int .u64 (L1 t), .int .u64 (L2 t), .int .u64 (L3 t)], .agg #[.int .u64 (L0 u), .int .u64 (L1 u), .int .u64 (L2 u), .int .u64 (L3 u)]] w fun e w' => e = .returned (.bool false) ∧ Below w.heap.size w w')
    (n1 : ∀ w, (binOp .neq 24 (.agg #[.int .u64 (L0 t), .int .u64 (L1 t), .int .u64 (L2 t), .int .u64 (L3 t)]) (.agg #[.int .u64 (L0 0), .int .u64 (L1 0), .int .u64 (L2 0), .int .u64 (L3 0)])).run Try.prog w = .ok (.bool true) w)
    (n2 : ∀ w, (binOp .eql 24 (.agg #[.int .u64 (L0 t), .int .u64 (L1 t), .int .u64 (L2 t), .int .u64 (L3 t)]) (.agg #[.int .u64 (L0 0), .int .u64 (L1 0), .int .u64 (L2 0), .int .u64 (L3 0)])).run Try.prog w = .ok (.bool false) w)
    (kof : ∀ w, Calls Try.prog 23 #[.int .u64 1] w fun e w' => e = .returned (.agg #[.int .u64 (L0 1), .int .u64 (L1 1), .int .u64 (L2 1), .int .u64 (L3 1)]) ∧ Below w.heap.size w w')
    (kad : ∀ w, Calls Try.prog 21 #[.agg #[.int .u64 (L0 t), .int .u64 (L1 t), .int .u64 (L2 t), .int .u64 (L3 t)], .agg #[.int .u64 (L0 1), .int .u64 (L1 1), .int .u64 (L2 1), .int .u64 (L3 1)]] w fun e w' => e = .returned (.tuple #[.agg #[.int .u64 (L0 d), .int .u64 (L1 d), .int .u64 (L2 d), .int .u64 (L3 d)], .bool true]) ∧ Below w.heap.size w w')
    (n3 : ∀ w, (binOp .eql 24 (.agg #[.int .u64 (L0 a), .int .u64 (L1 a), .int .u64 (L2 a), .int .u64 (L3 a)]) (.agg #[.int .u64 (L0 1), .int .u64 (L1 1), .int .u64 (L2 1), .int .u64 (L3 1)])).run Try.prog w = .ok (.bool true) w)
    (k41 : ∀ w, Calls Try.prog 41 #[] w fun e w' => e = .returned (.bool true) ∧ Below w.heap.size w w')
    : Calls Try.prog 12 #[big t, big u, hsh bs] w fun e w' => e = .returned (.bool true) ∧ Below w.heap.size w w' := by
  have hib := info42 (bs.map (Value.int .u8)).toArray.size (by simp [hb])
  have HIB := Lib.hid hib
  clear hb hib
  unfold big hsh
  go_enter Try.func12, Try.ntmps12
  go_upto_region 1 with (fail)
  refine wp_gen (fun W => Cells4 W w.heap.size t ∧ Cells4 W (w.heap.size + 1) u ∧ RowU (w.heap.size + 1 + 1) bs W ∧ Below w.heap.size w W) ⟨((cells4_new w t).alloc _).alloc _, (cells4_new' (w.alloc _) _ u (by simp)).alloc _, RowU.new' ((w.alloc _).alloc _) bs _ (by simp), bel_alloc (bel_alloc (bel_alloc (Below.refl _ _) _) _) _⟩ ?_
  rintro W ⟨c0, c1, c2, hB⟩
  obtain ⟨x00, x01, x02, x03, -, -, -, -⟩ := id c0
  go_upto_region 2 with (first | (go_at_call 42; with_reducible refine (kwt _).mono ?_; rintro e w1 ⟨rfl, hb1⟩))
  have l0 := c0.lt
  have l1 := c1.lt
  have l2 := c2.lt
  refine wp_gen (fun W => Cells4 W (w.heap.size) t ∧ Cells4 W (w.heap.size + 1) u ∧ RowU (w.heap.size + 1 + 1) bs W ∧ Cells4 W (w1.heap.size) a ∧ Below w.heap.size w W) ⟨((c0.below hb1 l0).alloc _), ((c1.below hb1 l1).alloc _), ((c2.below hb1 l2).alloc _), cells4_new _ _, bel_alloc (bel_call (hB) hb1) _⟩ ?_
  clear hb1 l0 l1 l2 c0 c1 c2 hB x00 x01 x02 x03
  generalize w1.heap.size = b1
  clear w1 W
  rintro W ⟨c0, c1, c2, c3, hB⟩
  obtain ⟨x10, x11, x12, x13, -, -, -, -⟩ := id c1
  go_upto_region 3 with (first | (go_at_call 42; with_reducible refine (kwu _).mono ?_; rintro e w1 ⟨rfl, hb1⟩))
  have l0 := c0.lt
  have l1 := c1.lt
  have l2 := c2.lt
  have l3 := c3.lt
  refine wp_gen (fun W => Cells4 W (w.heap.size) t ∧ Cells4 W (w.heap.size + 1) u ∧ RowU (w.heap.size + 1 + 1) bs W ∧ Cells4 W b1 a ∧ Cells4 W (w1.heap.size) b ∧ Below w.heap.size w W) ⟨((c0.below hb1 l0).alloc _), ((c1.below hb1 l1).alloc _), ((c2.below hb1 l2).alloc _), ((c3.below hb1 l3).alloc _), cells4_new _ _, bel_alloc (bel_call (hB) hb1) _⟩ ?_
  clear hb1 l0 l1 l2 l3 c0 c1 c2 c3 hB x10 x11 x12 x13
  generalize w1.heap.size = b2
  clear w1 W
  rintro W ⟨c0, c1, c2, c3, c4, hB⟩
  obtain ⟨x00, x01, x02, x03, -, -, -, -⟩ := id c0
  obtain ⟨x10, x11, x12, x13, -, -, -, -⟩ := id c1
  go_upto_region 5 with (first | (go_at_call 29; with_reducible refine (klt _).mono ?_; rintro e w1 ⟨rfl, hb1⟩))
  have l0 := c0.lt
  have l1 := c1.lt
  have l2 := c2.lt
  have l3 := c3.lt
  have l4 := c4.lt
  refine wp_gen (fun W => Cells4 W (w.heap.size) t ∧ Cells4 W (w.heap.size + 1) u ∧ RowU (w.heap.size + 1 + 1) bs W ∧ Cells4 W b1 a ∧ Cells4 W b2 b ∧ Below w.heap.size w W) ⟨(c0.below hb1 l0), (c1.below hb1 l1), (c2.below hb1 l2), (c3.below hb1 l3), (c4.below hb1 l4), bel_call (hB) hb1⟩ ?_
  clear hb1 l0 l1 l2 l3 l4 c0 c1 c2 c3 c4 hB x00 x01 x02 x03 x10 x11 x12 x13
  clear w1 W
  rintro W ⟨c0, c1, c2, c3, c4, hB⟩
  go_upto_region 6 with (fail)
  refine wp_gen (fun V => Cells4 V (w.heap.size) t ∧ Cells4 V (w.heap.size + 1) u ∧ RowU (w.heap.size + 1 + 1) bs V ∧ Cells4 V b1 a ∧ Cells4 V b2 b ∧ Cells4 V W.heap.size 0 ∧ Below w.heap.size w V) ⟨c0.alloc _, c1.alloc _, c2.alloc _, c3.alloc _, c4.alloc _, cells4_zero _, bel_alloc hB _⟩ ?_
  clear c0 c1 c2 c3 c4 hB
  generalize W.heap.size = b3
  clear W
  rintro W ⟨c0, c1, c2, c3, c4, c5, hB⟩
  obtain ⟨x00, x01, x02, x03, -, -, -, -⟩ := id c0
  obtain ⟨x10, x11, x12, x13, -, -, -, -⟩ := id c1
  obtain ⟨x50, x51, x52, x53, -, -, -, -⟩ := id c5
  go_upto_region 8 with (first | (go_at_call 29; with_reducible refine (klt _).mono ?_; rintro e w1 ⟨rfl, hb1⟩))
  have l0 := c0.lt
  have l1 := c1.lt
  have l2 := c2.lt
  have l3 := c3.lt
  have l4 := c4.lt
  have l5 := c5.lt
  refine wp_gen (fun W => Cells4 W (w.heap.size) t ∧ Cells4 W (w.heap.size + 1) u ∧ RowU (w.heap.size + 1 + 1) bs W ∧ Cells4 W b1 a ∧ Cells4 W b2 b ∧ Cells4 W b3 0 ∧ Below w.heap.size w W) ⟨(c0.below hb1 l0), (c1.below hb1 l1), (c2.below hb1 l2), (c3.below hb1 l3), (c4.below hb1 l4), (c5.below hb1 l5), bel_call (hB) hb1⟩ ?_
  clear hb1 l0 l1 l2 l3 l4 l5 c0 c1 c2 c3 c4 c5 hB x00 x01 x02 x03 x10 x11 x12 x13 x50 x51 x52 x53
  clear w1 W
  rintro W ⟨c0, c1, c2, c3, c4, c5, hB⟩
  refine wp_gen (fun W => Cells4 W (w.heap.size) t ∧ Cells4 W b3 0 ∧ Cells4 W b1 a ∧ Below w.heap.size w W) ⟨c0, c5, c3, hB⟩ ?_
  clear c0 c1 c2 c3 c4 c5 hB
  clear W
  rintro W ⟨c0, c1, c2, hB⟩
  obtain ⟨x00, x01, x02, x03, -, -, -, -⟩ := id c0
  go_cut [10, 11] (fun s10 s11 wx => ∃ e10 : Nat, s10 = .pointer (some ⟨e10, 0, none⟩) ∧ s11 = .bool true ∧ Cells4 wx (w.heap.size) t ∧ Cells4 wx b3 0 ∧ Cells4 wx b1 a ∧ Cells4 wx e10 d ∧ Below w.heap.size w wx)
  case first =>
    have mk : ∀ w', Below W.heap.size W w' → w'.cell? ⟨w.heap.size, 0, none⟩ = some (.int .u64 (L0 t)) ∧ w'.cell? ⟨w.heap.size, 1, none⟩ = some (.int .u64 (L1 t)) ∧ w'.cell? ⟨w.heap.size, 2, none⟩ = some (.int .u64 (L2 t)) ∧ w'.cell? ⟨w.heap.size, 3, none⟩ = some (.int .u64 (L3 t)) := fun w' hb' => ⟨(c0.call hb').c0, (c0.call hb').c1, (c0.call hb').c2, (c0.call hb').c3⟩
    go_region_held3 (fun w' => w'.cell? ⟨w.heap.size, 0, none⟩ = some (.int .u64 (L0 t)) ∧ w'.cell? ⟨w.heap.size, 1, none⟩ = some (.int .u64 (L1 t)) ∧ w'.cell? ⟨w.heap.size, 2, none⟩ = some (.int .u64 (L2 t)) ∧ w'.cell? ⟨w.heap.size, 3, none⟩ = some (.int .u64 (L3 t))) (first | (with_reducible refine mk _ ?_; repeat (first | with_reducible exact Below.refl _ _ | with_reducible refine bel_drew ?_ | with_reducible refine bel_alloc ?_ _ | with_reducible refine bel_set ?_ _ _ (Nat.le_refl _) _ | with_reducible refine hq2 ?_ | with_reducible refine hq1 ?_ | with_reducible refine bel_set ?_ _ _ hz2 _ | with_reducible refine bel_set ?_ _ _ hz1 _)) | fail) (first | (go_at_call 23; with_reducible refine (kof _).mono ?_; rintro e w1 ⟨rfl, hb1⟩; have hq1 : Below W.heap.size W _ → Below W.heap.size W w1 := fun h => bel_call h hb1; have hv1 : ∀ b v, Cells4 _ b v → Cells4 w1 b v := fun _ _ h => h.call hb1; have hs1 := hb1.size; (try (have hy1_0_0 : W.heap.size < w1.heap.size := by (have hh := hb1.size; (try simp at hh); omega))); obtain ⟨hc1, hf1⟩ := bcell hb1; have hz1 : W.heap.size ≤ w1.heap.size := by (have hh := hb1.size; (try simp at hh); omega)) | (go_at_call 21; with_reducible refine (kad _).mono ?_; rintro e w2 ⟨rfl, hb2⟩; have hq2 : Below W.heap.size W _ → Below W.heap.size W w2 := fun h => bel_call h hb2; have hv2 : ∀ b v, Cells4 _ b v → Cells4 w2 b v := fun _ _ h => h.call hb2; have hs2 := hb2.size; (try (have hy2_0_0 : W.heap.size < w2.heap.size := by (have hh := hb2.size; (try simp at hh); omega))); (try (have hy2_1_0 : w1.heap.size < w2.heap.size := by (have hh := hb2.size; (try simp at hh); omega))); obtain ⟨hc2, hf2⟩ := bcell hb2; have hz2 : W.heap.size ≤ w2.heap.size := by (have hh := hb2.size; (try simp at hh); omega)) | fail)
    all_goals (go_wp2_with fail; go_meet)
    all_goals refine (fun (h1 : Below W.heap.size W _) (k10 : Cells4 _ _ d) => ⟨_, rfl, rfl, c0.call h1, c1.call h1, c2.call h1, k10, bel_call hB h1⟩) ?_ ?_
    all_goals (first | (with_reducible refine Below.trans (Below.refl _ _) ?_; repeat (first | with_reducible exact Below.refl _ _ | with_reducible refine bel_drew ?_ | with_reducible refine bel_alloc ?_ _ | with_reducible refine bel_set ?_ _ _ (Nat.le_refl _) _ | with_reducible refine hq2 ?_ | with_reducible refine hq1 ?_ | with_reducible refine bel_set ?_ _ _ hz2 _ | with_reducible refine bel_set ?_ _ _ hz1 _)) | (repeat (first | with_reducible exact cells4_zero _ | with_reducible exact cells4_new _ _ | with_reducible refine Cells4.alloc ?_ _ | with_reducible refine Cells4.drew ?_ | with_reducible refine hv2 _ _ ?_ | with_reducible refine hv1 _ _ ?_ | with_reducible refine cells4_puts (u := 0) ?_ _)))
  case' rest =>
    obtain ⟨e10, rfl, rfl, nc0, nc1, nc2, nc3, hB'⟩ := hcut
    clear c0 c1 c2 hB x00 x01 x02 x03 
    clear W
    go_upto_region 9 with (fail)
    refine wp_gen (fun W => Cells4 W (w.heap.size) t ∧ Cells4 W b3 0 ∧ Cells4 W b1 a ∧ Cells4 W e10 d ∧ Below w.heap.size w W) ⟨nc0, nc1, nc2, nc3, hB'⟩ ?_
    clear nc0 nc1 nc2 nc3 hB'
    clear wc
  rintro W ⟨c0, c1, c2, c3, hB⟩
  obtain ⟨x00, x01, x02, x03, -, -, -, -⟩ := id c0
  obtain ⟨x10, x11, x12, x13, -, -, -, -⟩ := id c1
  go_upto_region 10 with (first | fail)
  have l0 := c0.lt
  have l1 := c1.lt
  have l2 := c2.lt
  have l3 := c3.lt
  refine wp_gen (fun W => Cells4 W (w.heap.size) t ∧ Cells4 W b3 0 ∧ Cells4 W b1 a ∧ Cells4 W e10 d ∧ Below w.heap.size w W) ⟨c0, c1, c2, c3, hB⟩ ?_
  clear l0 l1 l2 l3 c0 c1 c2 c3 hB x00 x01 x02 x03 x10 x11 x12 x13
  clear W
  rintro W ⟨c0, c1, c2, c3, hB⟩
  have k00 := fun d os => (c0.regrown d os).c0
  have k01 := fun d os => (c0.regrown d os).c1
  have k02 := fun d os => (c0.regrown d os).c2
  have k03 := fun d os => (c0.regrown d os).c3
  have k10 := fun d os => (c1.regrown d os).c0
  have k11 := fun d os => (c1.regrown d os).c1
  have k12 := fun d os => (c1.regrown d os).c2
  have k13 := fun d os => (c1.regrown d os).c3
  have k20 := fun d os => (c2.regrown d os).c0
  have k21 := fun d os => (c2.regrown d os).c1
  have k22 := fun d os => (c2.regrown d os).c2
  have k23 := fun d os => (c2.regrown d os).c3
  have q0 := quiet_call W kof
  have q1 := quiet_call W k41
  refine wp_region_quiet_below (by kernel_rfl) (by kernel_rfl) ?_
  repeat (go_big_quiet_step ((first | with_reducible exact q0 _ _ | with_reducible exact q1 _ _)))
  refine wpQuiet_nil ?_
  intro W1 hw'
  have hB1 : Below w.heap.size w W1 := by obtain ⟨p, rfl⟩ := hw'; exact hB.trans ((below_regrown W _ _).mono hB.size)
  clear hw'
  go_wp2
  go_ret
  exact ⟨rfl, hB1⟩

set_option maxRecDepth 100000 in
set_option maxHeartbeats 4000000 in
theorem order_mf (bs : List Int) (t u a b d r q x : Int) (lr lb : Bool) (hb : bs.length = 32) (w : World)
    (kwt : ∀ w, Calls Try.prog 42 #[.agg #[.int .u64 (L0 t), .int .u64 (L1 t), .int .u64 (L2 t), .int .u64 (L3 t)]] w fun e w' => e = .returned (.agg #[.int .u64 (L0 a), .int .u64 (L1 a), .int .u64 (L2 a), .int .u64 (L3 a)]) ∧ Below w.heap.size w w')
    (kwu : ∀ w, Calls Try.prog 42 #[.agg #[.int .u64 (L0 u), .int .u64 (L1 u), .int .u64 (L2 u), .int .u64 (L3 u)]] w fun e w' => e = .returned (.agg #[.int .u64 (L0 b), .int .u64 (L1 b), .int .u64 (L2 b), .int .u64 (L3 b)]) ∧ Below w.heap.size w w')
    (klt : ∀ w, Calls Try.prog 29 #[.agg #[.int .u64 (L0 t), .int .u64 (L1 t), .int .u64 (L2 t), .int .u64 (L3 t)], .agg #[.int .u64 (L0 u), .int .u64 (L1 u), .int .u64 (L2 u), .int .u64 (L3 u)]] w fun e w' => e = .returned (.bool false) ∧ Below w.heap.size w w')
    (n1 : ∀ w, (binOp .neq 24 (.agg #[.int .u64 (L0 t), .int .u64 (L1 t), .int .u64 (L2 t), .int .u64 (L3 t)]) (.agg #[.int .u64 (L0 0), .int .u64 (L1 0), .int .u64 (L2 0), .int .u64 (L3 0)])).run Try.prog w = .ok (.bool true) w)
    (n2 : ∀ w, (binOp .eql 24 (.agg #[.int .u64 (L0 t), .int .u64 (L1 t), .int .u64 (L2 t), .int .u64 (L3 t)]) (.agg #[.int .u64 (L0 0), .int .u64 (L1 0), .int .u64 (L2 0), .int .u64 (L3 0)])).run Try.prog w = .ok (.bool false) w)
    (kof : ∀ w, Calls Try.prog 23 #[.int .u64 1] w fun e w' => e = .returned (.agg #[.int .u64 (L0 1), .int .u64 (L1 1), .int .u64 (L2 1), .int .u64 (L3 1)]) ∧ Below w.heap.size w w')
    (kad : ∀ w, Calls Try.prog 21 #[.agg #[.int .u64 (L0 t), .int .u64 (L1 t), .int .u64 (L2 t), .int .u64 (L3 t)], .agg #[.int .u64 (L0 1), .int .u64 (L1 1), .int .u64 (L2 1), .int .u64 (L3 1)]] w fun e w' => e = .returned (.tuple #[.agg #[.int .u64 (L0 d), .int .u64 (L1 d), .int .u64 (L2 d), .int .u64 (L3 d)], .bool false]) ∧ Below w.heap.size w w')
    (ksr : ∀ w, Calls Try.prog 24 #[.agg #[.int .u64 (L0 0), .int .u64 (L1 0), .int .u64 (L2 0), .int .u64 (L3 0)], .agg #[.int .u64 (L0 d), .int .u64 (L1 d), .int .u64 (L2 d), .int .u64 (L3 d)]] w fun e w' => e = .returned (.tuple #[.agg #[.int .u64 (L0 r), .int .u64 (L1 r), .int .u64 (L2 r), .int .u64 (L3 r)], .bool lr]) ∧ Below w.heap.size w w')
    (ksl : ∀ w, Calls Try.prog 24 #[.agg #[.int .u64 (L0 a), .int .u64 (L1 a), .int .u64 (L2 a), .int .u64 (L3 a)], .agg #[.int .u64 (L0 1), .int .u64 (L1 1), .int .u64 (L2 1), .int .u64 (L3 1)]] w fun e w' => e = .returned (.tuple #[.agg #[.int .u64 (L0 q), .int .u64 (L1 q), .int .u64 (L2 q), .int .u64 (L3 q)], .bool lb]) ∧ Below w.heap.size w w')
    (kdv : ∀ w, Calls Try.prog 14 #[.agg #[.int .u64 (L0 r), .int .u64 (L1 r), .int .u64 (L2 r), .int .u64 (L3 r)], .agg #[.int .u64 (L0 d), .int .u64 (L1 d), .int .u64 (L2 d), .int .u64 (L3 d)]] w fun e w' => e = .returned (.tuple #[.agg #[.int .u64 (L0 q), .int .u64 (L1 q), .int .u64 (L2 q), .int .u64 (L3 q)], .agg #[.int .u64 (L0 x), .int .u64 (L1 x), .int .u64 (L2 x), .int .u64 (L3 x)], .int .i64 0]) ∧ Below w.heap.size w w')
    (n4 : ∀ w, (binOp .eql 24 (.agg #[.int .u64 (L0 q), .int .u64 (L1 q), .int .u64 (L2 q), .int .u64 (L3 q)]) (.agg #[.int .u64 (L0 q), .int .u64 (L1 q), .int .u64 (L2 q), .int .u64 (L3 q)])).run Try.prog w = .ok (.bool true) w)
    (n5 : ∀ w, (binOp .neq 24 (.agg #[.int .u64 (L0 a), .int .u64 (L1 a), .int .u64 (L2 a), .int .u64 (L3 a)]) (.agg #[.int .u64 (L0 0), .int .u64 (L1 0), .int .u64 (L2 0), .int .u64 (L3 0)])).run Try.prog w = .ok (.bool true) w)
    (k41 : ∀ w, Calls Try.prog 41 #[] w fun e w' => e = .returned (.bool true) ∧ Below w.heap.size w w')
    : Calls Try.prog 12 #[big t, big u, hsh bs] w fun e w' => e = .returned (.bool true) ∧ Below w.heap.size w w' := by
  have hib := info42 (bs.map (Value.int .u8)).toArray.size (by simp [hb])
  have HIB := Lib.hid hib
  clear hb hib
  unfold big hsh
  go_enter Try.func12, Try.ntmps12
  go_upto_region 1 with (fail)
  refine wp_gen (fun W => Cells4 W w.heap.size t ∧ Cells4 W (w.heap.size + 1) u ∧ RowU (w.heap.size + 1 + 1) bs W ∧ Below w.heap.size w W) ⟨((cells4_new w t).alloc _).alloc _, (cells4_new' (w.alloc _) _ u (by simp)).alloc _, RowU.new' ((w.alloc _).alloc _) bs _ (by simp), bel_alloc (bel_alloc (bel_alloc (Below.refl _ _) _) _) _⟩ ?_
  rintro W ⟨c0, c1, c2, hB⟩
  obtain ⟨x00, x01, x02, x03, -, -, -, -⟩ := id c0
  go_upto_region 2 with (first | (go_at_call 42; with_reducible refine (kwt _).mono ?_; rintro e w1 ⟨rfl, hb1⟩))
  have l0 := c0.lt
  have l1 := c1.lt
  have l2 := c2.lt
  refine wp_gen (fun W => Cells4 W (w.heap.size) t ∧ Cells4 W (w.heap.size + 1) u ∧ RowU (w.heap.size + 1 + 1) bs W ∧ Cells4 W (w1.heap.size) a ∧ Below w.heap.size w W) ⟨((c0.below hb1 l0).alloc _), ((c1.below hb1 l1).alloc _), ((c2.below hb1 l2).alloc _), cells4_new _ _, bel_alloc (bel_call (hB) hb1) _⟩ ?_
  clear hb1 l0 l1 l2 c0 c1 c2 hB x00 x01 x02 x03
  generalize w1.heap.size = b1
  clear w1 W
  rintro W ⟨c0, c1, c2, c3, hB⟩
  obtain ⟨x10, x11, x12, x13, -, -, -, -⟩ := id c1
  go_upto_region 3 with (first | (go_at_call 42; with_reducible refine (kwu _).mono ?_; rintro e w1 ⟨rfl, hb1⟩))
  have l0 := c0.lt
  have l1 := c1.lt
  have l2 := c2.lt
  have l3 := c3.lt
  refine wp_gen (fun W => Cells4 W (w.heap.size) t ∧ Cells4 W (w.heap.size + 1) u ∧ RowU (w.heap.size + 1 + 1) bs W ∧ Cells4 W b1 a ∧ Cells4 W (w1.heap.size) b ∧ Below w.heap.size w W) ⟨((c0.below hb1 l0).alloc _), ((c1.below hb1 l1).alloc _), ((c2.below hb1 l2).alloc _), ((c3.below hb1 l3).alloc _), cells4_new _ _, bel_alloc (bel_call (hB) hb1) _⟩ ?_
  clear hb1 l0 l1 l2 l3 c0 c1 c2 c3 hB x10 x11 x12 x13
  generalize w1.heap.size = b2
  clear w1 W
  rintro W ⟨c0, c1, c2, c3, c4, hB⟩
  obtain ⟨x00, x01, x02, x03, -, -, -, -⟩ := id c0
  obtain ⟨x10, x11, x12, x13, -, -, -, -⟩ := id c1
  go_upto_region 5 with (first | (go_at_call 29; with_reducible refine (klt _).mono ?_; rintro e w1 ⟨rfl, hb1⟩))
  have l0 := c0.lt
  have l1 := c1.lt
  have l2 := c2.lt
  have l3 := c3.lt
  have l4 := c4.lt
  refine wp_gen (fun W => Cells4 W (w.heap.size) t ∧ Cells4 W (w.heap.size + 1) u ∧ RowU (w.heap.size + 1 + 1) bs W ∧ Cells4 W b1 a ∧ Cells4 W b2 b ∧ Below w.heap.size w W) ⟨(c0.below hb1 l0), (c1.below hb1 l1), (c2.below hb1 l2), (c3.below hb1 l3), (c4.below hb1 l4), bel_call (hB) hb1⟩ ?_
  clear hb1 l0 l1 l2 l3 l4 c0 c1 c2 c3 c4 hB x00 x01 x02 x03 x10 x11 x12 x13
  clear w1 W
  rintro W ⟨c0, c1, c2, c3, c4, hB⟩
  go_upto_region 6 with (fail)
  refine wp_gen (fun V => Cells4 V (w.heap.size) t ∧ Cells4 V (w.heap.size + 1) u ∧ RowU (w.heap.size + 1 + 1) bs V ∧ Cells4 V b1 a ∧ Cells4 V b2 b ∧ Cells4 V W.heap.size 0 ∧ Below w.heap.size w V) ⟨c0.alloc _, c1.alloc _, c2.alloc _, c3.alloc _, c4.alloc _, cells4_zero _, bel_alloc hB _⟩ ?_
  clear c0 c1 c2 c3 c4 hB
  generalize W.heap.size = b3
  clear W
  rintro W ⟨c0, c1, c2, c3, c4, c5, hB⟩
  obtain ⟨x00, x01, x02, x03, -, -, -, -⟩ := id c0
  obtain ⟨x10, x11, x12, x13, -, -, -, -⟩ := id c1
  obtain ⟨x50, x51, x52, x53, -, -, -, -⟩ := id c5
  go_upto_region 8 with (first | (go_at_call 29; with_reducible refine (klt _).mono ?_; rintro e w1 ⟨rfl, hb1⟩))
  have l0 := c0.lt
  have l1 := c1.lt
  have l2 := c2.lt
  have l3 := c3.lt
  have l4 := c4.lt
  have l5 := c5.lt
  refine wp_gen (fun W => Cells4 W (w.heap.size) t ∧ Cells4 W (w.heap.size + 1) u ∧ RowU (w.heap.size + 1 + 1) bs W ∧ Cells4 W b1 a ∧ Cells4 W b2 b ∧ Cells4 W b3 0 ∧ Below w.heap.size w W) ⟨(c0.below hb1 l0), (c1.below hb1 l1), (c2.below hb1 l2), (c3.below hb1 l3), (c4.below hb1 l4), (c5.below hb1 l5), bel_call (hB) hb1⟩ ?_
  clear hb1 l0 l1 l2 l3 l4 l5 c0 c1 c2 c3 c4 c5 hB x00 x01 x02 x03 x10 x11 x12 x13 x50 x51 x52 x53
  clear w1 W
  rintro W ⟨c0, c1, c2, c3, c4, c5, hB⟩
  refine wp_gen (fun W => Cells4 W (w.heap.size) t ∧ Cells4 W b3 0 ∧ Cells4 W b1 a ∧ Below w.heap.size w W) ⟨c0, c5, c3, hB⟩ ?_
  clear c0 c1 c2 c3 c4 c5 hB
  clear W
  rintro W ⟨c0, c1, c2, hB⟩
  obtain ⟨x00, x01, x02, x03, -, -, -, -⟩ := id c0
  go_cut [10, 11] (fun s10 s11 wx => ∃ e10 : Nat, s10 = .pointer (some ⟨e10, 0, none⟩) ∧ s11 = .bool false ∧ Cells4 wx (w.heap.size) t ∧ Cells4 wx b3 0 ∧ Cells4 wx b1 a ∧ Cells4 wx e10 d ∧ Below w.heap.size w wx)
  case first =>
    have mk : ∀ w', Below W.heap.size W w' → w'.cell? ⟨w.heap.size, 0, none⟩ = some (.int .u64 (L0 t)) ∧ w'.cell? ⟨w.heap.size, 1, none⟩ = some (.int .u64 (L1 t)) ∧ w'.cell? ⟨w.heap.size, 2, none⟩ = some (.int .u64 (L2 t)) ∧ w'.cell? ⟨w.heap.size, 3, none⟩ = some (.int .u64 (L3 t)) := fun w' hb' => ⟨(c0.call hb').c0, (c0.call hb').c1, (c0.call hb').c2, (c0.call hb').c3⟩
    go_region_held3 (fun w' => w'.cell? ⟨w.heap.size, 0, none⟩ = some (.int .u64 (L0 t)) ∧ w'.cell? ⟨w.heap.size, 1, none⟩ = some (.int .u64 (L1 t)) ∧ w'.cell? ⟨w.heap.size, 2, none⟩ = some (.int .u64 (L2 t)) ∧ w'.cell? ⟨w.heap.size, 3, none⟩ = some (.int .u64 (L3 t))) (first | (with_reducible refine mk _ ?_; repeat (first | with_reducible exact Below.refl _ _ | with_reducible refine bel_drew ?_ | with_reducible refine bel_alloc ?_ _ | with_reducible refine bel_set ?_ _ _ (Nat.le_refl _) _ | with_reducible refine hq2 ?_ | with_reducible refine hq1 ?_ | with_reducible refine bel_set ?_ _ _ hz2 _ | with_reducible refine bel_set ?_ _ _ hz1 _)) | fail) (first | (go_at_call 23; with_reducible refine (kof _).mono ?_; rintro e w1 ⟨rfl, hb1⟩; have hq1 : Below W.heap.size W _ → Below W.heap.size W w1 := fun h => bel_call h hb1; have hv1 : ∀ b v, Cells4 _ b v → Cells4 w1 b v := fun _ _ h => h.call hb1; have hs1 := hb1.size; (try (have hy1_0_0 : W.heap.size < w1.heap.size := by (have hh := hb1.size; (try simp at hh); omega))); obtain ⟨hc1, hf1⟩ := bcell hb1; have hz1 : W.heap.size ≤ w1.heap.size := by (have hh := hb1.size; (try simp at hh); omega)) | (go_at_call 21; with_reducible refine (kad _).mono ?_; rintro e w2 ⟨rfl, hb2⟩; have hq2 : Below W.heap.size W _ → Below W.heap.size W w2 := fun h => bel_call h hb2; have hv2 : ∀ b v, Cells4 _ b v → Cells4 w2 b v := fun _ _ h => h.call hb2; have hs2 := hb2.size; (try (have hy2_0_0 : W.heap.size < w2.heap.size := by (have hh := hb2.size; (try simp at hh); omega))); (try (have hy2_1_0 : w1.heap.size < w2.heap.size := by (have hh := hb2.size; (try simp at hh); omega))); obtain ⟨hc2, hf2⟩ := bcell hb2; have hz2 : W.heap.size ≤ w2.heap.size := by (have hh := hb2.size; (try simp at hh); omega)) | fail)
    all_goals (go_wp2_with fail; go_meet)
    all_goals refine (fun (h1 : Below W.heap.size W _) (k10 : Cells4 _ _ d) => ⟨_, rfl, rfl, c0.call h1, c1.call h1, c2.call h1, k10, bel_call hB h1⟩) ?_ ?_
    all_goals (first | (with_reducible refine Below.trans (Below.refl _ _) ?_; repeat (first | with_reducible exact Below.refl _ _ | with_reducible refine bel_drew ?_ | with_reducible refine bel_alloc ?_ _ | with_reducible refine bel_set ?_ _ _ (Nat.le_refl _) _ | with_reducible refine hq2 ?_ | with_reducible refine hq1 ?_ | with_reducible refine bel_set ?_ _ _ hz2 _ | with_reducible refine bel_set ?_ _ _ hz1 _)) | (repeat (first | with_reducible exact cells4_zero _ | with_reducible exact cells4_new _ _ | with_reducible refine Cells4.alloc ?_ _ | with_reducible refine Cells4.drew ?_ | with_reducible refine hv2 _ _ ?_ | with_reducible refine hv1 _ _ ?_ | with_reducible refine cells4_puts (u := 0) ?_ _)))
  case' rest =>
    obtain ⟨e10, rfl, rfl, nc0, nc1, nc2, nc3, hB'⟩ := hcut
    clear c0 c1 c2 hB x00 x01 x02 x03 
    clear W
    go_upto_region 9 with (fail)
    refine wp_gen (fun W => Cells4 W (w.heap.size) t ∧ Cells4 W b3 0 ∧ Cells4 W b1 a ∧ Cells4 W e10 d ∧ Below w.heap.size w W) ⟨nc0, nc1, nc2, nc3, hB'⟩ ?_
    clear nc0 nc1 nc2 nc3 hB'
    clear wc
  rintro W ⟨c0, c1, c2, c3, hB⟩
  obtain ⟨x00, x01, x02, x03, -, -, -, -⟩ := id c0
  obtain ⟨x10, x11, x12, x13, -, -, -, -⟩ := id c1
  obtain ⟨x30, x31, x32, x33, -, -, -, -⟩ := id c3
  go_upto_region 12 with (first | (go_at_call 24; with_reducible refine (ksr _).mono ?_; rintro e w1 ⟨rfl, hb1⟩))
  have l0 := c0.lt
  have l1 := c1.lt
  have l2 := c2.lt
  have l3 := c3.lt
  refine wp_gen (fun W => Cells4 W (w.heap.size) t ∧ Cells4 W b3 0 ∧ Cells4 W b1 a ∧ Cells4 W e10 d ∧ Cells4 W (w1.heap.size) r ∧ Below w.heap.size w W) ⟨((c0.below hb1 l0).alloc _), ((c1.below hb1 l1).alloc _), ((c2.below hb1 l2).alloc _), ((c3.below hb1 l3).alloc _), cells4_new _ _, bel_alloc (bel_call (hB) hb1) _⟩ ?_
  clear hb1 l0 l1 l2 l3 c0 c1 c2 c3 hB x00 x01 x02 x03 x10 x11 x12 x13 x30 x31 x32 x33
  generalize w1.heap.size = b4
  clear w1 W
  rintro W ⟨c0, c1, c2, c3, c4, hB⟩
  obtain ⟨x20, x21, x22, x23, -, -, -, -⟩ := id c2
  go_cut [14, 15] (fun s14 s15 wx => ∃ e14 : Nat, s14 = .pointer (some ⟨e14, 0, none⟩) ∧ s15 = .bool lb ∧ Cells4 wx (w.heap.size) t ∧ Cells4 wx b3 0 ∧ Cells4 wx b1 a ∧ Cells4 wx e10 d ∧ Cells4 wx b4 r ∧ Cells4 wx e14 q ∧ Below w.heap.size w wx)
  case first =>
    have mk : ∀ w', Below W.heap.size W w' → w'.cell? ⟨b1, 0, none⟩ = some (.int .u64 (L0 a)) ∧ w'.cell? ⟨b1, 1, none⟩ = some (.int .u64 (L1 a)) ∧ w'.cell? ⟨b1, 2, none⟩ = some (.int .u64 (L2 a)) ∧ w'.cell? ⟨b1, 3, none⟩ = some (.int .u64 (L3 a)) := fun w' hb' => ⟨(c2.call hb').c0, (c2.call hb').c1, (c2.call hb').c2, (c2.call hb').c3⟩
    go_region_held3 (fun w' => w'.cell? ⟨b1, 0, none⟩ = some (.int .u64 (L0 a)) ∧ w'.cell? ⟨b1, 1, none⟩ = some (.int .u64 (L1 a)) ∧ w'.cell? ⟨b1, 2, none⟩ = some (.int .u64 (L2 a)) ∧ w'.cell? ⟨b1, 3, none⟩ = some (.int .u64 (L3 a))) (first | (with_reducible refine mk _ ?_; repeat (first | with_reducible exact Below.refl _ _ | with_reducible refine bel_drew ?_ | with_reducible refine bel_alloc ?_ _ | with_reducible refine bel_set ?_ _ _ (Nat.le_refl _) _ | with_reducible refine hq2 ?_ | with_reducible refine hq1 ?_ | with_reducible refine bel_set ?_ _ _ hz2 _ | with_reducible refine bel_set ?_ _ _ hz1 _)) | fail) (first | (go_at_call 23; with_reducible refine (kof _).mono ?_; rintro e w1 ⟨rfl, hb1⟩; have hq1 : Below W.heap.size W _ → Below W.heap.size W w1 := fun h => bel_call h hb1; have hv1 : ∀ b v, Cells4 _ b v → Cells4 w1 b v := fun _ _ h => h.call hb1; have hs1 := hb1.size; (try (have hy1_0_0 : W.heap.size < w1.heap.size := by (have hh := hb1.size; (try simp at hh); omega))); obtain ⟨hc1, hf1⟩ := bcell hb1; have hz1 : W.heap.size ≤ w1.heap.size := by (have hh := hb1.size; (try simp at hh); omega)) | (go_at_call 24; with_reducible refine (ksl _).mono ?_; rintro e w2 ⟨rfl, hb2⟩; have hq2 : Below W.heap.size W _ → Below W.heap.size W w2 := fun h => bel_call h hb2; have hv2 : ∀ b v, Cells4 _ b v → Cells4 w2 b v := fun _ _ h => h.call hb2; have hs2 := hb2.size; (try (have hy2_0_0 : W.heap.size < w2.heap.size := by (have hh := hb2.size; (try simp at hh); omega))); (try (have hy2_1_0 : w1.heap.size < w2.heap.size := by (have hh := hb2.size; (try simp at hh); omega))); obtain ⟨hc2, hf2⟩ := bcell hb2; have hz2 : W.heap.size ≤ w2.heap.size := by (have hh := hb2.size; (try simp at hh); omega)) | fail)
    all_goals (go_wp2_with fail; go_meet)
    all_goals refine (fun (h1 : Below W.heap.size W _) (k14 : Cells4 _ _ q) => ⟨_, rfl, rfl, c0.call h1, c1.call h1, c2.call h1, c3.call h1, c4.call h1, k14, bel_call hB h1⟩) ?_ ?_
    all_goals (first | (with_reducible refine Below.trans (Below.refl _ _) ?_; repeat (first | with_reducible exact Below.refl _ _ | with_reducible refine bel_drew ?_ | with_reducible refine bel_alloc ?_ _ | with_reducible refine bel_set ?_ _ _ (Nat.le_refl _) _ | with_reducible refine hq2 ?_ | with_reducible refine hq1 ?_ | with_reducible refine bel_set ?_ _ _ hz2 _ | with_reducible refine bel_set ?_ _ _ hz1 _)) | (repeat (first | with_reducible exact cells4_zero _ | with_reducible exact cells4_new _ _ | with_reducible refine Cells4.alloc ?_ _ | with_reducible refine Cells4.drew ?_ | with_reducible refine hv2 _ _ ?_ | with_reducible refine hv1 _ _ ?_ | with_reducible refine cells4_puts (u := 0) ?_ _)))
  case' rest =>
    obtain ⟨e14, rfl, rfl, nc0, nc1, nc2, nc3, nc4, nc5, hB'⟩ := hcut
    clear c0 c1 c2 c3 c4 hB x20 x21 x22 x23 
    clear W
    go_upto_region 13 with (fail)
    refine wp_gen (fun W => Cells4 W (w.heap.size) t ∧ Cells4 W b3 0 ∧ Cells4 W b1 a ∧ Cells4 W e10 d ∧ Cells4 W b4 r ∧ Cells4 W e14 q ∧ Below w.heap.size w W) ⟨nc0, nc1, nc2, nc3, nc4, nc5, hB'⟩ ?_
    clear nc0 nc1 nc2 nc3 nc4 nc5 hB'
    clear wc
  rintro W ⟨c0, c1, c2, c3, c4, c5, hB⟩
  obtain ⟨x40, x41, x42, x43, -, -, -, -⟩ := id c4
  obtain ⟨x30, x31, x32, x33, -, -, -, -⟩ := id c3
  go_upto_region 14 with (first | (go_at_call 14; with_reducible refine (kdv _).mono ?_; rintro e w1 ⟨rfl, hb1⟩))
  have l0 := c0.lt
  have l1 := c1.lt
  have l2 := c2.lt
  have l3 := c3.lt
  have l4 := c4.lt
  have l5 := c5.lt
  refine wp_gen (fun W => Cells4 W (w.heap.size) t ∧ Cells4 W b3 0 ∧ Cells4 W b1 a ∧ Cells4 W e10 d ∧ Cells4 W b4 r ∧ Cells4 W e14 q ∧ Cells4 W (w1.heap.size) q ∧ Cells4 W (w1.heap.size + 1) x ∧ Below w.heap.size w W) ⟨(((c0.below hb1 l0).alloc _).alloc _), (((c1.below hb1 l1).alloc _).alloc _), (((c2.below hb1 l2).alloc _).alloc _), (((c3.below hb1 l3).alloc _).alloc _), (((c4.below hb1 l4).alloc _).alloc _), (((c5.below hb1 l5).alloc _).alloc _), (cells4_new _ _).alloc _, cells4_new' _ _ _ (by simp), bel_alloc (bel_alloc (bel_call (hB) hb1) _) _⟩ ?_
  clear hb1 l0 l1 l2 l3 l4 l5 c0 c1 c2 c3 c4 c5 hB x40 x41 x42 x43 x30 x31 x32 x33
  generalize w1.heap.size = b5
  clear w1 W
  rintro W ⟨c0, c1, c2, c3, c4, c5, c6, c7, hB⟩
  obtain ⟨x60, x61, x62, x63, -, -, -, -⟩ := id c6
  obtain ⟨x50, x51, x52, x53, -, -, -, -⟩ := id c5
  obtain ⟨x20, x21, x22, x23, -, -, -, -⟩ := id c2
  obtain ⟨x10, x11, x12, x13, -, -, -, -⟩ := id c1
  go_wp2_with (first | (go_at_call 41; with_reducible refine (k41 _).mono ?_; rintro e w1 ⟨rfl, hb1⟩))
  go_ret
  exact ⟨rfl, bel_call hB hb1⟩

set_option maxRecDepth 100000 in
set_option maxHeartbeats 4000000 in
theorem order_mtf (bs : List Int) (t u a b d r q x : Int) (lr lb : Bool) (hb : bs.length = 32) (w : World)
    (kwt : ∀ w, Calls Try.prog 42 #[.agg #[.int .u64 (L0 t), .int .u64 (L1 t), .int .u64 (L2 t), .int .u64 (L3 t)]] w fun e w' => e = .returned (.agg #[.int .u64 (L0 a), .int .u64 (L1 a), .int .u64 (L2 a), .int .u64 (L3 a)]) ∧ Below w.heap.size w w')
    (kwu : ∀ w, Calls Try.prog 42 #[.agg #[.int .u64 (L0 u), .int .u64 (L1 u), .int .u64 (L2 u), .int .u64 (L3 u)]] w fun e w' => e = .returned (.agg #[.int .u64 (L0 b), .int .u64 (L1 b), .int .u64 (L2 b), .int .u64 (L3 b)]) ∧ Below w.heap.size w w')
    (klt : ∀ w, Calls Try.prog 29 #[.agg #[.int .u64 (L0 t), .int .u64 (L1 t), .int .u64 (L2 t), .int .u64 (L3 t)], .agg #[.int .u64 (L0 u), .int .u64 (L1 u), .int .u64 (L2 u), .int .u64 (L3 u)]] w fun e w' => e = .returned (.bool true) ∧ Below w.heap.size w w')
    (kab : ∀ w, Calls Try.prog 29 #[.agg #[.int .u64 (L0 a), .int .u64 (L1 a), .int .u64 (L2 a), .int .u64 (L3 a)], .agg #[.int .u64 (L0 b), .int .u64 (L1 b), .int .u64 (L2 b), .int .u64 (L3 b)]] w fun e w' => e = .returned (.bool false) ∧ Below w.heap.size w w')
    (n1 : ∀ w, (binOp .neq 24 (.agg #[.int .u64 (L0 t), .int .u64 (L1 t), .int .u64 (L2 t), .int .u64 (L3 t)]) (.agg #[.int .u64 (L0 0), .int .u64 (L1 0), .int .u64 (L2 0), .int .u64 (L3 0)])).run Try.prog w = .ok (.bool true) w)
    (n2 : ∀ w, (binOp .eql 24 (.agg #[.int .u64 (L0 t), .int .u64 (L1 t), .int .u64 (L2 t), .int .u64 (L3 t)]) (.agg #[.int .u64 (L0 0), .int .u64 (L1 0), .int .u64 (L2 0), .int .u64 (L3 0)])).run Try.prog w = .ok (.bool false) w)
    (kmt : ∀ w, Calls Try.prog 43 #[.agg (bs.map (Value.int .u8)).toArray, .agg #[.int .u64 (L0 t), .int .u64 (L1 t), .int .u64 (L2 t), .int .u64 (L3 t)]] w fun e w' => e = .returned (.bool false) ∧ Below w.heap.size w w')
    (kof : ∀ w, Calls Try.prog 23 #[.int .u64 1] w fun e w' => e = .returned (.agg #[.int .u64 (L0 1), .int .u64 (L1 1), .int .u64 (L2 1), .int .u64 (L3 1)]) ∧ Below w.heap.size w w')
    (kad : ∀ w, Calls Try.prog 21 #[.agg #[.int .u64 (L0 t), .int .u64 (L1 t), .int .u64 (L2 t), .int .u64 (L3 t)], .agg #[.int .u64 (L0 1), .int .u64 (L1 1), .int .u64 (L2 1), .int .u64 (L3 1)]] w fun e w' => e = .returned (.tuple #[.agg #[.int .u64 (L0 d), .int .u64 (L1 d), .int .u64 (L2 d), .int .u64 (L3 d)], .bool false]) ∧ Below w.heap.size w w')
    (ksr : ∀ w, Calls Try.prog 24 #[.agg #[.int .u64 (L0 0), .int .u64 (L1 0), .int .u64 (L2 0), .int .u64 (L3 0)], .agg #[.int .u64 (L0 d), .int .u64 (L1 d), .int .u64 (L2 d), .int .u64 (L3 d)]] w fun e w' => e = .returned (.tuple #[.agg #[.int .u64 (L0 r), .int .u64 (L1 r), .int .u64 (L2 r), .int .u64 (L3 r)], .bool lr]) ∧ Below w.heap.size w w')
    (ksl : ∀ w, Calls Try.prog 24 #[.agg #[.int .u64 (L0 a), .int .u64 (L1 a), .int .u64 (L2 a), .int .u64 (L3 a)], .agg #[.int .u64 (L0 1), .int .u64 (L1 1), .int .u64 (L2 1), .int .u64 (L3 1)]] w fun e w' => e = .returned (.tuple #[.agg #[.int .u64 (L0 q), .int .u64 (L1 q), .int .u64 (L2 q), .int .u64 (L3 q)], .bool lb]) ∧ Below w.heap.size w w')
    (kdv : ∀ w, Calls Try.prog 14 #[.agg #[.int .u64 (L0 r), .int .u64 (L1 r), .int .u64 (L2 r), .int .u64 (L3 r)], .agg #[.int .u64 (L0 d), .int .u64 (L1 d), .int .u64 (L2 d), .int .u64 (L3 d)]] w fun e w' => e = .returned (.tuple #[.agg #[.int .u64 (L0 q), .int .u64 (L1 q), .int .u64 (L2 q), .int .u64 (L3 q)], .agg #[.int .u64 (L0 x), .int .u64 (L1 x), .int .u64 (L2 x), .int .u64 (L3 x)], .int .i64 0]) ∧ Below w.heap.size w w')
    (n4 : ∀ w, (binOp .eql 24 (.agg #[.int .u64 (L0 q), .int .u64 (L1 q), .int .u64 (L2 q), .int .u64 (L3 q)]) (.agg #[.int .u64 (L0 q), .int .u64 (L1 q), .int .u64 (L2 q), .int .u64 (L3 q)])).run Try.prog w = .ok (.bool true) w)
    (n5 : ∀ w, (binOp .neq 24 (.agg #[.int .u64 (L0 a), .int .u64 (L1 a), .int .u64 (L2 a), .int .u64 (L3 a)]) (.agg #[.int .u64 (L0 0), .int .u64 (L1 0), .int .u64 (L2 0), .int .u64 (L3 0)])).run Try.prog w = .ok (.bool true) w)
    (k41 : ∀ w, Calls Try.prog 41 #[] w fun e w' => e = .returned (.bool true) ∧ Below w.heap.size w w')
    : Calls Try.prog 12 #[big t, big u, hsh bs] w fun e w' => e = .returned (.bool true) ∧ Below w.heap.size w w' := by
  have hib := info42 (bs.map (Value.int .u8)).toArray.size (by simp [hb])
  have HIB := Lib.hid hib
  clear hb hib
  unfold big hsh
  go_enter Try.func12, Try.ntmps12
  go_upto_region 1 with (fail)
  refine wp_gen (fun W => Cells4 W w.heap.size t ∧ Cells4 W (w.heap.size + 1) u ∧ RowU (w.heap.size + 1 + 1) bs W ∧ Below w.heap.size w W) ⟨((cells4_new w t).alloc _).alloc _, (cells4_new' (w.alloc _) _ u (by simp)).alloc _, RowU.new' ((w.alloc _).alloc _) bs _ (by simp), bel_alloc (bel_alloc (bel_alloc (Below.refl _ _) _) _) _⟩ ?_
  rintro W ⟨c0, c1, c2, hB⟩
  obtain ⟨x00, x01, x02, x03, -, -, -, -⟩ := id c0
  go_upto_region 2 with (first | (go_at_call 42; with_reducible refine (kwt _).mono ?_; rintro e w1 ⟨rfl, hb1⟩))
  have l0 := c0.lt
  have l1 := c1.lt
  have l2 := c2.lt
  refine wp_gen (fun W => Cells4 W (w.heap.size) t ∧ Cells4 W (w.heap.size + 1) u ∧ RowU (w.heap.size + 1 + 1) bs W ∧ Cells4 W (w1.heap.size) a ∧ Below w.heap.size w W) ⟨((c0.below hb1 l0).alloc _), ((c1.below hb1 l1).alloc _), ((c2.below hb1 l2).alloc _), cells4_new _ _, bel_alloc (bel_call (hB) hb1) _⟩ ?_
  clear hb1 l0 l1 l2 c0 c1 c2 hB x00 x01 x02 x03
  generalize w1.heap.size = b1
  clear w1 W
  rintro W ⟨c0, c1, c2, c3, hB⟩
  obtain ⟨x10, x11, x12, x13, -, -, -, -⟩ := id c1
  go_upto_region 3 with (first | (go_at_call 42; with_reducible refine (kwu _).mono ?_; rintro e w1 ⟨rfl, hb1⟩))
  have l0 := c0.lt
  have l1 := c1.lt
  have l2 := c2.lt
  have l3 := c3.lt
  refine wp_gen (fun W => Cells4 W (w.heap.size) t ∧ Cells4 W (w.heap.size + 1) u ∧ RowU (w.heap.size + 1 + 1) bs W ∧ Cells4 W b1 a ∧ Cells4 W (w1.heap.size) b ∧ Below w.heap.size w W) ⟨((c0.below hb1 l0).alloc _), ((c1.below hb1 l1).alloc _), ((c2.below hb1 l2).alloc _), ((c3.below hb1 l3).alloc _), cells4_new _ _, bel_alloc (bel_call (hB) hb1) _⟩ ?_
  clear hb1 l0 l1 l2 l3 c0 c1 c2 c3 hB x10 x11 x12 x13
  generalize w1.heap.size = b2
  clear w1 W
  rintro W ⟨c0, c1, c2, c3, c4, hB⟩
  obtain ⟨x00, x01, x02, x03, -, -, -, -⟩ := id c0
  obtain ⟨x10, x11, x12, x13, -, -, -, -⟩ := id c1
  go_upto_region 5 with (first | (go_at_call 29; with_reducible refine (klt _).mono ?_; rintro e w1 ⟨rfl, hb1⟩; obtain ⟨y30, y31, y32, y33, -, -, -, -⟩ := id (c3.call hb1); obtain ⟨y40, y41, y42, y43, -, -, -, -⟩ := id (c4.call hb1)) | (go_at_call 29; with_reducible refine (kab _).mono ?_; rintro e w2 ⟨rfl, hb2⟩))
  have hs1 := hb1.size
  have l0 := c0.lt
  have l1 := c1.lt
  have l2 := c2.lt
  have l3 := c3.lt
  have l4 := c4.lt
  refine wp_gen (fun W => Cells4 W (w.heap.size) t ∧ Cells4 W (w.heap.size + 1) u ∧ RowU (w.heap.size + 1 + 1) bs W ∧ Cells4 W b1 a ∧ Cells4 W b2 b ∧ Below w.heap.size w W) ⟨((c0.below hb1 l0).below hb2 (by omega)), ((c1.below hb1 l1).below hb2 (by omega)), ((c2.below hb1 l2).below hb2 (by omega)), ((c3.below hb1 l3).below hb2 (by omega)), ((c4.below hb1 l4).below hb2 (by omega)), bel_call (bel_call (hB) hb1) hb2⟩ ?_
  clear y30 y31 y32 y33 y40 y41 y42 y43 hb1 hb2 hs1 l0 l1 l2 l3 l4 c0 c1 c2 c3 c4 hB x00 x01 x02 x03 x10 x11 x12 x13
  clear w1 w2 W
  rintro W ⟨c0, c1, c2, c3, c4, hB⟩
  go_upto_region 6 with (fail)
  refine wp_gen (fun V => Cells4 V (w.heap.size) t ∧ Cells4 V (w.heap.size + 1) u ∧ RowU (w.heap.size + 1 + 1) bs V ∧ Cells4 V b1 a ∧ Cells4 V b2 b ∧ Cells4 V W.heap.size 0 ∧ Below w.heap.size w V) ⟨c0.alloc _, c1.alloc _, c2.alloc _, c3.alloc _, c4.alloc _, cells4_zero _, bel_alloc hB _⟩ ?_
  clear c0 c1 c2 c3 c4 hB
  generalize W.heap.size = b3
  clear W
  rintro W ⟨c0, c1, c2, c3, c4, c5, hB⟩
  obtain ⟨x00, x01, x02, x03, -, -, -, -⟩ := id c0
  obtain ⟨x10, x11, x12, x13, -, -, -, -⟩ := id c1
  obtain ⟨x50, x51, x52, x53, -, -, -, -⟩ := id c5
  go_upto_region 8 with (first | (go_at_call 29; with_reducible refine (klt _).mono ?_; rintro e w1 ⟨rfl, hb1⟩; have CH1 := Lib.hid (RowU.heap (c2.call hb1)); obtain ⟨y10, y11, y12, y13, -, -, -, -⟩ := id (c0.call hb1); obtain ⟨z10, z11, z12, z13, -, -, -, -⟩ := id (c1.call hb1)) | (go_at_call 43; with_reducible refine (kmt _).mono ?_; rintro e w2 ⟨rfl, hb2⟩; have CH2 := Lib.hid (RowU.heap ((c2.call hb1).call hb2)); obtain ⟨y20, y21, y22, y23, -, -, -, -⟩ := id ((c0.call hb1).call hb2); obtain ⟨z20, z21, z22, z23, -, -, -, -⟩ := id ((c1.call hb1).call hb2)) | (refine wp_load_row 42 _ rfl _ rfl 42 _ _ _ CH1.out Try.underlying42 rfl HIB.out ?_) | (refine wpList_load_row rfl 42 _ rfl _ rfl 42 _ _ _ CH1.out Try.underlying42 rfl HIB.out ?_))
  refine wp_gen (fun W => Cells4 W (w.heap.size) t ∧ Cells4 W (w.heap.size + 1) u ∧ RowU (w.heap.size + 1 + 1) bs W ∧ Cells4 W b1 a ∧ Cells4 W b2 b ∧ Cells4 W b3 0 ∧ Below w.heap.size w W) ⟨(c0.call hb1).call hb2, (c1.call hb1).call hb2, (c2.call hb1).call hb2, (c3.call hb1).call hb2, (c4.call hb1).call hb2, (c5.call hb1).call hb2, bel_call (bel_call (hB) hb1) hb2⟩ ?_
  clear hb1 hb2 CH1 y10 y11 y12 y13 z10 z11 z12 z13 CH2 y20 y21 y22 y23 z20 z21 z22 z23 x00 x01 x02 x03 x10 x11 x12 x13 x50 x51 x52 x53 c0 c1 c2 c3 c4 c5 hB
  clear w1 w2 W
  rintro W ⟨c0, c1, c2, c3, c4, c5, hB⟩
  refine wp_gen (fun W => Cells4 W (w.heap.size) t ∧ Cells4 W b3 0 ∧ Cells4 W b1 a ∧ Below w.heap.size w W) ⟨c0, c5, c3, hB⟩ ?_
  clear c0 c1 c2 c3 c4 c5 hB
  clear W
  rintro W ⟨c0, c1, c2, hB⟩
  obtain ⟨x00, x01, x02, x03, -, -, -, -⟩ := id c0
  go_cut [10, 11] (fun s10 s11 wx => ∃ e10 : Nat, s10 = .pointer (some ⟨e10, 0, none⟩) ∧ s11 = .bool false ∧ Cells4 wx (w.heap.size) t ∧ Cells4 wx b3 0 ∧ Cells4 wx b1 a ∧ Cells4 wx e10 d ∧ Below w.heap.size w wx)
  case first =>
    have mk : ∀ w', Below W.heap.size W w' → w'.cell? ⟨w.heap.size, 0, none⟩ = some (.int .u64 (L0 t)) ∧ w'.cell? ⟨w.heap.size, 1, none⟩ = some (.int .u64 (L1 t)) ∧ w'.cell? ⟨w.heap.size, 2, none⟩ = some (.int .u64 (L2 t)) ∧ w'.cell? ⟨w.heap.size, 3, none⟩ = some (.int .u64 (L3 t)) := fun w' hb' => ⟨(c0.call hb').c0, (c0.call hb').c1, (c0.call hb').c2, (c0.call hb').c3⟩
    go_region_held3 (fun w' => w'.cell? ⟨w.heap.size, 0, none⟩ = some (.int .u64 (L0 t)) ∧ w'.cell? ⟨w.heap.size, 1, none⟩ = some (.int .u64 (L1 t)) ∧ w'.cell? ⟨w.heap.size, 2, none⟩ = some (.int .u64 (L2 t)) ∧ w'.cell? ⟨w.heap.size, 3, none⟩ = some (.int .u64 (L3 t))) (first | (with_reducible refine mk _ ?_; repeat (first | with_reducible exact Below.refl _ _ | with_reducible refine bel_drew ?_ | with_reducible refine bel_alloc ?_ _ | with_reducible refine bel_set ?_ _ _ (Nat.le_refl _) _ | with_reducible refine hq2 ?_ | with_reducible refine hq1 ?_ | with_reducible refine bel_set ?_ _ _ hz2 _ | with_reducible refine bel_set ?_ _ _ hz1 _)) | fail) (first | (go_at_call 23; with_reducible refine (kof _).mono ?_; rintro e w1 ⟨rfl, hb1⟩; have hq1 : Below W.heap.size W _ → Below W.heap.size W w1 := fun h => bel_call h hb1; have hv1 : ∀ b v, Cells4 _ b v → Cells4 w1 b v := fun _ _ h => h.call hb1; have hs1 := hb1.size; (try (have hy1_0_0 : W.heap.size < w1.heap.size := by (have hh := hb1.size; (try simp at hh); omega))); obtain ⟨hc1, hf1⟩ := bcell hb1; have hz1 : W.heap.size ≤ w1.heap.size := by (have hh := hb1.size; (try simp at hh); omega)) | (go_at_call 21; with_reducible refine (kad _).mono ?_; rintro e w2 ⟨rfl, hb2⟩; have hq2 : Below W.heap.size W _ → Below W.heap.size W w2 := fun h => bel_call h hb2; have hv2 : ∀ b v, Cells4 _ b v → Cells4 w2 b v := fun _ _ h => h.call hb2; have hs2 := hb2.size; (try (have hy2_0_0 : W.heap.size < w2.heap.size := by (have hh := hb2.size; (try simp at hh); omega))); (try (have hy2_1_0 : w1.heap.size < w2.heap.size := by (have hh := hb2.size; (try simp at hh); omega))); obtain ⟨hc2, hf2⟩ := bcell hb2; have hz2 : W.heap.size ≤ w2.heap.size := by (have hh := hb2.size; (try simp at hh); omega)) | fail)
    all_goals (go_wp2_with fail; go_meet)
    all_goals refine (fun (h1 : Below W.heap.size W _) (k10 : Cells4 _ _ d) => ⟨_, rfl, rfl, c0.call h1, c1.call h1, c2.call h1, k10, bel_call hB h1⟩) ?_ ?_
    all_goals (first | (with_reducible refine Below.trans (Below.refl _ _) ?_; repeat (first | with_reducible exact Below.refl _ _ | with_reducible refine bel_drew ?_ | with_reducible refine bel_alloc ?_ _ | with_reducible refine bel_set ?_ _ _ (Nat.le_refl _) _ | with_reducible refine hq2 ?_ | with_reducible refine hq1 ?_ | with_reducible refine bel_set ?_ _ _ hz2 _ | with_reducible refine bel_set ?_ _ _ hz1 _)) | (repeat (first | with_reducible exact cells4_zero _ | with_reducible exact cells4_new _ _ | with_reducible refine Cells4.alloc ?_ _ | with_reducible refine Cells4.drew ?_ | with_reducible refine hv2 _ _ ?_ | with_reducible refine hv1 _ _ ?_ | with_reducible refine cells4_puts (u := 0) ?_ _)))
  case' rest =>
    obtain ⟨e10, rfl, rfl, nc0, nc1, nc2, nc3, hB'⟩ := hcut
    clear c0 c1 c2 hB x00 x01 x02 x03 
    clear W
    go_upto_region 9 with (fail)
    refine wp_gen (fun W => Cells4 W (w.heap.size) t ∧ Cells4 W b3 0 ∧ Cells4 W b1 a ∧ Cells4 W e10 d ∧ Below w.heap.size w W) ⟨nc0, nc1, nc2, nc3, hB'⟩ ?_
    clear nc0 nc1 nc2 nc3 hB'
    clear wc
  rintro W ⟨c0, c1, c2, c3, hB⟩
  obtain ⟨x00, x01, x02, x03, -, -, -, -⟩ := id c0
  obtain ⟨x10, x11, x12, x13, -, -, -, -⟩ := id c1
  obtain ⟨x30, x31, x32, x33, -, -, -, -⟩ := id c3
  go_upto_region 12 with (first | (go_at_call 24; with_reducible refine (ksr _).mono ?_; rintro e w1 ⟨rfl, hb1⟩))
  have l0 := c0.lt
  have l1 := c1.lt
  have l2 := c2.lt
  have l3 := c3.lt
  refine wp_gen (fun W => Cells4 W (w.heap.size) t ∧ Cells4 W b3 0 ∧ Cells4 W b1 a ∧ Cells4 W e10 d ∧ Cells4 W (w1.heap.size) r ∧ Below w.heap.size w W) ⟨((c0.below hb1 l0).alloc _), ((c1.below hb1 l1).alloc _), ((c2.below hb1 l2).alloc _), ((c3.below hb1 l3).alloc _), cells4_new _ _, bel_alloc (bel_call (hB) hb1) _⟩ ?_
  clear hb1 l0 l1 l2 l3 c0 c1 c2 c3 hB x00 x01 x02 x03 x10 x11 x12 x13 x30 x31 x32 x33
  generalize w1.heap.size = b4
  clear w1 W
  rintro W ⟨c0, c1, c2, c3, c4, hB⟩
  obtain ⟨x20, x21, x22, x23, -, -, -, -⟩ := id c2
  go_cut [14, 15] (fun s14 s15 wx => ∃ e14 : Nat, s14 = .pointer (some ⟨e14, 0, none⟩) ∧ s15 = .bool lb ∧ Cells4 wx (w.heap.size) t ∧ Cells4 wx b3 0 ∧ Cells4 wx b1 a ∧ Cells4 wx e10 d ∧ Cells4 wx b4 r ∧ Cells4 wx e14 q ∧ Below w.heap.size w wx)
  case first =>
    have mk : ∀ w', Below W.heap.size W w' → w'.cell? ⟨b1, 0, none⟩ = some (.int .u64 (L0 a)) ∧ w'.cell? ⟨b1, 1, none⟩ = some (.int .u64 (L1 a)) ∧ w'.cell? ⟨b1, 2, none⟩ = some (.int .u64 (L2 a)) ∧ w'.cell? ⟨b1, 3, none⟩ = some (.int .u64 (L3 a)) := fun w' hb' => ⟨(c2.call hb').c0, (c2.call hb').c1, (c2.call hb').c2, (c2.call hb').c3⟩
    go_region_held3 (fun w' => w'.cell? ⟨b1, 0, none⟩ = some (.int .u64 (L0 a)) ∧ w'.cell? ⟨b1, 1, none⟩ = some (.int .u64 (L1 a)) ∧ w'.cell? ⟨b1, 2, none⟩ = some (.int .u64 (L2 a)) ∧ w'.cell? ⟨b1, 3, none⟩ = some (.int .u64 (L3 a))) (first | (with_reducible refine mk _ ?_; repeat (first | with_reducible exact Below.refl _ _ | with_reducible refine bel_drew ?_ | with_reducible refine bel_alloc ?_ _ | with_reducible refine bel_set ?_ _ _ (Nat.le_refl _) _ | with_reducible refine hq2 ?_ | with_reducible refine hq1 ?_ | with_reducible refine bel_set ?_ _ _ hz2 _ | with_reducible refine bel_set ?_ _ _ hz1 _)) | fail) (first | (go_at_call 23; with_reducible refine (kof _).mono ?_; rintro e w1 ⟨rfl, hb1⟩; have hq1 : Below W.heap.size W _ → Below W.heap.size W w1 := fun h => bel_call h hb1; have hv1 : ∀ b v, Cells4 _ b v → Cells4 w1 b v := fun _ _ h => h.call hb1; have hs1 := hb1.size; (try (have hy1_0_0 : W.heap.size < w1.heap.size := by (have hh := hb1.size; (try simp at hh); omega))); obtain ⟨hc1, hf1⟩ := bcell hb1; have hz1 : W.heap.size ≤ w1.heap.size := by (have hh := hb1.size; (try simp at hh); omega)) | (go_at_call 24; with_reducible refine (ksl _).mono ?_; rintro e w2 ⟨rfl, hb2⟩; have hq2 : Below W.heap.size W _ → Below W.heap.size W w2 := fun h => bel_call h hb2; have hv2 : ∀ b v, Cells4 _ b v → Cells4 w2 b v := fun _ _ h => h.call hb2; have hs2 := hb2.size; (try (have hy2_0_0 : W.heap.size < w2.heap.size := by (have hh := hb2.size; (try simp at hh); omega))); (try (have hy2_1_0 : w1.heap.size < w2.heap.size := by (have hh := hb2.size; (try simp at hh); omega))); obtain ⟨hc2, hf2⟩ := bcell hb2; have hz2 : W.heap.size ≤ w2.heap.size := by (have hh := hb2.size; (try simp at hh); omega)) | fail)
    all_goals (go_wp2_with fail; go_meet)
    all_goals refine (fun (h1 : Below W.heap.size W _) (k14 : Cells4 _ _ q) => ⟨_, rfl, rfl, c0.call h1, c1.call h1, c2.call h1, c3.call h1, c4.call h1, k14, bel_call hB h1⟩) ?_ ?_
    all_goals (first | (with_reducible refine Below.trans (Below.refl _ _) ?_; repeat (first | with_reducible exact Below.refl _ _ | with_reducible refine bel_drew ?_ | with_reducible refine bel_alloc ?_ _ | with_reducible refine bel_set ?_ _ _ (Nat.le_refl _) _ | with_reducible refine hq2 ?_ | with_reducible refine hq1 ?_ | with_reducible refine bel_set ?_ _ _ hz2 _ | with_reducible refine bel_set ?_ _ _ hz1 _)) | (repeat (first | with_reducible exact cells4_zero _ | with_reducible exact cells4_new _ _ | with_reducible refine Cells4.alloc ?_ _ | with_reducible refine Cells4.drew ?_ | with_reducible refine hv2 _ _ ?_ | with_reducible refine hv1 _ _ ?_ | with_reducible refine cells4_puts (u := 0) ?_ _)))
  case' rest =>
    obtain ⟨e14, rfl, rfl, nc0, nc1, nc2, nc3, nc4, nc5, hB'⟩ := hcut
    clear c0 c1 c2 c3 c4 hB x20 x21 x22 x23 
    clear W
    go_upto_region 13 with (fail)
    refine wp_gen (fun W => Cells4 W (w.heap.size) t ∧ Cells4 W b3 0 ∧ Cells4 W b1 a ∧ Cells4 W e10 d ∧ Cells4 W b4 r ∧ Cells4 W e14 q ∧ Below w.heap.size w W) ⟨nc0, nc1, nc2, nc3, nc4, nc5, hB'⟩ ?_
    clear nc0 nc1 nc2 nc3 nc4 nc5 hB'
    clear wc
  rintro W ⟨c0, c1, c2, c3, c4, c5, hB⟩
  obtain ⟨x40, x41, x42, x43, -, -, -, -⟩ := id c4
  obtain ⟨x30, x31, x32, x33, -, -, -, -⟩ := id c3
  go_upto_region 14 with (first | (go_at_call 14; with_reducible refine (kdv _).mono ?_; rintro e w1 ⟨rfl, hb1⟩))
  have l0 := c0.lt
  have l1 := c1.lt
  have l2 := c2.lt
  have l3 := c3.lt
  have l4 := c4.lt
  have l5 := c5.lt
  refine wp_gen (fun W => Cells4 W (w.heap.size) t ∧ Cells4 W b3 0 ∧ Cells4 W b1 a ∧ Cells4 W e10 d ∧ Cells4 W b4 r ∧ Cells4 W e14 q ∧ Cells4 W (w1.heap.size) q ∧ Cells4 W (w1.heap.size + 1) x ∧ Below w.heap.size w W) ⟨(((c0.below hb1 l0).alloc _).alloc _), (((c1.below hb1 l1).alloc _).alloc _), (((c2.below hb1 l2).alloc _).alloc _), (((c3.below hb1 l3).alloc _).alloc _), (((c4.below hb1 l4).alloc _).alloc _), (((c5.below hb1 l5).alloc _).alloc _), (cells4_new _ _).alloc _, cells4_new' _ _ _ (by simp), bel_alloc (bel_alloc (bel_call (hB) hb1) _) _⟩ ?_
  clear hb1 l0 l1 l2 l3 l4 l5 c0 c1 c2 c3 c4 c5 hB x40 x41 x42 x43 x30 x31 x32 x33
  generalize w1.heap.size = b5
  clear w1 W
  rintro W ⟨c0, c1, c2, c3, c4, c5, c6, c7, hB⟩
  obtain ⟨x60, x61, x62, x63, -, -, -, -⟩ := id c6
  obtain ⟨x50, x51, x52, x53, -, -, -, -⟩ := id c5
  obtain ⟨x20, x21, x22, x23, -, -, -, -⟩ := id c2
  obtain ⟨x10, x11, x12, x13, -, -, -, -⟩ := id c1
  go_wp2_with (first | (go_at_call 41; with_reducible refine (k41 _).mono ?_; rintro e w1 ⟨rfl, hb1⟩))
  go_ret
  exact ⟨rfl, bel_call hB hb1⟩

set_option maxRecDepth 100000 in
set_option maxHeartbeats 4000000 in
theorem order_mtt (bs : List Int) (t u a b d r q x : Int) (lr lb : Bool) (hb : bs.length = 32) (w : World)
    (kwt : ∀ w, Calls Try.prog 42 #[.agg #[.int .u64 (L0 t), .int .u64 (L1 t), .int .u64 (L2 t), .int .u64 (L3 t)]] w fun e w' => e = .returned (.agg #[.int .u64 (L0 a), .int .u64 (L1 a), .int .u64 (L2 a), .int .u64 (L3 a)]) ∧ Below w.heap.size w w')
    (kwu : ∀ w, Calls Try.prog 42 #[.agg #[.int .u64 (L0 u), .int .u64 (L1 u), .int .u64 (L2 u), .int .u64 (L3 u)]] w fun e w' => e = .returned (.agg #[.int .u64 (L0 b), .int .u64 (L1 b), .int .u64 (L2 b), .int .u64 (L3 b)]) ∧ Below w.heap.size w w')
    (klt : ∀ w, Calls Try.prog 29 #[.agg #[.int .u64 (L0 t), .int .u64 (L1 t), .int .u64 (L2 t), .int .u64 (L3 t)], .agg #[.int .u64 (L0 u), .int .u64 (L1 u), .int .u64 (L2 u), .int .u64 (L3 u)]] w fun e w' => e = .returned (.bool true) ∧ Below w.heap.size w w')
    (kab : ∀ w, Calls Try.prog 29 #[.agg #[.int .u64 (L0 a), .int .u64 (L1 a), .int .u64 (L2 a), .int .u64 (L3 a)], .agg #[.int .u64 (L0 b), .int .u64 (L1 b), .int .u64 (L2 b), .int .u64 (L3 b)]] w fun e w' => e = .returned (.bool false) ∧ Below w.heap.size w w')
    (n1 : ∀ w, (binOp .neq 24 (.agg #[.int .u64 (L0 t), .int .u64 (L1 t), .int .u64 (L2 t), .int .u64 (L3 t)]) (.agg #[.int .u64 (L0 0), .int .u64 (L1 0), .int .u64 (L2 0), .int .u64 (L3 0)])).run Try.prog w = .ok (.bool true) w)
    (n2 : ∀ w, (binOp .eql 24 (.agg #[.int .u64 (L0 t), .int .u64 (L1 t), .int .u64 (L2 t), .int .u64 (L3 t)]) (.agg #[.int .u64 (L0 0), .int .u64 (L1 0), .int .u64 (L2 0), .int .u64 (L3 0)])).run Try.prog w = .ok (.bool false) w)
    (kmt : ∀ w, Calls Try.prog 43 #[.agg (bs.map (Value.int .u8)).toArray, .agg #[.int .u64 (L0 t), .int .u64 (L1 t), .int .u64 (L2 t), .int .u64 (L3 t)]] w fun e w' => e = .returned (.bool true) ∧ Below w.heap.size w w')
    (kmu : ∀ w, Calls Try.prog 43 #[.agg (bs.map (Value.int .u8)).toArray, .agg #[.int .u64 (L0 u), .int .u64 (L1 u), .int .u64 (L2 u), .int .u64 (L3 u)]] w fun e w' => e = .returned (.bool true) ∧ Below w.heap.size w w')
    (kof : ∀ w, Calls Try.prog 23 #[.int .u64 1] w fun e w' => e = .returned (.agg #[.int .u64 (L0 1), .int .u64 (L1 1), .int .u64 (L2 1), .int .u64 (L3 1)]) ∧ Below w.heap.size w w')
    (kad : ∀ w, Calls Try.prog 21 #[.agg #[.int .u64 (L0 t), .int .u64 (L1 t), .int .u64 (L2 t), .int .u64 (L3 t)], .agg #[.int .u64 (L0 1), .int .u64 (L1 1), .int .u64 (L2 1), .int .u64 (L3 1)]] w fun e w' => e = .returned (.tuple #[.agg #[.int .u64 (L0 d), .int .u64 (L1 d), .int .u64 (L2 d), .int .u64 (L3 d)], .bool false]) ∧ Below w.heap.size w w')
    (ksr : ∀ w, Calls Try.prog 24 #[.agg #[.int .u64 (L0 0), .int .u64 (L1 0), .int .u64 (L2 0), .int .u64 (L3 0)], .agg #[.int .u64 (L0 d), .int .u64 (L1 d), .int .u64 (L2 d), .int .u64 (L3 d)]] w fun e w' => e = .returned (.tuple #[.agg #[.int .u64 (L0 r), .int .u64 (L1 r), .int .u64 (L2 r), .int .u64 (L3 r)], .bool lr]) ∧ Below w.heap.size w w')
    (ksl : ∀ w, Calls Try.prog 24 #[.agg #[.int .u64 (L0 a), .int .u64 (L1 a), .int .u64 (L2 a), .int .u64 (L3 a)], .agg #[.int .u64 (L0 1), .int .u64 (L1 1), .int .u64 (L2 1), .int .u64 (L3 1)]] w fun e w' => e = .returned (.tuple #[.agg #[.int .u64 (L0 q), .int .u64 (L1 q), .int .u64 (L2 q), .int .u64 (L3 q)], .bool lb]) ∧ Below w.heap.size w w')
    (kdv : ∀ w, Calls Try.prog 14 #[.agg #[.int .u64 (L0 r), .int .u64 (L1 r), .int .u64 (L2 r), .int .u64 (L3 r)], .agg #[.int .u64 (L0 d), .int .u64 (L1 d), .int .u64 (L2 d), .int .u64 (L3 d)]] w fun e w' => e = .returned (.tuple #[.agg #[.int .u64 (L0 q), .int .u64 (L1 q), .int .u64 (L2 q), .int .u64 (L3 q)], .agg #[.int .u64 (L0 x), .int .u64 (L1 x), .int .u64 (L2 x), .int .u64 (L3 x)], .int .i64 0]) ∧ Below w.heap.size w w')
    (n4 : ∀ w, (binOp .eql 24 (.agg #[.int .u64 (L0 q), .int .u64 (L1 q), .int .u64 (L2 q), .int .u64 (L3 q)]) (.agg #[.int .u64 (L0 q), .int .u64 (L1 q), .int .u64 (L2 q), .int .u64 (L3 q)])).run Try.prog w = .ok (.bool true) w)
    (n5 : ∀ w, (binOp .neq 24 (.agg #[.int .u64 (L0 a), .int .u64 (L1 a), .int .u64 (L2 a), .int .u64 (L3 a)]) (.agg #[.int .u64 (L0 0), .int .u64 (L1 0), .int .u64 (L2 0), .int .u64 (L3 0)])).run Try.prog w = .ok (.bool true) w)
    (k41 : ∀ w, Calls Try.prog 41 #[] w fun e w' => e = .returned (.bool true) ∧ Below w.heap.size w w')
    : Calls Try.prog 12 #[big t, big u, hsh bs] w fun e w' => e = .returned (.bool true) ∧ Below w.heap.size w w' := by
  have hib := info42 (bs.map (Value.int .u8)).toArray.size (by simp [hb])
  have HIB := Lib.hid hib
  clear hb hib
  unfold big hsh
  go_enter Try.func12, Try.ntmps12
  go_upto_region 1 with (fail)
  refine wp_gen (fun W => Cells4 W w.heap.size t ∧ Cells4 W (w.heap.size + 1) u ∧ RowU (w.heap.size + 1 + 1) bs W ∧ Below w.heap.size w W) ⟨((cells4_new w t).alloc _).alloc _, (cells4_new' (w.alloc _) _ u (by simp)).alloc _, RowU.new' ((w.alloc _).alloc _) bs _ (by simp), bel_alloc (bel_alloc (bel_alloc (Below.refl _ _) _) _) _⟩ ?_
  rintro W ⟨c0, c1, c2, hB⟩
  obtain ⟨x00, x01, x02, x03, -, -, -, -⟩ := id c0
  go_upto_region 2 with (first | (go_at_call 42; with_reducible refine (kwt _).mono ?_; rintro e w1 ⟨rfl, hb1⟩))
  have l0 := c0.lt
  have l1 := c1.lt
  have l2 := c2.lt
  refine wp_gen (fun W => Cells4 W (w.heap.size) t ∧ Cells4 W (w.heap.size + 1) u ∧ RowU (w.heap.size + 1 + 1) bs W ∧ Cells4 W (w1.heap.size) a ∧ Below w.heap.size w W) ⟨((c0.below hb1 l0).alloc _), ((c1.below hb1 l1).alloc _), ((c2.below hb1 l2).alloc _), cells4_new _ _, bel_alloc (bel_call (hB) hb1) _⟩ ?_
  clear hb1 l0 l1 l2 c0 c1 c2 hB x00 x01 x02 x03
  generalize w1.heap.size = b1
  clear w1 W
  rintro W ⟨c0, c1, c2, c3, hB⟩
  obtain ⟨x10, x11, x12, x13, -, -, -, -⟩ := id c1
  go_upto_region 3 with (first | (go_at_call 42; with_reducible refine (kwu _).mono ?_; rintro e w1 ⟨rfl, hb1⟩))
  have l0 := c0.lt
  have l1 := c1.lt
  have l2 := c2.lt
  have l3 := c3.lt
  refine wp_gen (fun W => Cells4 W (w.heap.size) t ∧ Cells4 W (w.heap.size + 1) u ∧ RowU (w.heap.size + 1 + 1) bs W ∧ Cells4 W b1 a ∧ Cells4 W (w1.heap.size) b ∧ Below w.heap.size w W) ⟨((c0.below hb1 l0).alloc _), ((c1.below hb1 l1).alloc _), ((c2.below hb1 l2).alloc _), ((c3.below hb1 l3).alloc _), cells4_new _ _, bel_alloc (bel_call (hB) hb1) _⟩ ?_
  clear hb1 l0 l1 l2 l3 c0 c1 c2 c3 hB x10 x11 x12 x13
  generalize w1.heap.size = b2
  clear w1 W
  rintro W ⟨c0, c1, c2, c3, c4, hB⟩
  obtain ⟨x00, x01, x02, x03, -, -, -, -⟩ := id c0
  obtain ⟨x10, x11, x12, x13, -, -, -, -⟩ := id c1
  go_upto_region 5 with (first | (go_at_call 29; with_reducible refine (klt _).mono ?_; rintro e w1 ⟨rfl, hb1⟩; obtain ⟨y30, y31, y32, y33, -, -, -, -⟩ := id (c3.call hb1); obtain ⟨y40, y41, y42, y43, -, -, -, -⟩ := id (c4.call hb1)) | (go_at_call 29; with_reducible refine (kab _).mono ?_; rintro e w2 ⟨rfl, hb2⟩))
  have hs1 := hb1.size
  have l0 := c0.lt
  have l1 := c1.lt
  have l2 := c2.lt
  have l3 := c3.lt
  have l4 := c4.lt
  refine wp_gen (fun W => Cells4 W (w.heap.size) t ∧ Cells4 W (w.heap.size + 1) u ∧ RowU (w.heap.size + 1 + 1) bs W ∧ Cells4 W b1 a ∧ Cells4 W b2 b ∧ Below w.heap.size w W) ⟨((c0.below hb1 l0).below hb2 (by omega)), ((c1.below hb1 l1).below hb2 (by omega)), ((c2.below hb1 l2).below hb2 (by omega)), ((c3.below hb1 l3).below hb2 (by omega)), ((c4.below hb1 l4).below hb2 (by omega)), bel_call (bel_call (hB) hb1) hb2⟩ ?_
  clear y30 y31 y32 y33 y40 y41 y42 y43 hb1 hb2 hs1 l0 l1 l2 l3 l4 c0 c1 c2 c3 c4 hB x00 x01 x02 x03 x10 x11 x12 x13
  clear w1 w2 W
  rintro W ⟨c0, c1, c2, c3, c4, hB⟩
  go_upto_region 6 with (fail)
  refine wp_gen (fun V => Cells4 V (w.heap.size) t ∧ Cells4 V (w.heap.size + 1) u ∧ RowU (w.heap.size + 1 + 1) bs V ∧ Cells4 V b1 a ∧ Cells4 V b2 b ∧ Cells4 V W.heap.size 0 ∧ Below w.heap.size w V) ⟨c0.alloc _, c1.alloc _, c2.alloc _, c3.alloc _, c4.alloc _, cells4_zero _, bel_alloc hB _⟩ ?_
  clear c0 c1 c2 c3 c4 hB
  generalize W.heap.size = b3
  clear W
  rintro W ⟨c0, c1, c2, c3, c4, c5, hB⟩
  obtain ⟨x00, x01, x02, x03, -, -, -, -⟩ := id c0
  obtain ⟨x10, x11, x12, x13, -, -, -, -⟩ := id c1
  obtain ⟨x50, x51, x52, x53, -, -, -, -⟩ := id c5
  go_upto_region 8 with (first | (go_at_call 29; with_reducible refine (klt _).mono ?_; rintro e w1 ⟨rfl, hb1⟩; have CH1 := Lib.hid (RowU.heap (c2.call hb1)); obtain ⟨y10, y11, y12, y13, -, -, -, -⟩ := id (c0.call hb1); obtain ⟨z10, z11, z12, z13, -, -, -, -⟩ := id (c1.call hb1)) | (go_at_call 43; with_reducible refine (kmt _).mono ?_; rintro e w2 ⟨rfl, hb2⟩; have CH2 := Lib.hid (RowU.heap ((c2.call hb1).call hb2)); obtain ⟨y20, y21, y22, y23, -, -, -, -⟩ := id ((c0.call hb1).call hb2); obtain ⟨z20, z21, z22, z23, -, -, -, -⟩ := id ((c1.call hb1).call hb2)) | (go_at_call 43; with_reducible refine (kmu _).mono ?_; rintro e w3 ⟨rfl, hb3⟩) | (refine wp_load_row 42 _ rfl _ rfl 42 _ _ _ CH2.out Try.underlying42 rfl HIB.out ?_) | (refine wpList_load_row rfl 42 _ rfl _ rfl 42 _ _ _ CH2.out Try.underlying42 rfl HIB.out ?_) | (refine wp_load_row 42 _ rfl _ rfl 42 _ _ _ CH1.out Try.underlying42 rfl HIB.out ?_) | (refine wpList_load_row rfl 42 _ rfl _ rfl 42 _ _ _ CH1.out Try.underlying42 rfl HIB.out ?_))
  refine wp_gen (fun W => Cells4 W (w.heap.size) t ∧ Cells4 W (w.heap.size + 1) u ∧ RowU (w.heap.size + 1 + 1) bs W ∧ Cells4 W b1 a ∧ Cells4 W b2 b ∧ Cells4 W b3 0 ∧ Below w.heap.size w W) ⟨((c0.call hb1).call hb2).call hb3, ((c1.call hb1).call hb2).call hb3, ((c2.call hb1).call hb2).call hb3, ((c3.call hb1).call hb2).call hb3, ((c4.call hb1).call hb2).call hb3, ((c5.call hb1).call hb2).call hb3, bel_call (bel_call (bel_call (hB) hb1) hb2) hb3⟩ ?_
  clear hb1 hb2 hb3 CH1 y10 y11 y12 y13 z10 z11 z12 z13 CH2 y20 y21 y22 y23 z20 z21 z22 z23 x00 x01 x02 x03 x10 x11 x12 x13 x50 x51 x52 x53 c0 c1 c2 c3 c4 c5 hB
  clear w1 w2 w3 W
  rintro W ⟨c0, c1, c2, c3, c4, c5, hB⟩
  refine wp_gen (fun W => Cells4 W (w.heap.size) t ∧ Cells4 W b3 0 ∧ Cells4 W b1 a ∧ Below w.heap.size w W) ⟨c0, c5, c3, hB⟩ ?_
  clear c0 c1 c2 c3 c4 c5 hB
  clear W
  rintro W ⟨c0, c1, c2, hB⟩
  obtain ⟨x00, x01, x02, x03, -, -, -, -⟩ := id c0
  go_cut [10, 11] (fun s10 s11 wx => ∃ e10 : Nat, s10 = .pointer (some ⟨e10, 0, none⟩) ∧ s11 = .bool false ∧ Cells4 wx (w.heap.size) t ∧ Cells4 wx b3 0 ∧ Cells4 wx b1 a ∧ Cells4 wx e10 d ∧ Below w.heap.size w wx)
  case first =>
    have mk : ∀ w', Below W.heap.size W w' → w'.cell? ⟨w.heap.size, 0, none⟩ = some (.int .u64 (L0 t)) ∧ w'.cell? ⟨w.heap.size, 1, none⟩ = some (.int .u64 (L1 t)) ∧ w'.cell? ⟨w.heap.size, 2, none⟩ = some (.int .u64 (L2 t)) ∧ w'.cell? ⟨w.heap.size, 3, none⟩ = some (.int .u64 (L3 t)) := fun w' hb' => ⟨(c0.call hb').c0, (c0.call hb').c1, (c0.call hb').c2, (c0.call hb').c3⟩
    go_region_held3 (fun w' => w'.cell? ⟨w.heap.size, 0, none⟩ = some (.int .u64 (L0 t)) ∧ w'.cell? ⟨w.heap.size, 1, none⟩ = some (.int .u64 (L1 t)) ∧ w'.cell? ⟨w.heap.size, 2, none⟩ = some (.int .u64 (L2 t)) ∧ w'.cell? ⟨w.heap.size, 3, none⟩ = some (.int .u64 (L3 t))) (first | (with_reducible refine mk _ ?_; repeat (first | with_reducible exact Below.refl _ _ | with_reducible refine bel_drew ?_ | with_reducible refine bel_alloc ?_ _ | with_reducible refine bel_set ?_ _ _ (Nat.le_refl _) _ | with_reducible refine hq2 ?_ | with_reducible refine hq1 ?_ | with_reducible refine bel_set ?_ _ _ hz2 _ | with_reducible refine bel_set ?_ _ _ hz1 _)) | fail) (first | (go_at_call 23; with_reducible refine (kof _).mono ?_; rintro e w1 ⟨rfl, hb1⟩; have hq1 : Below W.heap.size W _ → Below W.heap.size W w1 := fun h => bel_call h hb1; have hv1 : ∀ b v, Cells4 _ b v → Cells4 w1 b v := fun _ _ h => h.call hb1; have hs1 := hb1.size; (try (have hy1_0_0 : W.heap.size < w1.heap.size := by (have hh := hb1.size; (try simp at hh); omega))); obtain ⟨hc1, hf1⟩ := bcell hb1; have hz1 : W.heap.size ≤ w1.heap.size := by (have hh := hb1.size; (try simp at hh); omega)) | (go_at_call 21; with_reducible refine (kad _).mono ?_; rintro e w2 ⟨rfl, hb2⟩; have hq2 : Below W.heap.size W _ → Below W.heap.size W w2 := fun h => bel_call h hb2; have hv2 : ∀ b v, Cells4 _ b v → Cells4 w2 b v := fun _ _ h => h.call hb2; have hs2 := hb2.size; (try (have hy2_0_0 : W.heap.size < w2.heap.size := by (have hh := hb2.size; (try simp at hh); omega))); (try (have hy2_1_0 : w1.heap.size < w2.heap.size := by (have hh := hb2.size; (try simp at hh); omega))); obtain ⟨hc2, hf2⟩ := bcell hb2; have hz2 : W.heap.size ≤ w2.heap.size := by (have hh := hb2.size; (try simp at hh); omega)) | fail)
    all_goals (go_wp2_with fail; go_meet)
    all_goals refine (fun (h1 : Below W.heap.size W _) (k10 : Cells4 _ _ d) => ⟨_, rfl, rfl, c0.call h1, c1.call h1, c2.call h1, k10, bel_call hB h1⟩) ?_ ?_
    all_goals (first | (with_reducible refine Below.trans (Below.refl _ _) ?_; repeat (first | with_reducible exact Below.refl _ _ | with_reducible refine bel_drew ?_ | with_reducible refine bel_alloc ?_ _ | with_reducible refine bel_set ?_ _ _ (Nat.le_refl _) _ | with_reducible refine hq2 ?_ | with_reducible refine hq1 ?_ | with_reducible refine bel_set ?_ _ _ hz2 _ | with_reducible refine bel_set ?_ _ _ hz1 _)) | (repeat (first | with_reducible exact cells4_zero _ | with_reducible exact cells4_new _ _ | with_reducible refine Cells4.alloc ?_ _ | with_reducible refine Cells4.drew ?_ | with_reducible refine hv2 _ _ ?_ | with_reducible refine hv1 _ _ ?_ | with_reducible refine cells4_puts (u := 0) ?_ _)))
  case' rest =>
    obtain ⟨e10, rfl, rfl, nc0, nc1, nc2, nc3, hB'⟩ := hcut
    clear c0 c1 c2 hB x00 x01 x02 x03 
    clear W
    go_upto_region 9 with (fail)
    refine wp_gen (fun W => Cells4 W (w.heap.size) t ∧ Cells4 W b3 0 ∧ Cells4 W b1 a ∧ Cells4 W e10 d ∧ Below w.heap.size w W) ⟨nc0, nc1, nc2, nc3, hB'⟩ ?_
    clear nc0 nc1 nc2 nc3 hB'
    clear wc
  rintro W ⟨c0, c1, c2, c3, hB⟩
  obtain ⟨x00, x01, x02, x03, -, -, -, -⟩ := id c0
  obtain ⟨x10, x11, x12, x13, -, -, -, -⟩ := id c1
  obtain ⟨x30, x31, x32, x33, -, -, -, -⟩ := id c3
  go_upto_region 12 with (first | (go_at_call 24; with_reducible refine (ksr _).mono ?_; rintro e w1 ⟨rfl, hb1⟩))
  have l0 := c0.lt
  have l1 := c1.lt
  have l2 := c2.lt
  have l3 := c3.lt
  refine wp_gen (fun W => Cells4 W (w.heap.size) t ∧ Cells4 W b3 0 ∧ Cells4 W b1 a ∧ Cells4 W e10 d ∧ Cells4 W (w1.heap.size) r ∧ Below w.heap.size w W) ⟨((c0.below hb1 l0).alloc _), ((c1.below hb1 l1).alloc _), ((c2.below hb1 l2).alloc _), ((c3.below hb1 l3).alloc _), cells4_new _ _, bel_alloc (bel_call (hB) hb1) _⟩ ?_
  clear hb1 l0 l1 l2 l3 c0 c1 c2 c3 hB x00 x01 x02 x03 x10 x11 x12 x13 x30 x31 x32 x33
  generalize w1.heap.size = b4
  clear w1 W
  rintro W ⟨c0, c1, c2, c3, c4, hB⟩
  obtain ⟨x20, x21, x22, x23, -, -, -, -⟩ := id c2
  go_cut [14, 15] (fun s14 s15 wx => ∃ e14 : Nat, s14 = .pointer (some ⟨e14, 0, none⟩) ∧ s15 = .bool lb ∧ Cells4 wx (w.heap.size) t ∧ Cells4 wx b3 0 ∧ Cells4 wx b1 a ∧ Cells4 wx e10 d ∧ Cells4 wx b4 r ∧ Cells4 wx e14 q ∧ Below w.heap.size w wx)
  case first =>
    have mk : ∀ w', Below W.heap.size W w' → w'.cell? ⟨b1, 0, none⟩ = some (.int .u64 (L0 a)) ∧ w'.cell? ⟨b1, 1, none⟩ = some (.int .u64 (L1 a)) ∧ w'.cell? ⟨b1, 2, none⟩ = some (.int .u64 (L2 a)) ∧ w'.cell? ⟨b1, 3, none⟩ = some (.int .u64 (L3 a)) := fun w' hb' => ⟨(c2.call hb').c0, (c2.call hb').c1, (c2.call hb').c2, (c2.call hb').c3⟩
    go_region_held3 (fun w' => w'.cell? ⟨b1, 0, none⟩ = some (.int .u64 (L0 a)) ∧ w'.cell? ⟨b1, 1, none⟩ = some (.int .u64 (L1 a)) ∧ w'.cell? ⟨b1, 2, none⟩ = some (.int .u64 (L2 a)) ∧ w'.cell? ⟨b1, 3, none⟩ = some (.int .u64 (L3 a))) (first | (with_reducible refine mk _ ?_; repeat (first | with_reducible exact Below.refl _ _ | with_reducible refine bel_drew ?_ | with_reducible refine bel_alloc ?_ _ | with_reducible refine bel_set ?_ _ _ (Nat.le_refl _) _ | with_reducible refine hq2 ?_ | with_reducible refine hq1 ?_ | with_reducible refine bel_set ?_ _ _ hz2 _ | with_reducible refine bel_set ?_ _ _ hz1 _)) | fail) (first | (go_at_call 23; with_reducible refine (kof _).mono ?_; rintro e w1 ⟨rfl, hb1⟩; have hq1 : Below W.heap.size W _ → Below W.heap.size W w1 := fun h => bel_call h hb1; have hv1 : ∀ b v, Cells4 _ b v → Cells4 w1 b v := fun _ _ h => h.call hb1; have hs1 := hb1.size; (try (have hy1_0_0 : W.heap.size < w1.heap.size := by (have hh := hb1.size; (try simp at hh); omega))); obtain ⟨hc1, hf1⟩ := bcell hb1; have hz1 : W.heap.size ≤ w1.heap.size := by (have hh := hb1.size; (try simp at hh); omega)) | (go_at_call 24; with_reducible refine (ksl _).mono ?_; rintro e w2 ⟨rfl, hb2⟩; have hq2 : Below W.heap.size W _ → Below W.heap.size W w2 := fun h => bel_call h hb2; have hv2 : ∀ b v, Cells4 _ b v → Cells4 w2 b v := fun _ _ h => h.call hb2; have hs2 := hb2.size; (try (have hy2_0_0 : W.heap.size < w2.heap.size := by (have hh := hb2.size; (try simp at hh); omega))); (try (have hy2_1_0 : w1.heap.size < w2.heap.size := by (have hh := hb2.size; (try simp at hh); omega))); obtain ⟨hc2, hf2⟩ := bcell hb2; have hz2 : W.heap.size ≤ w2.heap.size := by (have hh := hb2.size; (try simp at hh); omega)) | fail)
    all_goals (go_wp2_with fail; go_meet)
    all_goals refine (fun (h1 : Below W.heap.size W _) (k14 : Cells4 _ _ q) => ⟨_, rfl, rfl, c0.call h1, c1.call h1, c2.call h1, c3.call h1, c4.call h1, k14, bel_call hB h1⟩) ?_ ?_
    all_goals (first | (with_reducible refine Below.trans (Below.refl _ _) ?_; repeat (first | with_reducible exact Below.refl _ _ | with_reducible refine bel_drew ?_ | with_reducible refine bel_alloc ?_ _ | with_reducible refine bel_set ?_ _ _ (Nat.le_refl _) _ | with_reducible refine hq2 ?_ | with_reducible refine hq1 ?_ | with_reducible refine bel_set ?_ _ _ hz2 _ | with_reducible refine bel_set ?_ _ _ hz1 _)) | (repeat (first | with_reducible exact cells4_zero _ | with_reducible exact cells4_new _ _ | with_reducible refine Cells4.alloc ?_ _ | with_reducible refine Cells4.drew ?_ | with_reducible refine hv2 _ _ ?_ | with_reducible refine hv1 _ _ ?_ | with_reducible refine cells4_puts (u := 0) ?_ _)))
  case' rest =>
    obtain ⟨e14, rfl, rfl, nc0, nc1, nc2, nc3, nc4, nc5, hB'⟩ := hcut
    clear c0 c1 c2 c3 c4 hB x20 x21 x22 x23 
    clear W
    go_upto_region 13 with (fail)
    refine wp_gen (fun W => Cells4 W (w.heap.size) t ∧ Cells4 W b3 0 ∧ Cells4 W b1 a ∧ Cells4 W e10 d ∧ Cells4 W b4 r ∧ Cells4 W e14 q ∧ Below w.heap.size w W) ⟨nc0, nc1, nc2, nc3, nc4, nc5, hB'⟩ ?_
    clear nc0 nc1 nc2 nc3 nc4 nc5 hB'
    clear wc
  rintro W ⟨c0, c1, c2, c3, c4, c5, hB⟩
  obtain ⟨x40, x41, x42, x43, -, -, -, -⟩ := id c4
  obtain ⟨x30, x31, x32, x33, -, -, -, -⟩ := id c3
  go_upto_region 14 with (first | (go_at_call 14; with_reducible refine (kdv _).mono ?_; rintro e w1 ⟨rfl, hb1⟩))
  have l0 := c0.lt
  have l1 := c1.lt
  have l2 := c2.lt
  have l3 := c3.lt
  have l4 := c4.lt
  have l5 := c5.lt
  refine wp_gen (fun W => Cells4 W (w.heap.size) t ∧ Cells4 W b3 0 ∧ Cells4 W b1 a ∧ Cells4 W e10 d ∧ Cells4 W b4 r ∧ Cells4 W e14 q ∧ Cells4 W (w1.heap.size) q ∧ Cells4 W (w1.heap.size + 1) x ∧ Below w.heap.size w W) ⟨(((c0.below hb1 l0).alloc _).alloc _), (((c1.below hb1 l1).alloc _).alloc _), (((c2.below hb1 l2).alloc _).alloc _), (((c3.below hb1 l3).alloc _).alloc _), (((c4.below hb1 l4).alloc _).alloc _), (((c5.below hb1 l5).alloc _).alloc _), (cells4_new _ _).alloc _, cells4_new' _ _ _ (by simp), bel_alloc (bel_alloc (bel_call (hB) hb1) _) _⟩ ?_
  clear hb1 l0 l1 l2 l3 l4 l5 c0 c1 c2 c3 c4 c5 hB x40 x41 x42 x43 x30 x31 x32 x33
  generalize w1.heap.size = b5
  clear w1 W
  rintro W ⟨c0, c1, c2, c3, c4, c5, c6, c7, hB⟩
  obtain ⟨x60, x61, x62, x63, -, -, -, -⟩ := id c6
  obtain ⟨x50, x51, x52, x53, -, -, -, -⟩ := id c5
  obtain ⟨x20, x21, x22, x23, -, -, -, -⟩ := id c2
  obtain ⟨x10, x11, x12, x13, -, -, -, -⟩ := id c1
  go_wp2_with (first | (go_at_call 41; with_reducible refine (k41 _).mono ?_; rintro e w1 ⟨rfl, hb1⟩))
  go_ret
  exact ⟨rfl, bel_call hB hb1⟩
end Go.Proofs.Ytefnlmiephombaa
