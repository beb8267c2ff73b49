/- The walk of BigMoves, from its calls' answers. -/
import Derived.Test.YtefnlmiephombaaTl
namespace Go.Proofs.Ytefnlmiephombaa
open Go.RowKit Go.Sort

set_option maxRecDepth 100000 in
set_option maxHeartbeats 4000000 in
theorem mov_near (x k x2 p q r t u lb : Int) (ov : Bool) (w : World) (hk : IntKind.i64.wrap k = k) (hk2 : IntKind.i64.wrap (256 - k) = 256 - k) (hk3 : IntKind.i64.wrap (bl x - k) = bl x - k)
    (kadd : ∀ w, Calls Try.prog 21 #[.agg #[.int .u64 (L0 x), .int .u64 (L1 x), .int .u64 (L2 x), .int .u64 (L3 x)], .agg #[.int .u64 (L0 x), .int .u64 (L1 x), .int .u64 (L2 x), .int .u64 (L3 x)]] w fun e w' => e = .returned (.tuple #[.agg #[.int .u64 (L0 x2), .int .u64 (L1 x2), .int .u64 (L2 x2), .int .u64 (L3 x2)], .bool ov]) ∧ Below w.heap.size w w')
    (kup1 : ∀ w, Calls Try.prog 16 #[.agg #[.int .u64 (L0 x), .int .u64 (L1 x), .int .u64 (L2 x), .int .u64 (L3 x)], .int .i64 1] w fun e w' => e = .returned (.agg #[.int .u64 (L0 x2), .int .u64 (L1 x2), .int .u64 (L2 x2), .int .u64 (L3 x2)]) ∧ Below w.heap.size w w')
    (kbx : ∀ w, Calls Try.prog 22 #[.agg #[.int .u64 (L0 x), .int .u64 (L1 x), .int .u64 (L2 x), .int .u64 (L3 x)]] w fun e w' => e = .returned (.int .i64 (bl x)) ∧ Below w.heap.size w w')
    (kbq : ∀ w, Calls Try.prog 22 #[.agg #[.int .u64 (L0 q), .int .u64 (L1 q), .int .u64 (L2 q), .int .u64 (L3 q)]] w fun e w' => e = .returned (.int .i64 lb) ∧ Below w.heap.size w w')
    (kpw : ∀ w, Calls Try.prog 16 #[.agg #[.int .u64 (L0 1), .int .u64 (L1 1), .int .u64 (L2 1), .int .u64 (L3 1)], .int .i64 k] w fun e w' => e = .returned (.agg #[.int .u64 (L0 p), .int .u64 (L1 p), .int .u64 (L2 p), .int .u64 (L3 p)]) ∧ Below w.heap.size w w')
    (kdv : ∀ w, Calls Try.prog 14 #[.agg #[.int .u64 (L0 x), .int .u64 (L1 x), .int .u64 (L2 x), .int .u64 (L3 x)], .agg #[.int .u64 (L0 p), .int .u64 (L1 p), .int .u64 (L2 p), .int .u64 (L3 p)]] w fun e w' => e = .returned (.tuple #[.agg #[.int .u64 (L0 q), .int .u64 (L1 q), .int .u64 (L2 q), .int .u64 (L3 q)], .agg #[.int .u64 (L0 r), .int .u64 (L1 r), .int .u64 (L2 r), .int .u64 (L3 r)], .int .i64 0]) ∧ Below w.heap.size w w')
    (kdn : ∀ w, Calls Try.prog 18 #[.agg #[.int .u64 (L0 x), .int .u64 (L1 x), .int .u64 (L2 x), .int .u64 (L3 x)], .int .i64 k] w fun e w' => e = .returned (.agg #[.int .u64 (L0 q), .int .u64 (L1 q), .int .u64 (L2 q), .int .u64 (L3 q)]) ∧ Below w.heap.size w w')
    (kuq : ∀ w, Calls Try.prog 16 #[.agg #[.int .u64 (L0 q), .int .u64 (L1 q), .int .u64 (L2 q), .int .u64 (L3 q)], .int .i64 k] w fun e w' => e = .returned (.agg #[.int .u64 (L0 t), .int .u64 (L1 t), .int .u64 (L2 t), .int .u64 (L3 t)]) ∧ Below w.heap.size w w')
    (ksb : ∀ w, Calls Try.prog 24 #[.agg #[.int .u64 (L0 x), .int .u64 (L1 x), .int .u64 (L2 x), .int .u64 (L3 x)], .agg #[.int .u64 (L0 t), .int .u64 (L1 t), .int .u64 (L2 t), .int .u64 (L3 t)]] w fun e w' => e = .returned (.tuple #[.agg #[.int .u64 (L0 r), .int .u64 (L1 r), .int .u64 (L2 r), .int .u64 (L3 r)], .bool false]) ∧ Below w.heap.size w w')
    (kux : ∀ w, Calls Try.prog 16 #[.agg #[.int .u64 (L0 x), .int .u64 (L1 x), .int .u64 (L2 x), .int .u64 (L3 x)], .int .i64 k] w fun e w' => e = .returned (.agg #[.int .u64 (L0 u), .int .u64 (L1 u), .int .u64 (L2 u), .int .u64 (L3 u)]) ∧ Below w.heap.size w w')
    (kdu : ∀ w, Calls Try.prog 18 #[.agg #[.int .u64 (L0 u), .int .u64 (L1 u), .int .u64 (L2 u), .int .u64 (L3 u)], .int .i64 k] w fun e w' => e = .returned (.agg #[.int .u64 (L0 x), .int .u64 (L1 x), .int .u64 (L2 x), .int .u64 (L3 x)]) ∧ Below w.heap.size w w')
    (hov : (bl x == 256) = ov) (hlb : max 0 (bl x - k) = lb) (hfar : decide (256 - k < bl x) = false)
    : Calls Try.prog 4 #[big x, .int .u8 k] w fun e w' => e = .returned (.bool true) ∧ Below w.heap.size w w' := by
  have n1 : ∀ w, (binOp .neq 24 (.agg #[.int .u64 (L0 x2), .int .u64 (L1 x2), .int .u64 (L2 x2), .int .u64 (L3 x2)]) (.agg #[.int .u64 (L0 x2), .int .u64 (L1 x2), .int .u64 (L2 x2), .int .u64 (L3 x2)])).run Try.prog w = .ok (.bool false) w := fun w => by
    have := neq_run x2 x2 w
    rwa [show (!(m x2 == m x2)) = false by simp] at this
  have n2 : ∀ w, (binOp .neq 24 (.agg #[.int .u64 (L0 q), .int .u64 (L1 q), .int .u64 (L2 q), .int .u64 (L3 q)]) (.agg #[.int .u64 (L0 q), .int .u64 (L1 q), .int .u64 (L2 q), .int .u64 (L3 q)])).run Try.prog w = .ok (.bool false) w := fun w => by
    have := neq_run q q w
    rwa [show (!(m q == m q)) = false by simp] at this
  have n3 : ∀ w, (binOp .neq 24 (.agg #[.int .u64 (L0 r), .int .u64 (L1 r), .int .u64 (L2 r), .int .u64 (L3 r)]) (.agg #[.int .u64 (L0 r), .int .u64 (L1 r), .int .u64 (L2 r), .int .u64 (L3 r)])).run Try.prog w = .ok (.bool false) w := fun w => by
    have := neq_run r r w
    rwa [show (!(m r == m r)) = false by simp] at this
  have n4 : ∀ w, (binOp .eql 24 (.agg #[.int .u64 (L0 x), .int .u64 (L1 x), .int .u64 (L2 x), .int .u64 (L3 x)]) (.agg #[.int .u64 (L0 x), .int .u64 (L1 x), .int .u64 (L2 x), .int .u64 (L3 x)])).run Try.prog w = .ok (.bool true) w := fun w => by
    have := eq_run x x w
    rwa [show (m x == m x) = true by simp] at this
  have HOV := Lib.hid hov
  have HLB := Lib.hid hlb
  have HF := Lib.hid hfar
  clear hov hlb hfar
  unfold big
  go_enter Try.func4, Try.ntmps4
  go_upto_region 1 with (fail)
  refine wp_gen (fun W => Cells4 W (w.heap.size) x ∧ Below w.heap.size w W) ⟨cells4_new w x, bel_alloc (Below.refl _ _) _⟩ ?_
  rintro W ⟨c0, hB⟩
  obtain ⟨x00, x01, x02, x03, -, -, -, -⟩ := id c0
  go_upto_region 3 with (first | (go_at_call 21; with_reducible refine (kadd _).mono ?_; rintro e w1 ⟨rfl, hb1⟩))
  have l0 := c0.lt
  refine wp_gen (fun W => Cells4 W (w.heap.size) x ∧ Cells4 W (w1.heap.size) x2 ∧ Below w.heap.size w W) ⟨((c0.below hb1 l0).alloc _), cells4_new _ _, bel_alloc (bel_call (hB) hb1) _⟩ ?_
  clear hb1 l0 c0 hB x00 x01 x02 x03
  generalize w1.heap.size = b1
  clear w1 W
  rintro W ⟨c0, c1, hB⟩
  have k00 := fun d os => (c0.regrown d os).c0
  have k01 := fun d os => (c0.regrown d os).c1
  have k02 := fun d os => (c0.regrown d os).c2
  have k03 := fun d os => (c0.regrown d os).c3
  have k10 := fun d os => (c1.regrown d os).c0
  have k11 := fun d os => (c1.regrown d os).c1
  have k12 := fun d os => (c1.regrown d os).c2
  have k13 := fun d os => (c1.regrown d os).c3
  have q0 := quiet_call W kup1
  have q1 := quiet_call W kbx
  have hov := HOV.out
  refine wp_region_quiet_below (by kernel_rfl) (by kernel_rfl) ?_
  repeat (go_big_quiet_step ((first | with_reducible exact q0 _ _ | with_reducible exact q1 _ _)))
  refine wpQuiet_nil ?_
  intro W1 hw'
  have d0 : Cells4 W1 (w.heap.size) x := by obtain ⟨p, rfl⟩ := hw'; exact c0.regrown _ _
  have d1 : Cells4 W1 b1 x2 := by obtain ⟨p, rfl⟩ := hw'; exact c1.regrown _ _
  have hB1 : Below w.heap.size w W1 := by obtain ⟨p, rfl⟩ := hw'; exact hB.trans ((below_regrown W _ _).mono hB.size)
  clear hw' k00 k01 k02 k03 k10 k11 k12 k13 q0 q1 hB c0 c1 hov
  clear W
  go_upto_region 5 with (fail)
  refine wp_gen (fun W => Cells4 W (w.heap.size) x ∧ Cells4 W b1 x2 ∧ Below w.heap.size w W) ⟨d0, d1, hB1⟩ ?_
  clear d0 d1 hB1
  clear W1
  rintro W ⟨c0, c1, hB⟩
  go_upto_region 6 with (first | (go_at_call 23; with_reducible refine (kof1 _).mono ?_; rintro e w1 ⟨rfl, hb1⟩) | (go_at_call 16; with_reducible refine (kpw _).mono ?_; rintro e w2 ⟨rfl, hb2⟩))
  have hs1 := hb1.size
  have l0 := c0.lt
  have l1 := c1.lt
  refine wp_gen (fun W => Cells4 W (w.heap.size) x ∧ Cells4 W b1 x2 ∧ Cells4 W (w2.heap.size) p ∧ Below w.heap.size w W) ⟨(((c0.below hb1 l0).below hb2 (by omega)).alloc _), (((c1.below hb1 l1).below hb2 (by omega)).alloc _), cells4_new _ _, bel_alloc (bel_call (bel_call (hB) hb1) hb2) _⟩ ?_
  clear hb1 hb2 hs1 l0 l1 c0 c1 hB 
  generalize w2.heap.size = b2
  clear w1 w2 W
  rintro W ⟨c0, c1, c2, hB⟩
  obtain ⟨x00, x01, x02, x03, -, -, -, -⟩ := id c0
  obtain ⟨x20, x21, x22, x23, -, -, -, -⟩ := id c2
  go_upto_region 7 with (first | (go_at_call 14; with_reducible refine (kdv _).mono ?_; rintro e w1 ⟨rfl, hb1⟩))
  have l0 := c0.lt
  have l1 := c1.lt
  have l2 := c2.lt
  refine wp_gen (fun W => Cells4 W (w.heap.size) x ∧ Cells4 W b1 x2 ∧ Cells4 W b2 p ∧ Cells4 W (w1.heap.size) q ∧ Cells4 W (w1.heap.size + 1) r ∧ Below w.heap.size w W) ⟨(((c0.below hb1 l0).alloc _).alloc _), (((c1.below hb1 l1).alloc _).alloc _), (((c2.below hb1 l2).alloc _).alloc _), (cells4_new _ _).alloc _, cells4_new' _ _ _ (by simp), bel_alloc (bel_alloc (bel_call (hB) hb1) _) _⟩ ?_
  clear hb1 l0 l1 l2 c0 c1 c2 hB x00 x01 x02 x03 x20 x21 x22 x23
  generalize w1.heap.size = b3
  clear w1 W
  rintro W ⟨c0, c1, c2, c3, c4, hB⟩
  have k00 := fun d os => (c0.regrown d os).c0
  have k01 := fun d os => (c0.regrown d os).c1
  have k02 := fun d os => (c0.regrown d os).c2
  have k03 := fun d os => (c0.regrown d os).c3
  have k30 := fun d os => (c3.regrown d os).c0
  have k31 := fun d os => (c3.regrown d os).c1
  have k32 := fun d os => (c3.regrown d os).c2
  have k33 := fun d os => (c3.regrown d os).c3
  have q0 := quiet_call W kdn
  refine wp_region_quiet_below (by kernel_rfl) (by kernel_rfl) ?_
  repeat (go_big_quiet_step ((first | with_reducible exact q0 _ _)))
  refine wpQuiet_nil ?_
  intro W1 hw'
  have d0 : Cells4 W1 (w.heap.size) x := by obtain ⟨p, rfl⟩ := hw'; exact c0.regrown _ _
  have d1 : Cells4 W1 b1 x2 := by obtain ⟨p, rfl⟩ := hw'; exact c1.regrown _ _
  have d2 : Cells4 W1 b2 p := by obtain ⟨p, rfl⟩ := hw'; exact c2.regrown _ _
  have d3 : Cells4 W1 b3 q := by obtain ⟨p, rfl⟩ := hw'; exact c3.regrown _ _
  have d4 : Cells4 W1 (b3 + 1) r := by obtain ⟨p, rfl⟩ := hw'; exact c4.regrown _ _
  have hB1 : Below w.heap.size w W1 := by obtain ⟨p, rfl⟩ := hw'; exact hB.trans ((below_regrown W _ _).mono hB.size)
  clear hw' k00 k01 k02 k03 k30 k31 k32 k33 q0 hB c0 c1 c2 c3 c4 
  clear W
  go_upto_region 9 with (fail)
  refine wp_gen (fun W => Cells4 W (w.heap.size) x ∧ Cells4 W b1 x2 ∧ Cells4 W b2 p ∧ Cells4 W b3 q ∧ Cells4 W (b3 + 1) r ∧ Below w.heap.size w W) ⟨d0, d1, d2, d3, d4, hB1⟩ ?_
  clear d0 d1 d2 d3 d4 hB1
  clear W1
  rintro W ⟨c0, c1, c2, c3, c4, hB⟩
  obtain ⟨x00, x01, x02, x03, -, -, -, -⟩ := id c0
  obtain ⟨x30, x31, x32, x33, -, -, -, -⟩ := id c3
  go_cut [12, 13] (fun s12 s13 wx => ∃ e12 : Nat, s12 = .pointer (some ⟨e12, 0, none⟩) ∧ s13 = .bool false ∧ Cells4 wx (w.heap.size) x ∧ Cells4 wx b1 x2 ∧ Cells4 wx b2 p ∧ Cells4 wx b3 q ∧ Cells4 wx (b3 + 1) r ∧ Cells4 wx e12 r ∧ Below w.heap.size w wx)
  case first =>
    have mk : ∀ w', Below W.heap.size W w' → w'.cell? ⟨w.heap.size, 0, none⟩ = some (.int .u64 (L0 x)) ∧ w'.cell? ⟨w.heap.size, 1, none⟩ = some (.int .u64 (L1 x)) ∧ w'.cell? ⟨w.heap.size, 2, none⟩ = some (.int .u64 (L2 x)) ∧ w'.cell? ⟨w.heap.size, 3, none⟩ = some (.int .u64 (L3 x)) ∧ w'.cell? ⟨b3, 0, none⟩ = some (.int .u64 (L0 q)) ∧ w'.cell? ⟨b3, 1, none⟩ = some (.int .u64 (L1 q)) ∧ w'.cell? ⟨b3, 2, none⟩ = some (.int .u64 (L2 q)) ∧ w'.cell? ⟨b3, 3, none⟩ = some (.int .u64 (L3 q)) := fun w' hb' => ⟨(c0.call hb').c0, (c0.call hb').c1, (c0.call hb').c2, (c0.call hb').c3, (c3.call hb').c0, (c3.call hb').c1, (c3.call hb').c2, (c3.call hb').c3⟩
    go_region_held3 (fun w' => w'.cell? ⟨w.heap.size, 0, none⟩ = some (.int .u64 (L0 x)) ∧ w'.cell? ⟨w.heap.size, 1, none⟩ = some (.int .u64 (L1 x)) ∧ w'.cell? ⟨w.heap.size, 2, none⟩ = some (.int .u64 (L2 x)) ∧ w'.cell? ⟨w.heap.size, 3, none⟩ = some (.int .u64 (L3 x)) ∧ w'.cell? ⟨b3, 0, none⟩ = some (.int .u64 (L0 q)) ∧ w'.cell? ⟨b3, 1, none⟩ = some (.int .u64 (L1 q)) ∧ w'.cell? ⟨b3, 2, none⟩ = some (.int .u64 (L2 q)) ∧ w'.cell? ⟨b3, 3, none⟩ = some (.int .u64 (L3 q))) (first | (with_reducible refine mk _ ?_; repeat (first | with_reducible exact Below.refl _ _ | with_reducible refine bel_drew ?_ | with_reducible refine bel_alloc ?_ _ | with_reducible refine bel_set ?_ _ _ (Nat.le_refl _) _ | with_reducible refine hq2 ?_ | with_reducible refine hq1 ?_ | with_reducible refine bel_set ?_ _ _ hz2 _ | with_reducible refine bel_set ?_ _ _ hz1 _)) | fail) (first | (go_at_call 16; with_reducible refine (kuq _).mono ?_; rintro e w1 ⟨rfl, hb1⟩; have hq1 : Below W.heap.size W _ → Below W.heap.size W w1 := fun h => bel_call h hb1; have hv1 : ∀ b v, Cells4 _ b v → Cells4 w1 b v := fun _ _ h => h.call hb1; have hs1 := hb1.size; (try (have hy1_0_0 : W.heap.size < w1.heap.size := by (have hh := hb1.size; (try simp at hh); omega))); obtain ⟨hc1, hf1⟩ := bcell hb1; have hz1 : W.heap.size ≤ w1.heap.size := by (have hh := hb1.size; (try simp at hh); omega)) | (go_at_call 24; with_reducible refine (ksb _).mono ?_; rintro e w2 ⟨rfl, hb2⟩; have hq2 : Below W.heap.size W _ → Below W.heap.size W w2 := fun h => bel_call h hb2; have hv2 : ∀ b v, Cells4 _ b v → Cells4 w2 b v := fun _ _ h => h.call hb2; have hs2 := hb2.size; (try (have hy2_0_0 : W.heap.size < w2.heap.size := by (have hh := hb2.size; (try simp at hh); omega))); (try (have hy2_1_0 : w1.heap.size < w2.heap.size := by (have hh := hb2.size; (try simp at hh); omega))); obtain ⟨hc2, hf2⟩ := bcell hb2; have hz2 : W.heap.size ≤ w2.heap.size := by (have hh := hb2.size; (try simp at hh); omega)) | fail)
    all_goals (go_wp2_with fail; go_meet)
    all_goals refine (fun (h1 : Below W.heap.size W _) (k12 : Cells4 _ _ r) => ⟨_, rfl, rfl, c0.call h1, c1.call h1, c2.call h1, c3.call h1, c4.call h1, k12, bel_call hB h1⟩) ?_ ?_
    all_goals (first | (with_reducible refine Below.trans (Below.refl _ _) ?_; repeat (first | with_reducible exact Below.refl _ _ | with_reducible refine bel_drew ?_ | with_reducible refine bel_alloc ?_ _ | with_reducible refine bel_set ?_ _ _ (Nat.le_refl _) _ | with_reducible refine hq2 ?_ | with_reducible refine hq1 ?_ | with_reducible refine bel_set ?_ _ _ hz2 _ | with_reducible refine bel_set ?_ _ _ hz1 _)) | (repeat (first | with_reducible exact cells4_zero _ | with_reducible exact cells4_new _ _ | with_reducible refine Cells4.alloc ?_ _ | with_reducible refine Cells4.drew ?_ | with_reducible refine hv2 _ _ ?_ | with_reducible refine hv1 _ _ ?_ | with_reducible refine cells4_puts (u := 0) ?_ _)))
  case' rest =>
    obtain ⟨e12, rfl, rfl, nc0, nc1, nc2, nc3, nc4, nc5, hB'⟩ := hcut
    clear c0 c1 c2 c3 c4 hB x00 x01 x02 x03 x30 x31 x32 x33 
    clear W
    go_upto_region 10 with (fail)
    refine wp_gen (fun W => Cells4 W (w.heap.size) x ∧ Cells4 W b1 x2 ∧ Cells4 W b2 p ∧ Cells4 W b3 q ∧ Cells4 W (b3 + 1) r ∧ Cells4 W e12 r ∧ Below w.heap.size w W) ⟨nc0, nc1, nc2, nc3, nc4, nc5, hB'⟩ ?_
    clear nc0 nc1 nc2 nc3 nc4 nc5 hB'
    clear wc
  rintro W ⟨c0, c1, c2, c3, c4, c5, hB⟩
  have k00 := fun d os => (c0.regrown d os).c0
  have k01 := fun d os => (c0.regrown d os).c1
  have k02 := fun d os => (c0.regrown d os).c2
  have k03 := fun d os => (c0.regrown d os).c3
  have k30 := fun d os => (c3.regrown d os).c0
  have k31 := fun d os => (c3.regrown d os).c1
  have k32 := fun d os => (c3.regrown d os).c2
  have k33 := fun d os => (c3.regrown d os).c3
  have k40 := fun d os => (c4.regrown d os).c0
  have k41 := fun d os => (c4.regrown d os).c1
  have k42 := fun d os => (c4.regrown d os).c2
  have k43 := fun d os => (c4.regrown d os).c3
  have k50 := fun d os => (c5.regrown d os).c0
  have k51 := fun d os => (c5.regrown d os).c1
  have k52 := fun d os => (c5.regrown d os).c2
  have k53 := fun d os => (c5.regrown d os).c3
  have q0 := quiet_call W kbq
  have q1 := quiet_call W kbx
  have hlb := HLB.out
  refine wp_region_quiet_below (by kernel_rfl) (by kernel_rfl) ?_
  repeat (go_big_quiet_step ((first | with_reducible exact q0 _ _ | with_reducible exact q1 _ _)))
  refine wpQuiet_nil ?_
  intro W1 hw'
  have d0 : Cells4 W1 (w.heap.size) x := by obtain ⟨p, rfl⟩ := hw'; exact c0.regrown _ _
  have d1 : Cells4 W1 b1 x2 := by obtain ⟨p, rfl⟩ := hw'; exact c1.regrown _ _
  have d2 : Cells4 W1 b2 p := by obtain ⟨p, rfl⟩ := hw'; exact c2.regrown _ _
  have d3 : Cells4 W1 b3 q := by obtain ⟨p, rfl⟩ := hw'; exact c3.regrown _ _
  have d4 : Cells4 W1 (b3 + 1) r := by obtain ⟨p, rfl⟩ := hw'; exact c4.regrown _ _
  have d5 : Cells4 W1 e12 r := by obtain ⟨p, rfl⟩ := hw'; exact c5.regrown _ _
  have hB1 : Below w.heap.size w W1 := by obtain ⟨p, rfl⟩ := hw'; exact hB.trans ((below_regrown W _ _).mono hB.size)
  clear hw' k00 k01 k02 k03 k30 k31 k32 k33 k40 k41 k42 k43 k50 k51 k52 k53 q0 q1 hB c0 c1 c2 c3 c4 c5 hlb
  clear W
  go_upto_region 12 with (fail)
  refine wp_gen (fun W => Cells4 W (w.heap.size) x ∧ Cells4 W b1 x2 ∧ Cells4 W b2 p ∧ Cells4 W b3 q ∧ Cells4 W (b3 + 1) r ∧ Cells4 W e12 r ∧ Below w.heap.size w W) ⟨d0, d1, d2, d3, d4, d5, hB1⟩ ?_
  clear d0 d1 d2 d3 d4 d5 hB1
  clear W1
  rintro W ⟨c0, c1, c2, c3, c4, c5, hB⟩
  have k00 := fun d os => (c0.regrown d os).c0
  have k01 := fun d os => (c0.regrown d os).c1
  have k02 := fun d os => (c0.regrown d os).c2
  have k03 := fun d os => (c0.regrown d os).c3
  have q0 := quiet_call W kbx
  have q1 := quiet_call W kux
  have q2 := quiet_call W kdu
  have q3 := quiet_call W works_c
  have hfar := HF.out
  refine wp_region_quiet_below (by kernel_rfl) (by kernel_rfl) ?_
  repeat (go_big_quiet_step ((first | with_reducible exact q0 _ _ | with_reducible exact q1 _ _ | with_reducible exact q2 _ _ | with_reducible exact q3 _ _)))
  refine wpQuiet_nil ?_
  intro W1 hw'
  have hB1 : Below w.heap.size w W1 := by obtain ⟨p, rfl⟩ := hw'; exact hB.trans ((below_regrown W _ _).mono hB.size)
  clear hw'
  go_wp2
  go_ret
  exact ⟨rfl, hB1⟩

set_option maxRecDepth 100000 in
set_option maxHeartbeats 4000000 in
theorem mov_far (x k x2 p q r t lb : Int) (ov : Bool) (w : World) (hk : IntKind.i64.wrap k = k) (hk2 : IntKind.i64.wrap (256 - k) = 256 - k) (hk3 : IntKind.i64.wrap (bl x - k) = bl x - k)
    (kadd : ∀ w, Calls Try.prog 21 #[.agg #[.int .u64 (L0 x), .int .u64 (L1 x), .int .u64 (L2 x), .int .u64 (L3 x)], .agg #[.int .u64 (L0 x), .int .u64 (L1 x), .int .u64 (L2 x), .int .u64 (L3 x)]] w fun e w' => e = .returned (.tuple #[.agg #[.int .u64 (L0 x2), .int .u64 (L1 x2), .int .u64 (L2 x2), .int .u64 (L3 x2)], .bool ov]) ∧ Below w.heap.size w w')
    (kup1 : ∀ w, Calls Try.prog 16 #[.agg #[.int .u64 (L0 x), .int .u64 (L1 x), .int .u64 (L2 x), .int .u64 (L3 x)], .int .i64 1] w fun e w' => e = .returned (.agg #[.int .u64 (L0 x2), .int .u64 (L1 x2), .int .u64 (L2 x2), .int .u64 (L3 x2)]) ∧ Below w.heap.size w w')
    (kbx : ∀ w, Calls Try.prog 22 #[.agg #[.int .u64 (L0 x), .int .u64 (L1 x), .int .u64 (L2 x), .int .u64 (L3 x)]] w fun e w' => e = .returned (.int .i64 (bl x)) ∧ Below w.heap.size w w')
    (kbq : ∀ w, Calls Try.prog 22 #[.agg #[.int .u64 (L0 q), .int .u64 (L1 q), .int .u64 (L2 q), .int .u64 (L3 q)]] w fun e w' => e = .returned (.int .i64 lb) ∧ Below w.heap.size w w')
    (kpw : ∀ w, Calls Try.prog 16 #[.agg #[.int .u64 (L0 1), .int .u64 (L1 1), .int .u64 (L2 1), .int .u64 (L3 1)], .int .i64 k] w fun e w' => e = .returned (.agg #[.int .u64 (L0 p), .int .u64 (L1 p), .int .u64 (L2 p), .int .u64 (L3 p)]) ∧ Below w.heap.size w w')
    (kdv : ∀ w, Calls Try.prog 14 #[.agg #[.int .u64 (L0 x), .int .u64 (L1 x), .int .u64 (L2 x), .int .u64 (L3 x)], .agg #[.int .u64 (L0 p), .int .u64 (L1 p), .int .u64 (L2 p), .int .u64 (L3 p)]] w fun e w' => e = .returned (.tuple #[.agg #[.int .u64 (L0 q), .int .u64 (L1 q), .int .u64 (L2 q), .int .u64 (L3 q)], .agg #[.int .u64 (L0 r), .int .u64 (L1 r), .int .u64 (L2 r), .int .u64 (L3 r)], .int .i64 0]) ∧ Below w.heap.size w w')
    (kdn : ∀ w, Calls Try.prog 18 #[.agg #[.int .u64 (L0 x), .int .u64 (L1 x), .int .u64 (L2 x), .int .u64 (L3 x)], .int .i64 k] w fun e w' => e = .returned (.agg #[.int .u64 (L0 q), .int .u64 (L1 q), .int .u64 (L2 q), .int .u64 (L3 q)]) ∧ Below w.heap.size w w')
    (kuq : ∀ w, Calls Try.prog 16 #[.agg #[.int .u64 (L0 q), .int .u64 (L1 q), .int .u64 (L2 q), .int .u64 (L3 q)], .int .i64 k] w fun e w' => e = .returned (.agg #[.int .u64 (L0 t), .int .u64 (L1 t), .int .u64 (L2 t), .int .u64 (L3 t)]) ∧ Below w.heap.size w w')
    (ksb : ∀ w, Calls Try.prog 24 #[.agg #[.int .u64 (L0 x), .int .u64 (L1 x), .int .u64 (L2 x), .int .u64 (L3 x)], .agg #[.int .u64 (L0 t), .int .u64 (L1 t), .int .u64 (L2 t), .int .u64 (L3 t)]] w fun e w' => e = .returned (.tuple #[.agg #[.int .u64 (L0 r), .int .u64 (L1 r), .int .u64 (L2 r), .int .u64 (L3 r)], .bool false]) ∧ Below w.heap.size w w')
    (hov : (bl x == 256) = ov) (hlb : max 0 (bl x - k) = lb) (hfar : decide (256 - k < bl x) = true)
    : Calls Try.prog 4 #[big x, .int .u8 k] w fun e w' => e = .returned (.bool true) ∧ Below w.heap.size w w' := by
  have n1 : ∀ w, (binOp .neq 24 (.agg #[.int .u64 (L0 x2), .int .u64 (L1 x2), .int .u64 (L2 x2), .int .u64 (L3 x2)]) (.agg #[.int .u64 (L0 x2), .int .u64 (L1 x2), .int .u64 (L2 x2), .int .u64 (L3 x2)])).run Try.prog w = .ok (.bool false) w := fun w => by
    have := neq_run x2 x2 w
    rwa [show (!(m x2 == m x2)) = false by simp] at this
  have n2 : ∀ w, (binOp .neq 24 (.agg #[.int .u64 (L0 q), .int .u64 (L1 q), .int .u64 (L2 q), .int .u64 (L3 q)]) (.agg #[.int .u64 (L0 q), .int .u64 (L1 q), .int .u64 (L2 q), .int .u64 (L3 q)])).run Try.prog w = .ok (.bool false) w := fun w => by
    have := neq_run q q w
    rwa [show (!(m q == m q)) = false by simp] at this
  have n3 : ∀ w, (binOp .neq 24 (.agg #[.int .u64 (L0 r), .int .u64 (L1 r), .int .u64 (L2 r), .int .u64 (L3 r)]) (.agg #[.int .u64 (L0 r), .int .u64 (L1 r), .int .u64 (L2 r), .int .u64 (L3 r)])).run Try.prog w = .ok (.bool false) w := fun w => by
    have := neq_run r r w
    rwa [show (!(m r == m r)) = false by simp] at this
  have n4 : ∀ w, (binOp .eql 24 (.agg #[.int .u64 (L0 x), .int .u64 (L1 x), .int .u64 (L2 x), .int .u64 (L3 x)]) (.agg #[.int .u64 (L0 x), .int .u64 (L1 x), .int .u64 (L2 x), .int .u64 (L3 x)])).run Try.prog w = .ok (.bool true) w := fun w => by
    have := eq_run x x w
    rwa [show (m x == m x) = true by simp] at this
  have HOV := Lib.hid hov
  have HLB := Lib.hid hlb
  have HF := Lib.hid hfar
  clear hov hlb hfar
  unfold big
  go_enter Try.func4, Try.ntmps4
  go_upto_region 1 with (fail)
  refine wp_gen (fun W => Cells4 W (w.heap.size) x ∧ Below w.heap.size w W) ⟨cells4_new w x, bel_alloc (Below.refl _ _) _⟩ ?_
  rintro W ⟨c0, hB⟩
  obtain ⟨x00, x01, x02, x03, -, -, -, -⟩ := id c0
  go_upto_region 3 with (first | (go_at_call 21; with_reducible refine (kadd _).mono ?_; rintro e w1 ⟨rfl, hb1⟩))
  have l0 := c0.lt
  refine wp_gen (fun W => Cells4 W (w.heap.size) x ∧ Cells4 W (w1.heap.size) x2 ∧ Below w.heap.size w W) ⟨((c0.below hb1 l0).alloc _), cells4_new _ _, bel_alloc (bel_call (hB) hb1) _⟩ ?_
  clear hb1 l0 c0 hB x00 x01 x02 x03
  generalize w1.heap.size = b1
  clear w1 W
  rintro W ⟨c0, c1, hB⟩
  have k00 := fun d os => (c0.regrown d os).c0
  have k01 := fun d os => (c0.regrown d os).c1
  have k02 := fun d os => (c0.regrown d os).c2
  have k03 := fun d os => (c0.regrown d os).c3
  have k10 := fun d os => (c1.regrown d os).c0
  have k11 := fun d os => (c1.regrown d os).c1
  have k12 := fun d os => (c1.regrown d os).c2
  have k13 := fun d os => (c1.regrown d os).c3
  have q0 := quiet_call W kup1
  have q1 := quiet_call W kbx
  have hov := HOV.out
  refine wp_region_quiet_below (by kernel_rfl) (by kernel_rfl) ?_
  repeat (go_big_quiet_step ((first | with_reducible exact q0 _ _ | with_reducible exact q1 _ _)))
  refine wpQuiet_nil ?_
  intro W1 hw'
  have d0 : Cells4 W1 (w.heap.size) x := by obtain ⟨p, rfl⟩ := hw'; exact c0.regrown _ _
  have d1 : Cells4 W1 b1 x2 := by obtain ⟨p, rfl⟩ := hw'; exact c1.regrown _ _
  have hB1 : Below w.heap.size w W1 := by obtain ⟨p, rfl⟩ := hw'; exact hB.trans ((below_regrown W _ _).mono hB.size)
  clear hw' k00 k01 k02 k03 k10 k11 k12 k13 q0 q1 hB c0 c1 hov
  clear W
  go_upto_region 5 with (fail)
  refine wp_gen (fun W => Cells4 W (w.heap.size) x ∧ Cells4 W b1 x2 ∧ Below w.heap.size w W) ⟨d0, d1, hB1⟩ ?_
  clear d0 d1 hB1
  clear W1
  rintro W ⟨c0, c1, hB⟩
  go_upto_region 6 with (first | (go_at_call 23; with_reducible refine (kof1 _).mono ?_; rintro e w1 ⟨rfl, hb1⟩) | (go_at_call 16; with_reducible refine (kpw _).mono ?_; rintro e w2 ⟨rfl, hb2⟩))
  have hs1 := hb1.size
  have l0 := c0.lt
  have l1 := c1.lt
  refine wp_gen (fun W => Cells4 W (w.heap.size) x ∧ Cells4 W b1 x2 ∧ Cells4 W (w2.heap.size) p ∧ Below w.heap.size w W) ⟨(((c0.below hb1 l0).below hb2 (by omega)).alloc _), (((c1.below hb1 l1).below hb2 (by omega)).alloc _), cells4_new _ _, bel_alloc (bel_call (bel_call (hB) hb1) hb2) _⟩ ?_
  clear hb1 hb2 hs1 l0 l1 c0 c1 hB 
  generalize w2.heap.size = b2
  clear w1 w2 W
  rintro W ⟨c0, c1, c2, hB⟩
  obtain ⟨x00, x01, x02, x03, -, -, -, -⟩ := id c0
  obtain ⟨x20, x21, x22, x23, -, -, -, -⟩ := id c2
  go_upto_region 7 with (first | (go_at_call 14; with_reducible refine (kdv _).mono ?_; rintro e w1 ⟨rfl, hb1⟩))
  have l0 := c0.lt
  have l1 := c1.lt
  have l2 := c2.lt
  refine wp_gen (fun W => Cells4 W (w.heap.size) x ∧ Cells4 W b1 x2 ∧ Cells4 W b2 p ∧ Cells4 W (w1.heap.size) q ∧ Cells4 W (w1.heap.size + 1) r ∧ Below w.heap.size w W) ⟨(((c0.below hb1 l0).alloc _).alloc _), (((c1.below hb1 l1).alloc _).alloc _), (((c2.below hb1 l2).alloc _).alloc _), (cells4_new _ _).alloc _, cells4_new' _ _ _ (by simp), bel_alloc (bel_alloc (bel_call (hB) hb1) _) _⟩ ?_
  clear hb1 l0 l1 l2 c0 c1 c2 hB x00 x01 x02 x03 x20 x21 x22 x23
  generalize w1.heap.size = b3
  clear w1 W
  rintro W ⟨c0, c1, c2, c3, c4, hB⟩
  have k00 := fun d os => (c0.regrown d os).c0
  have k01 := fun d os => (c0.regrown d os).c1
  have k02 := fun d os => (c0.regrown d os).c2
  have k03 := fun d os => (c0.regrown d os).c3
  have k30 := fun d os => (c3.regrown d os).c0
  have k31 := fun d os => (c3.regrown d os).c1
  have k32 := fun d os => (c3.regrown d os).c2
  have k33 := fun d os => (c3.regrown d os).c3
  have q0 := quiet_call W kdn
  refine wp_region_quiet_below (by kernel_rfl) (by kernel_rfl) ?_
  repeat (go_big_quiet_step ((first | with_reducible exact q0 _ _)))
  refine wpQuiet_nil ?_
  intro W1 hw'
  have d0 : Cells4 W1 (w.heap.size) x := by obtain ⟨p, rfl⟩ := hw'; exact c0.regrown _ _
  have d1 : Cells4 W1 b1 x2 := by obtain ⟨p, rfl⟩ := hw'; exact c1.regrown _ _
  have d2 : Cells4 W1 b2 p := by obtain ⟨p, rfl⟩ := hw'; exact c2.regrown _ _
  have d3 : Cells4 W1 b3 q := by obtain ⟨p, rfl⟩ := hw'; exact c3.regrown _ _
  have d4 : Cells4 W1 (b3 + 1) r := by obtain ⟨p, rfl⟩ := hw'; exact c4.regrown _ _
  have hB1 : Below w.heap.size w W1 := by obtain ⟨p, rfl⟩ := hw'; exact hB.trans ((below_regrown W _ _).mono hB.size)
  clear hw' k00 k01 k02 k03 k30 k31 k32 k33 q0 hB c0 c1 c2 c3 c4 
  clear W
  go_upto_region 9 with (fail)
  refine wp_gen (fun W => Cells4 W (w.heap.size) x ∧ Cells4 W b1 x2 ∧ Cells4 W b2 p ∧ Cells4 W b3 q ∧ Cells4 W (b3 + 1) r ∧ Below w.heap.size w W) ⟨d0, d1, d2, d3, d4, hB1⟩ ?_
  clear d0 d1 d2 d3 d4 hB1
  clear W1
  rintro W ⟨c0, c1, c2, c3, c4, hB⟩
  obtain ⟨x00, x01, x02, x03, -, -, -, -⟩ := id c0
  obtain ⟨x30, x31, x32, x33, -, -, -, -⟩ := id c3
  go_cut [12, 13] (fun s12 s13 wx => ∃ e12 : Nat, s12 = .pointer (some ⟨e12, 0, none⟩) ∧ s13 = .bool false ∧ Cells4 wx (w.heap.size) x ∧ Cells4 wx b1 x2 ∧ Cells4 wx b2 p ∧ Cells4 wx b3 q ∧ Cells4 wx (b3 + 1) r ∧ Cells4 wx e12 r ∧ Below w.heap.size w wx)
  case first =>
    have mk : ∀ w', Below W.heap.size W w' → w'.cell? ⟨w.heap.size, 0, none⟩ = some (.int .u64 (L0 x)) ∧ w'.cell? ⟨w.heap.size, 1, none⟩ = some (.int .u64 (L1 x)) ∧ w'.cell? ⟨w.heap.size, 2, none⟩ = some (.int .u64 (L2 x)) ∧ w'.cell? ⟨w.heap.size, 3, none⟩ = some (.int .u64 (L3 x)) ∧ w'.cell? ⟨b3, 0, none⟩ = some (.int .u64 (L0 q)) ∧ w'.cell? ⟨b3, 1, none⟩ = some (.int .u64 (L1 q)) ∧ w'.cell? ⟨b3, 2, none⟩ = some (.int .u64 (L2 q)) ∧ w'.cell? ⟨b3, 3, none⟩ = some (.int .u64 (L3 q)) := fun w' hb' => ⟨(c0.call hb').c0, (c0.call hb').c1, (c0.call hb').c2, (c0.call hb').c3, (c3.call hb').c0, (c3.call hb').c1, (c3.call hb').c2, (c3.call hb').c3⟩
    go_region_held3 (fun w' => w'.cell? ⟨w.heap.size, 0, none⟩ = some (.int .u64 (L0 x)) ∧ w'.cell? ⟨w.heap.size, 1, none⟩ = some (.int .u64 (L1 x)) ∧ w'.cell? ⟨w.heap.size, 2, none⟩ = some (.int .u64 (L2 x)) ∧ w'.cell? ⟨w.heap.size, 3, none⟩ = some (.int .u64 (L3 x)) ∧ w'.cell? ⟨b3, 0, none⟩ = some (.int .u64 (L0 q)) ∧ w'.cell? ⟨b3, 1, none⟩ = some (.int .u64 (L1 q)) ∧ w'.cell? ⟨b3, 2, none⟩ = some (.int .u64 (L2 q)) ∧ w'.cell? ⟨b3, 3, none⟩ = some (.int .u64 (L3 q))) (first | (with_reducible refine mk _ ?_; repeat (first | with_reducible exact Below.refl _ _ | with_reducible refine bel_drew ?_ | with_reducible refine bel_alloc ?_ _ | with_reducible refine bel_set ?_ _ _ (Nat.le_refl _) _ | with_reducible refine hq2 ?_ | with_reducible refine hq1 ?_ | with_reducible refine bel_set ?_ _ _ hz2 _ | with_reducible refine bel_set ?_ _ _ hz1 _)) | fail) (first | (go_at_call 16; with_reducible refine (kuq _).mono ?_; rintro e w1 ⟨rfl, hb1⟩; have hq1 : Below W.heap.size W _ → Below W.heap.size W w1 := fun h => bel_call h hb1; have hv1 : ∀ b v, Cells4 _ b v → Cells4 w1 b v := fun _ _ h => h.call hb1; have hs1 := hb1.size; (try (have hy1_0_0 : W.heap.size < w1.heap.size := by (have hh := hb1.size; (try simp at hh); omega))); obtain ⟨hc1, hf1⟩ := bcell hb1; have hz1 : W.heap.size ≤ w1.heap.size := by (have hh := hb1.size; (try simp at hh); omega)) | (go_at_call 24; with_reducible refine (ksb _).mono ?_; rintro e w2 ⟨rfl, hb2⟩; have hq2 : Below W.heap.size W _ → Below W.heap.size W w2 := fun h => bel_call h hb2; have hv2 : ∀ b v, Cells4 _ b v → Cells4 w2 b v := fun _ _ h => h.call hb2; have hs2 := hb2.size; (try (have hy2_0_0 : W.heap.size < w2.heap.size := by (have hh := hb2.size; (try simp at hh); omega))); (try (have hy2_1_0 : w1.heap.size < w2.heap.size := by (have hh := hb2.size; (try simp at hh); omega))); obtain ⟨hc2, hf2⟩ := bcell hb2; have hz2 : W.heap.size ≤ w2.heap.size := by (have hh := hb2.size; (try simp at hh); omega)) | fail)
    all_goals (go_wp2_with fail; go_meet)
    all_goals refine (fun (h1 : Below W.heap.size W _) (k12 : Cells4 _ _ r) => ⟨_, rfl, rfl, c0.call h1, c1.call h1, c2.call h1, c3.call h1, c4.call h1, k12, bel_call hB h1⟩) ?_ ?_
    all_goals (first | (with_reducible refine Below.trans (Below.refl _ _) ?_; repeat (first | with_reducible exact Below.refl _ _ | with_reducible refine bel_drew ?_ | with_reducible refine bel_alloc ?_ _ | with_reducible refine bel_set ?_ _ _ (Nat.le_refl _) _ | with_reducible refine hq2 ?_ | with_reducible refine hq1 ?_ | with_reducible refine bel_set ?_ _ _ hz2 _ | with_reducible refine bel_set ?_ _ _ hz1 _)) | (repeat (first | with_reducible exact cells4_zero _ | with_reducible exact cells4_new _ _ | with_reducible refine Cells4.alloc ?_ _ | with_reducible refine Cells4.drew ?_ | with_reducible refine hv2 _ _ ?_ | with_reducible refine hv1 _ _ ?_ | with_reducible refine cells4_puts (u := 0) ?_ _)))
  case' rest =>
    obtain ⟨e12, rfl, rfl, nc0, nc1, nc2, nc3, nc4, nc5, hB'⟩ := hcut
    clear c0 c1 c2 c3 c4 hB x00 x01 x02 x03 x30 x31 x32 x33 
    clear W
    go_upto_region 10 with (fail)
    refine wp_gen (fun W => Cells4 W (w.heap.size) x ∧ Cells4 W b1 x2 ∧ Cells4 W b2 p ∧ Cells4 W b3 q ∧ Cells4 W (b3 + 1) r ∧ Cells4 W e12 r ∧ Below w.heap.size w W) ⟨nc0, nc1, nc2, nc3, nc4, nc5, hB'⟩ ?_
    clear nc0 nc1 nc2 nc3 nc4 nc5 hB'
    clear wc
  rintro W ⟨c0, c1, c2, c3, c4, c5, hB⟩
  have k00 := fun d os => (c0.regrown d os).c0
  have k01 := fun d os => (c0.regrown d os).c1
  have k02 := fun d os => (c0.regrown d os).c2
  have k03 := fun d os => (c0.regrown d os).c3
  have k30 := fun d os => (c3.regrown d os).c0
  have k31 := fun d os => (c3.regrown d os).c1
  have k32 := fun d os => (c3.regrown d os).c2
  have k33 := fun d os => (c3.regrown d os).c3
  have k40 := fun d os => (c4.regrown d os).c0
  have k41 := fun d os => (c4.regrown d os).c1
  have k42 := fun d os => (c4.regrown d os).c2
  have k43 := fun d os => (c4.regrown d os).c3
  have k50 := fun d os => (c5.regrown d os).c0
  have k51 := fun d os => (c5.regrown d os).c1
  have k52 := fun d os => (c5.regrown d os).c2
  have k53 := fun d os => (c5.regrown d os).c3
  have q0 := quiet_call W kbq
  have q1 := quiet_call W kbx
  have hlb := HLB.out
  refine wp_region_quiet_below (by kernel_rfl) (by kernel_rfl) ?_
  repeat (go_big_quiet_step ((first | with_reducible exact q0 _ _ | with_reducible exact q1 _ _)))
  refine wpQuiet_nil ?_
  intro W1 hw'
  have d0 : Cells4 W1 (w.heap.size) x := by obtain ⟨p, rfl⟩ := hw'; exact c0.regrown _ _
  have d1 : Cells4 W1 b1 x2 := by obtain ⟨p, rfl⟩ := hw'; exact c1.regrown _ _
  have d2 : Cells4 W1 b2 p := by obtain ⟨p, rfl⟩ := hw'; exact c2.regrown _ _
  have d3 : Cells4 W1 b3 q := by obtain ⟨p, rfl⟩ := hw'; exact c3.regrown _ _
  have d4 : Cells4 W1 (b3 + 1) r := by obtain ⟨p, rfl⟩ := hw'; exact c4.regrown _ _
  have d5 : Cells4 W1 e12 r := by obtain ⟨p, rfl⟩ := hw'; exact c5.regrown _ _
  have hB1 : Below w.heap.size w W1 := by obtain ⟨p, rfl⟩ := hw'; exact hB.trans ((below_regrown W _ _).mono hB.size)
  clear hw' k00 k01 k02 k03 k30 k31 k32 k33 k40 k41 k42 k43 k50 k51 k52 k53 q0 q1 hB c0 c1 c2 c3 c4 c5 hlb
  clear W
  go_upto_region 12 with (fail)
  refine wp_gen (fun W => Cells4 W (w.heap.size) x ∧ Cells4 W b1 x2 ∧ Cells4 W b2 p ∧ Cells4 W b3 q ∧ Cells4 W (b3 + 1) r ∧ Cells4 W e12 r ∧ Below w.heap.size w W) ⟨d0, d1, d2, d3, d4, d5, hB1⟩ ?_
  clear d0 d1 d2 d3 d4 d5 hB1
  clear W1
  rintro W ⟨c0, c1, c2, c3, c4, c5, hB⟩
  have k00 := fun d os => (c0.regrown d os).c0
  have k01 := fun d os => (c0.regrown d os).c1
  have k02 := fun d os => (c0.regrown d os).c2
  have k03 := fun d os => (c0.regrown d os).c3
  have q0 := quiet_call W kbx
  have q1 := quiet_call W works_c
  have hfar := HF.out
  refine wp_region_quiet_below (by kernel_rfl) (by kernel_rfl) ?_
  repeat (go_big_quiet_step ((first | with_reducible exact q0 _ _ | with_reducible exact q1 _ _)))
  refine wpQuiet_nil ?_
  intro W1 hw'
  have hB1 : Below w.heap.size w W1 := by obtain ⟨p, rfl⟩ := hw'; exact hB.trans ((below_regrown W _ _).mono hB.size)
  clear hw'
  go_wp2
  go_ret
  exact ⟨rfl, hB1⟩
end Go.Proofs.Ytefnlmiephombaa
