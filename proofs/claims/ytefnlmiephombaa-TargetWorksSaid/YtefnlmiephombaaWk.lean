/- The anchor of chapter 2: 'works' answers true. -/
import Derived.Test.YtefnlmiephombaaKn
namespace Go.Proofs.Ytefnlmiephombaa
open Go.RowKit Go.Sort

set_option maxHeartbeats 4000000 in
theorem works_c (w : World) : Calls Try.prog 20 #[] w fun e w' => e = .returned (.bool true) ∧ Below w.heap.size w w' := by
  go_enter Try.func20, Try.ntmps20
  go_upto_region 2 with (first
    | (go_at_call 50; refine (kmost _).mono ?_; rintro e w1 ⟨rfl, hb1⟩)
    | (go_at_call 23; refine (kof1 _).mono ?_; rintro e w2 ⟨rfl, hb2⟩)
    | (go_at_call 21; refine (kadd _).mono ?_; rintro e w3 ⟨rfl, hb3⟩))
  refine wp_gen (fun W => Cells4 W w3.heap.size 0 ∧ Below w.heap.size w W) ⟨cells4_new _ _, bel_alloc (bel_call (bel_call (bel_call (Below.refl _ _) hb1) hb2) hb3) _⟩ ?_
  clear hb1 hb2 hb3
  generalize w3.heap.size = b1
  clear w1 w2 w3
  rintro W ⟨c1, hB⟩
  go_upto_region 3 with (first
    | (go_at_call 23; refine (kof1 _).mono ?_; rintro e w2 ⟨rfl, hb2⟩)
    | (go_at_call 24; refine (ksub _).mono ?_; rintro e w3 ⟨rfl, hb3⟩))
  have l1 := c1.lt
  refine wp_gen (fun W => Cells4 W b1 0 ∧ Cells4 W w3.heap.size (M - 1) ∧ Below w.heap.size w W) ⟨((c1.below hb2 l1).below hb3 (by have := hb2.size; omega)).alloc _, cells4_new _ _, bel_alloc (bel_call (bel_call hB hb2) hb3) _⟩ ?_
  clear hb2 hb3 l1 c1 hB
  generalize w3.heap.size = b2
  clear w2 w3 W
  rintro W ⟨c1, c2, hB⟩
  go_upto_region 4 with (first
    | (go_at_call 23; refine (kof1 _).mono ?_; rintro e w2 ⟨rfl, hb2⟩)
    | (go_at_call 16; refine (kup _).mono ?_; rintro e w3 ⟨rfl, hb3⟩)
    | (go_at_call 27; refine (kmul _).mono ?_; rintro e w4 ⟨rfl, hb4⟩))
  have l1 := c1.lt
  have l2 := c2.lt
  have h2 := hb2.size
  have h3 := hb3.size
  refine wp_gen (fun W => Cells4 W b1 0 ∧ Cells4 W b2 (M - 1) ∧ Cells4 W w4.heap.size 0 ∧ Below w.heap.size w W) ⟨(((c1.below hb2 l1).below hb3 (by omega)).below hb4 (by omega)).alloc _, (((c2.below hb2 l2).below hb3 (by omega)).below hb4 (by omega)).alloc _, cells4_new _ _, bel_alloc (bel_call (bel_call (bel_call hB hb2) hb3) hb4) _⟩ ?_
  clear hb2 hb3 hb4 l1 l2 h2 h3 c1 c2 hB
  generalize w4.heap.size = b3
  clear w2 w3 w4 W
  rintro W ⟨c1, c2, c3, hB⟩
  go_upto_region 5 with (first
    | (go_at_call 14; refine (kdiv _).mono ?_; rintro e w4 ⟨rfl, hb4⟩)
    | (go_at_call 23; with_reducible refine (kof100 _).mono ?_; rintro e w2 ⟨rfl, hb2⟩)
    | (go_at_call 23; with_reducible refine (kof7 _).mono ?_; rintro e w3 ⟨rfl, hb3⟩))
  have l1 := c1.lt
  have l2 := c2.lt
  have l3 := c3.lt
  have h2 := hb2.size
  have h3 := hb3.size
  refine wp_gen (fun W => Cells4 W b1 0 ∧ Cells4 W b2 (M - 1) ∧ Cells4 W b3 0 ∧ Cells4 W w4.heap.size 14 ∧ Cells4 W (w4.heap.size + 1) 2 ∧ Below w.heap.size w W)
    ⟨((((c1.below hb2 l1).below hb3 (by omega)).below hb4 (by omega)).alloc _).alloc _, ((((c2.below hb2 l2).below hb3 (by omega)).below hb4 (by omega)).alloc _).alloc _, ((((c3.below hb2 l3).below hb3 (by omega)).below hb4 (by omega)).alloc _).alloc _,
     (cells4_new _ _).alloc _, cells4_new' _ _ _ (by simp), bel_alloc (bel_alloc (bel_call (bel_call (bel_call hB hb2) hb3) hb4) _) _⟩ ?_
  clear hb2 hb3 hb4 l1 l2 l3 h2 h3 c1 c2 c3 hB
  generalize w4.heap.size = b4
  clear w2 w3 w4 W
  rintro W ⟨c1, c2, c3, c4, c5, hB⟩
  go_upto_region 6 with (first
    | (go_at_call 14; refine (kdiv0 _).mono ?_; rintro e w4 ⟨rfl, hb4⟩)
    | (go_at_call 23; refine (kof7 _).mono ?_; rintro e w3 ⟨rfl, hb3⟩))
  have l1 := c1.lt
  have l2 := c2.lt
  have l3 := c3.lt
  have l4 := c4.lt
  have l5 := c5.lt
  have h3 := hb3.size
  refine wp_gen (fun W => Cells4 W b1 0 ∧ Cells4 W b2 (M - 1) ∧ Cells4 W b3 0 ∧ Cells4 W b4 14 ∧ Cells4 W (b4 + 1) 2 ∧ Below w.heap.size w W)
    ⟨(((c1.below hb3 l1).below hb4 (by omega)).alloc _).alloc _, (((c2.below hb3 l2).below hb4 (by omega)).alloc _).alloc _, (((c3.below hb3 l3).below hb4 (by omega)).alloc _).alloc _, (((c4.below hb3 l4).below hb4 (by omega)).alloc _).alloc _, (((c5.below hb3 l5).below hb4 (by omega)).alloc _).alloc _,
     bel_alloc (bel_alloc (bel_call (bel_call hB hb3) hb4) _) _⟩ ?_
  clear hb3 hb4 l1 l2 l3 l4 l5 h3 c1 c2 c3 c4 c5 hB
  generalize w4.heap.size = b5
  clear w3 w4 W
  rintro W ⟨c1, c2, c3, c4, c5, hB⟩
  have k10 := fun d os => (c1.regrown d os).c0
  have k11 := fun d os => (c1.regrown d os).c1
  have k12 := fun d os => (c1.regrown d os).c2
  have k13 := fun d os => (c1.regrown d os).c3
  have k20 := fun d os => (c2.regrown d os).c0
  have k21 := fun d os => (c2.regrown d os).c1
  have k22 := fun d os => (c2.regrown d os).c2
  have k23 := fun d os => (c2.regrown d os).c3
  have k30 := fun d os => (c3.regrown d os).c0
  have k31 := fun d os => (c3.regrown d os).c1
  have k32 := fun d os => (c3.regrown d os).c2
  have k33 := fun d os => (c3.regrown d os).c3
  have k40 := fun d os => (c4.regrown d os).c0
  have k41 := fun d os => (c4.regrown d os).c1
  have k42 := fun d os => (c4.regrown d os).c2
  have k43 := fun d os => (c4.regrown d os).c3
  have k50 := fun d os => (c5.regrown d os).c0
  have k51 := fun d os => (c5.regrown d os).c1
  have k52 := fun d os => (c5.regrown d os).c2
  have k53 := fun d os => (c5.regrown d os).c3
  have e1 := eq_lit 0 0 0 0 0 0 rfl (by decide +kernel)
  have e2 := eq_lit (M - 1) (M - 1) _ _ _ _ rfl (by decide +kernel)
  have e3 := eq_lit 14 14 _ _ _ _ rfl (by decide +kernel)
  have e4 := eq_lit 2 2 2 0 0 0 rfl (by decide +kernel)
  have e5 := eq_lit 513 513 513 0 0 0 rfl (by decide +kernel)
  have q1 := quiet_call W kmost
  have q2 := quiet_call W kof14
  have q3 := quiet_call W kof255
  have q4 := quiet_call W kbits
  have q5 := quiet_call W kofh
  refine wp_region_quiet_below (by kernel_rfl) (by kernel_rfl) ?_
  repeat (go_big_quiet_step ((first | with_reducible exact q1 _ _ | with_reducible exact q2 _ _ | with_reducible exact q3 _ _ | with_reducible exact q4 _ _ | with_reducible exact q5 _ _)))
  refine wpQuiet_nil ?_
  intro W1 hw'
  have hB1 : Below w.heap.size w W1 := by obtain ⟨p, rfl⟩ := hw'; exact hB.trans ((below_regrown W _ _).mono hB.size)
  clear hw'
  go_wp2
  go_ret
  exact ⟨rfl, hB1⟩
end Go.Proofs.Ytefnlmiephombaa
