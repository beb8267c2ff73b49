/- The walks of target.Meets and scantlingref03.Meets. -/
import Derived.Test.YtefnlmiephombaaHw
namespace Go.Proofs.Ytefnlmiephombaa
open Go.RowKit Go.Sort

set_option maxRecDepth 100000 in
set_option maxHeartbeats 4000000 in
theorem meets_true (bs : List Int) (x h : Int) (lt : Bool) (hb : bs.length = 32) (w : World)
    (kh : ∀ w, Calls Try.prog 33 #[.agg (bs.map (Value.int .u8)).toArray] w fun e w' => e = .returned (.agg #[.int .u64 (L0 h), .int .u64 (L1 h), .int .u64 (L2 h), .int .u64 (L3 h)]) ∧ Below w.heap.size w w')
    (kl : ∀ w, Calls Try.prog 29 #[.agg #[.int .u64 (L0 x), .int .u64 (L1 x), .int .u64 (L2 x), .int .u64 (L3 x)], .agg #[.int .u64 (L0 h), .int .u64 (L1 h), .int .u64 (L2 h), .int .u64 (L3 h)]] w fun e w' => e = .returned (.bool lt) ∧ Below w.heap.size w w')
    (n1 : ∀ w, (binOp .neq 24 (.agg #[.int .u64 (L0 x), .int .u64 (L1 x), .int .u64 (L2 x), .int .u64 (L3 x)]) (.agg #[.int .u64 0, .int .u64 0, .int .u64 0, .int .u64 0])).run Try.prog w = .ok (.bool true) w)
    : Calls Try.prog 43 #[hsh bs, big x] w fun e w' => e = .returned (.bool (!lt)) ∧ Below w.heap.size w w' := by
  have hib := info42 (bs.map (Value.int .u8)).toArray.size (by simp [hb])
  have HB := Lib.hid hb; have HIB := Lib.hid hib
  clear hb hib
  unfold big hsh
  go_enter Try.func43, Try.ntmps43
  go_upto_region 1 with (fail)
  refine wp_gen (fun W => RowU w.heap.size bs W ∧ Cells4 W (w.heap.size + 1) x ∧ Below w.heap.size w W) ⟨(RowU.new w bs).alloc _, cells4_new' (w.alloc _) _ x (by simp), bel_alloc (bel_alloc (Below.refl _ _) _) _⟩ ?_
  rintro W ⟨cH, c0, hB⟩
  have CH := Lib.hid cH.regrown
  clear cH
  have k00 := fun d os => (c0.regrown d os).c0
  have k01 := fun d os => (c0.regrown d os).c1
  have k02 := fun d os => (c0.regrown d os).c2
  have k03 := fun d os => (c0.regrown d os).c3
  have q0 := quiet_call W kh
  have q1 := quiet_call W kl
  refine wp_region_quiet_below (by kernel_rfl) (by kernel_rfl) ?_
  repeat (first | (go_big_quiet_want; refine quiet_load_row 42 _ rfl w.heap.size rfl 42 _ _ _ CH.out Try.underlying42 rfl HIB.out ?_; simp only [Act.put, List.setIfInBounds_toArray, List.set_cons_zero, List.set_cons_succ]; go_big_quiet_on) | go_big_quiet_step ((first | with_reducible exact q0 _ _ | with_reducible exact q1 _ _)))
  refine wpQuiet_nil ?_
  intro W1 hw'
  have hB1 : Below w.heap.size w W1 := by obtain ⟨p, rfl⟩ := hw'; exact hB.trans ((below_regrown W _ _).mono hB.size)
  clear hw'
  go_wp2
  go_ret
  exact ⟨rfl, hB1⟩

set_option maxRecDepth 100000 in
set_option maxHeartbeats 4000000 in
theorem meets_false (bs : List Int) (x : Int) (hb : bs.length = 32) (w : World)
    (n1 : ∀ w, (binOp .neq 24 (.agg #[.int .u64 (L0 x), .int .u64 (L1 x), .int .u64 (L2 x), .int .u64 (L3 x)]) (.agg #[.int .u64 0, .int .u64 0, .int .u64 0, .int .u64 0])).run Try.prog w = .ok (.bool false) w)
    : Calls Try.prog 43 #[hsh bs, big x] w fun e w' => e = .returned (.bool false) ∧ Below w.heap.size w w' := by
  have hib := info42 (bs.map (Value.int .u8)).toArray.size (by simp [hb])
  have HB := Lib.hid hb; have HIB := Lib.hid hib
  clear hb hib
  unfold big hsh
  go_enter Try.func43, Try.ntmps43
  go_upto_region 1 with (fail)
  refine wp_gen (fun W => RowU w.heap.size bs W ∧ Cells4 W (w.heap.size + 1) x ∧ Below w.heap.size w W) ⟨(RowU.new w bs).alloc _, cells4_new' (w.alloc _) _ x (by simp), bel_alloc (bel_alloc (Below.refl _ _) _) _⟩ ?_
  rintro W ⟨cH, c0, hB⟩
  have CH := Lib.hid cH.regrown
  clear cH
  have k00 := fun d os => (c0.regrown d os).c0
  have k01 := fun d os => (c0.regrown d os).c1
  have k02 := fun d os => (c0.regrown d os).c2
  have k03 := fun d os => (c0.regrown d os).c3
  refine wp_region_quiet_below (by kernel_rfl) (by kernel_rfl) ?_
  repeat (go_big_quiet_step (fail))
  refine wpQuiet_nil ?_
  intro W1 hw'
  have hB1 : Below w.heap.size w W1 := by obtain ⟨p, rfl⟩ := hw'; exact hB.trans ((below_regrown W _ _).mono hB.size)
  clear hw'
  go_wp2
  go_ret
  exact ⟨rfl, hB1⟩

set_option maxRecDepth 100000 in
set_option maxHeartbeats 4000000 in
theorem rmeets_true (bs : List Int) (x h : Int) (lt : Bool) (hb : bs.length = 32) (w : World)
    (kh : ∀ w, Calls Try.prog 35 #[.agg (bs.map (Value.int .u8)).toArray] w fun e w' => e = .returned (.agg #[.int .u64 (L0 h), .int .u64 (L1 h), .int .u64 (L2 h), .int .u64 (L3 h)]) ∧ Below w.heap.size w w')
    (kl : ∀ w, Calls Try.prog 30 #[.agg #[.int .u64 (L0 x), .int .u64 (L1 x), .int .u64 (L2 x), .int .u64 (L3 x)], .agg #[.int .u64 (L0 h), .int .u64 (L1 h), .int .u64 (L2 h), .int .u64 (L3 h)]] w fun e w' => e = .returned (.bool lt) ∧ Below w.heap.size w w')
    (n1 : ∀ w, (binOp .neq 24 (.agg #[.int .u64 (L0 x), .int .u64 (L1 x), .int .u64 (L2 x), .int .u64 (L3 x)]) (.agg #[.int .u64 0, .int .u64 0, .int .u64 0, .int .u64 0])).run Try.prog w = .ok (.bool true) w)
    : Calls Try.prog 47 #[hsh bs, big x] w fun e w' => e = .returned (.bool (!lt)) ∧ Below w.heap.size w w' := by
  have hib := info42 (bs.map (Value.int .u8)).toArray.size (by simp [hb])
  have HB := Lib.hid hb; have HIB := Lib.hid hib
  clear hb hib
  unfold big hsh
  go_enter Try.func47, Try.ntmps47
  go_upto_region 1 with (fail)
  refine wp_gen (fun W => RowU w.heap.size bs W ∧ Cells4 W (w.heap.size + 1) x ∧ Below w.heap.size w W) ⟨(RowU.new w bs).alloc _, cells4_new' (w.alloc _) _ x (by simp), bel_alloc (bel_alloc (Below.refl _ _) _) _⟩ ?_
  rintro W ⟨cH, c0, hB⟩
  have CH := Lib.hid cH.regrown
  clear cH
  have k00 := fun d os => (c0.regrown d os).c0
  have k01 := fun d os => (c0.regrown d os).c1
  have k02 := fun d os => (c0.regrown d os).c2
  have k03 := fun d os => (c0.regrown d os).c3
  have q0 := quiet_call W kh
  have q1 := quiet_call W kl
  refine wp_region_quiet_below (by kernel_rfl) (by kernel_rfl) ?_
  repeat (first | (go_big_quiet_want; refine quiet_load_row 42 _ rfl w.heap.size rfl 42 _ _ _ CH.out Try.underlying42 rfl HIB.out ?_; simp only [Act.put, List.setIfInBounds_toArray, List.set_cons_zero, List.set_cons_succ]; go_big_quiet_on) | go_big_quiet_step ((first | with_reducible exact q0 _ _ | with_reducible exact q1 _ _)))
  refine wpQuiet_nil ?_
  intro W1 hw'
  have hB1 : Below w.heap.size w W1 := by obtain ⟨p, rfl⟩ := hw'; exact hB.trans ((below_regrown W _ _).mono hB.size)
  clear hw'
  go_wp2
  go_ret
  exact ⟨rfl, hB1⟩

set_option maxRecDepth 100000 in
set_option maxHeartbeats 4000000 in
theorem rmeets_false (bs : List Int) (x : Int) (hb : bs.length = 32) (w : World)
    (n1 : ∀ w, (binOp .neq 24 (.agg #[.int .u64 (L0 x), .int .u64 (L1 x), .int .u64 (L2 x), .int .u64 (L3 x)]) (.agg #[.int .u64 0, .int .u64 0, .int .u64 0, .int .u64 0])).run Try.prog w = .ok (.bool false) w)
    : Calls Try.prog 47 #[hsh bs, big x] w fun e w' => e = .returned (.bool false) ∧ Below w.heap.size w w' := by
  have hib := info42 (bs.map (Value.int .u8)).toArray.size (by simp [hb])
  have HB := Lib.hid hb; have HIB := Lib.hid hib
  clear hb hib
  unfold big hsh
  go_enter Try.func47, Try.ntmps47
  go_upto_region 1 with (fail)
  refine wp_gen (fun W => RowU w.heap.size bs W ∧ Cells4 W (w.heap.size + 1) x ∧ Below w.heap.size w W) ⟨(RowU.new w bs).alloc _, cells4_new' (w.alloc _) _ x (by simp), bel_alloc (bel_alloc (Below.refl _ _) _) _⟩ ?_
  rintro W ⟨cH, c0, hB⟩
  have CH := Lib.hid cH.regrown
  clear cH
  have k00 := fun d os => (c0.regrown d os).c0
  have k01 := fun d os => (c0.regrown d os).c1
  have k02 := fun d os => (c0.regrown d os).c2
  have k03 := fun d os => (c0.regrown d os).c3
  refine wp_region_quiet_below (by kernel_rfl) (by kernel_rfl) ?_
  repeat (go_big_quiet_step (fail))
  refine wpQuiet_nil ?_
  intro W1 hw'
  have hB1 : Below w.heap.size w W1 := by obtain ⟨p, rfl⟩ := hw'; exact hB.trans ((below_regrown W _ _).mono hB.size)
  clear hw'
  go_wp2
  go_ret
  exact ⟨rfl, hB1⟩
end Go.Proofs.Ytefnlmiephombaa
