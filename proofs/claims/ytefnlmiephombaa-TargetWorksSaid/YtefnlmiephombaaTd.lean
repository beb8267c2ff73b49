/- The walks of target.Work and scantlingref03.Work. -/
import Derived.Test.YtefnlmiephombaaTl
import Derived.Lib.Hide
namespace Go.Proofs.Ytefnlmiephombaa
open Go.RowKit Go.Sort

def Comp (x : Int) (k : Nat) (v : Int) : Prop :=
  L0 v = (if 0 < k then 18446744073709551615 - L0 x else L0 x) ∧ L1 v = (if 1 < k then 18446744073709551615 - L1 x else L1 x) ∧
  L2 v = (if 2 < k then 18446744073709551615 - L2 x else L2 x) ∧ L3 v = (if 3 < k then 18446744073709551615 - L3 x else L3 x)
theorem comp_start (x : Int) : Comp x 0 x := by simp [Comp]
theorem xor_all (a : Int) (h0 : 0 ≤ a) (h1 : a ≤ 18446744073709551615) : bits .xor .u64 (if IntKind.u64.signed = true then -1 else IntKind.u64.max) a = 18446744073709551615 - a := by
  obtain ⟨a, rfl⟩ := Int.eq_ofNat_of_zero_le h0
  have e0 : (if IntKind.u64.signed = true then -1 else IntKind.u64.max) = 18446744073709551615 := by decide +kernel
  rw [e0]
  have e1 : (BitVec.ofInt 64 18446744073709551615 ^^^ BitVec.ofInt 64 (a : Int)) = BitVec.ofNat 64 (18446744073709551615 - a) := by
    have h2 : BitVec.ofInt 64 18446744073709551615 = BitVec.allOnes 64 := by decide +kernel
    rw [h2, BitVec.allOnes_xor]
    apply BitVec.eq_of_toNat_eq
    rw [BitVec.toNat_not]
    simp only [BitVec.toNat_ofInt, BitVec.toNat_ofNat]
    omega
  have e2 : bits .xor .u64 18446744073709551615 (a : Int) = IntKind.u64.wrap ((BitVec.ofInt 64 18446744073709551615 ^^^ BitVec.ofInt 64 (a : Int)).toNat : Nat) := rfl
  rw [e2, e1, IntKind.wrap_u64, BitVec.toNat_ofNat]; omega
theorem comp_words (v a b c d : Int) (ha : a = L0 v ∨ a = 18446744073709551615 - L0 v) (hb : b = L1 v ∨ b = 18446744073709551615 - L1 v) (hc : c = L2 v ∨ c = 18446744073709551615 - L2 v) (hd : d = L3 v ∨ d = 18446744073709551615 - L3 v) :
    ∃ v', L0 v' = a ∧ L1 v' = b ∧ L2 v' = c ∧ L3 v' = d := by
  have := L0_nn v; have := L0_le v; have := L1_nn v; have := L1_le v; have := L2_nn v; have := L2_le v; have := L3_nn v; have := L3_le v
  exact ⟨_, limbs_of a b c d (by omega) (by omega) (by omega) (by omega) (by omega) (by omega) (by omega) (by omega)⟩
theorem comp0 {x v : Int} (h : Comp x 0 v) : ∃ v', bits .xor .u64 (if IntKind.u64.signed = true then -1 else IntKind.u64.max) (L0 v) = L0 v' ∧ L1 v' = L1 v ∧ L2 v' = L2 v ∧ L3 v' = L3 v ∧ Comp x 1 v' := by
  obtain ⟨v', h0, h1, h2, h3⟩ := comp_words v (18446744073709551615 - L0 v) (L1 v) (L2 v) (L3 v) (.inr rfl) (.inl rfl) (.inl rfl) (.inl rfl)
  refine ⟨v', by rw [h0]; exact xor_all _ (L0_nn v) (L0_le v), h1, h2, h3, ?_⟩
  simp [Comp] at h ⊢; omega
theorem comp1 {x v : Int} (h : Comp x 1 v) : ∃ v', bits .xor .u64 (if IntKind.u64.signed = true then -1 else IntKind.u64.max) (L1 v) = L1 v' ∧ L0 v' = L0 v ∧ L2 v' = L2 v ∧ L3 v' = L3 v ∧ Comp x 2 v' := by
  obtain ⟨v', h0, h1, h2, h3⟩ := comp_words v (L0 v) (18446744073709551615 - L1 v) (L2 v) (L3 v) (.inl rfl) (.inr rfl) (.inl rfl) (.inl rfl)
  refine ⟨v', by rw [h1]; exact xor_all _ (L1_nn v) (L1_le v), h0, h2, h3, ?_⟩
  simp [Comp] at h ⊢; omega
theorem comp2 {x v : Int} (h : Comp x 2 v) : ∃ v', bits .xor .u64 (if IntKind.u64.signed = true then -1 else IntKind.u64.max) (L2 v) = L2 v' ∧ L0 v' = L0 v ∧ L1 v' = L1 v ∧ L3 v' = L3 v ∧ Comp x 3 v' := by
  obtain ⟨v', h0, h1, h2, h3⟩ := comp_words v (L0 v) (L1 v) (18446744073709551615 - L2 v) (L3 v) (.inl rfl) (.inl rfl) (.inr rfl) (.inl rfl)
  refine ⟨v', by rw [h2]; exact xor_all _ (L2_nn v) (L2_le v), h0, h1, h3, ?_⟩
  simp [Comp] at h ⊢; omega
theorem comp3 {x v : Int} (h : Comp x 3 v) : ∃ v', bits .xor .u64 (if IntKind.u64.signed = true then -1 else IntKind.u64.max) (L3 v) = L3 v' ∧ L0 v' = L0 v ∧ L1 v' = L1 v ∧ L2 v' = L2 v ∧ Comp x 4 v' := by
  obtain ⟨v', h0, h1, h2, h3⟩ := comp_words v (L0 v) (L1 v) (L2 v) (18446744073709551615 - L3 v) (.inl rfl) (.inl rfl) (.inl rfl) (.inr rfl)
  refine ⟨v', by rw [h3]; exact xor_all _ (L3_nn v) (L3_le v), h0, h1, h2, ?_⟩
  simp [Comp] at h ⊢; omega
theorem comp_end {x v y : Int} (h : Comp x 4 v) (hy : y = M - 1 - x) (hx0 : 0 ≤ x) (hx1 : x < M) : L0 v = L0 y ∧ L1 v = L1 y ∧ L2 v = L2 y ∧ L3 v = L3 y := by
  simp [Comp] at h
  obtain ⟨h0, h1, h2, h3⟩ := h
  have e := m_split x
  rw [m_of x hx0 hx1] at e
  have := L0_nn x; have := L0_le x; have := L1_nn x; have := L1_le x; have := L2_nn x; have := L2_le x; have := L3_nn x; have := L3_le x
  have hM : M = 18446744073709551616 * (18446744073709551616 * (18446744073709551616 * 18446744073709551616)) := by decide +kernel
  have ey : y = (18446744073709551615 - L0 x) + 18446744073709551616 * ((18446744073709551615 - L1 x) + 18446744073709551616 * ((18446744073709551615 - L2 x) + 18446744073709551616 * (18446744073709551615 - L3 x))) := by omega
  obtain ⟨a, b, c, d⟩ := limbs_of (18446744073709551615 - L0 x) (18446744073709551615 - L1 x) (18446744073709551615 - L2 x) (18446744073709551615 - L3 x) (by omega) (by omega) (by omega) (by omega) (by omega) (by omega) (by omega) (by omega)
  rw [← ey] at a b c d
  exact ⟨by omega, by omega, by omega, by omega⟩
theorem Cells4.congr {w : World} {b : Nat} {v y : Int} (h : Cells4 w b v) (e : L0 v = L0 y ∧ L1 v = L1 y ∧ L2 v = L2 y ∧ L3 v = L3 y) : Cells4 w b y := by
  obtain ⟨e0, e1, e2, e3⟩ := e
  obtain ⟨c0, c1, c2, c3, f0, f1, f2, f3⟩ := h
  rw [e0] at c0; rw [e1] at c1; rw [e2] at c2; rw [e3] at c3
  exact ⟨c0, c1, c2, c3, f0, f1, f2, f3⟩

set_option maxRecDepth 100000 in
set_option maxHeartbeats 4000000 in
theorem rwork_zero (x r : Int) (ls : Bool) (w : World)
    (kof : ∀ w, Calls Try.prog 32 #[.int .u64 1] w fun e w' => e = .returned (.agg #[.int .u64 (L0 1), .int .u64 (L1 1), .int .u64 (L2 1), .int .u64 (L3 1)]) ∧ Below w.heap.size w w')
    (n1 : ∀ w, (binOp .eql 24 (.agg #[.int .u64 (L0 x), .int .u64 (L1 x), .int .u64 (L2 x), .int .u64 (L3 x)]) (.agg #[.int .u64 (L0 0), .int .u64 (L1 0), .int .u64 (L2 0), .int .u64 (L3 0)])).run Try.prog w = .ok (.bool true) w)
    (ksub : ∀ w, Calls Try.prog 26 #[.agg #[.int .u64 (L0 0), .int .u64 (L1 0), .int .u64 (L2 0), .int .u64 (L3 0)], .agg #[.int .u64 (L0 1), .int .u64 (L1 1), .int .u64 (L2 1), .int .u64 (L3 1)]] w fun e w' => e = .returned (.tuple #[.agg #[.int .u64 (L0 r), .int .u64 (L1 r), .int .u64 (L2 r), .int .u64 (L3 r)], .bool ls]) ∧ Below w.heap.size w w')
    : Calls Try.prog 46 #[big x] w fun e w' => e = .returned (.agg #[.int .u64 (L0 r), .int .u64 (L1 r), .int .u64 (L2 r), .int .u64 (L3 r)]) ∧ Below w.heap.size w w' := by
  unfold big
  go_enter Try.func46, Try.ntmps46
  go_upto_region 2 with (fail)
  refine wp_gen (fun W => Cells4 W (w.heap.size) x ∧ Cells4 W (w.heap.size + 1) 0 ∧ Cells4 W (w.heap.size + 1 + 1) 0 ∧ Below w.heap.size w W) ⟨((cells4_new w x).alloc _).alloc _, (cells4_new' (w.alloc _) _ 0 (by simp)).alloc _, cells4_new' ((w.alloc _).alloc _) _ 0 (by simp), bel_alloc (bel_alloc (bel_alloc (Below.refl _ _) _) _) _⟩ ?_
  rintro W ⟨c0, c1, c2, hB⟩
  go_upto_region 3 with (first | (go_at_call 32; with_reducible refine (kof _).mono ?_; rintro e w1 ⟨rfl, hb1⟩))
  have l0 := c0.lt
  have l1 := c1.lt
  have l2 := c2.lt
  refine wp_gen (fun W => Cells4 W (w.heap.size) x ∧ Cells4 W (w.heap.size + 1) 0 ∧ Cells4 W (w.heap.size + 1 + 1) 0 ∧ Cells4 W (w1.heap.size) 1 ∧ Below w.heap.size w W) ⟨((c0.below hb1 l0).alloc _), ((c1.below hb1 l1).alloc _), ((c2.below hb1 l2).alloc _), cells4_new _ _, bel_alloc (bel_call (hB) hb1) _⟩ ?_
  clear hb1 l0 l1 l2 c0 c1 c2 hB 
  generalize w1.heap.size = b1
  clear w1 W
  rintro W ⟨c0, c1, c2, c3, hB⟩
  obtain ⟨x00, x01, x02, x03, -, -, -, -⟩ := id c0
  obtain ⟨x20, x21, x22, x23, -, -, -, -⟩ := id c2
  obtain ⟨x30, x31, x32, x33, -, -, -, -⟩ := id c3
  go_upto_region 5 with (first | (go_at_call 26; with_reducible refine (ksub _).mono ?_; rintro e w1 ⟨rfl, hb1⟩))
  have l0 := c0.lt
  have l1 := c1.lt
  have l2 := c2.lt
  have l3 := c3.lt
  refine wp_gen (fun W => Cells4 W (w.heap.size) x ∧ Cells4 W (w.heap.size + 1) 0 ∧ Cells4 W (w.heap.size + 1 + 1) 0 ∧ Cells4 W b1 1 ∧ Cells4 W (w1.heap.size) r ∧ Below w.heap.size w W) ⟨((c0.below hb1 l0).alloc _), ((c1.below hb1 l1).alloc _), ((c2.below hb1 l2).alloc _), ((c3.below hb1 l3).alloc _), cells4_new _ _, bel_alloc (bel_call (hB) hb1) _⟩ ?_
  clear hb1 l0 l1 l2 l3 c0 c1 c2 c3 hB x00 x01 x02 x03 x20 x21 x22 x23 x30 x31 x32 x33
  generalize w1.heap.size = b2
  clear w1 W
  rintro W ⟨c0, c1, c2, c3, c4, hB⟩
  obtain ⟨g0, g1, g2, g3, f0, f1, f2, f3⟩ := id c1
  obtain ⟨y0, y1, y2, y3, -, -, -, -⟩ := id c4
  go_wp2
  exact bodyPost_ret (v := .agg #[.int .u64 (L0 r), .int .u64 (L1 r), .int .u64 (L2 r), .int .u64 (L3 r)]) (by simp [results, Try.results46, go_sem, g0, g1, g2, g3]) rfl ⟨rfl, below_put4 hB (by omega) _⟩

set_option maxRecDepth 100000 in
set_option maxHeartbeats 4000000 in
theorem rwork_over (x d : Int) (w : World)
    (kof : ∀ w, Calls Try.prog 32 #[.int .u64 1] w fun e w' => e = .returned (.agg #[.int .u64 (L0 1), .int .u64 (L1 1), .int .u64 (L2 1), .int .u64 (L3 1)]) ∧ Below w.heap.size w w')
    (n1 : ∀ w, (binOp .eql 24 (.agg #[.int .u64 (L0 x), .int .u64 (L1 x), .int .u64 (L2 x), .int .u64 (L3 x)]) (.agg #[.int .u64 (L0 0), .int .u64 (L1 0), .int .u64 (L2 0), .int .u64 (L3 0)])).run Try.prog w = .ok (.bool false) w)
    (kadd : ∀ w, Calls Try.prog 25 #[.agg #[.int .u64 (L0 x), .int .u64 (L1 x), .int .u64 (L2 x), .int .u64 (L3 x)], .agg #[.int .u64 (L0 1), .int .u64 (L1 1), .int .u64 (L2 1), .int .u64 (L3 1)]] w fun e w' => e = .returned (.tuple #[.agg #[.int .u64 (L0 d), .int .u64 (L1 d), .int .u64 (L2 d), .int .u64 (L3 d)], .bool true]) ∧ Below w.heap.size w w')
    : Calls Try.prog 46 #[big x] w fun e w' => e = .returned (.agg #[.int .u64 (L0 1), .int .u64 (L1 1), .int .u64 (L2 1), .int .u64 (L3 1)]) ∧ Below w.heap.size w w' := by
  unfold big
  go_enter Try.func46, Try.ntmps46
  go_upto_region 2 with (fail)
  refine wp_gen (fun W => Cells4 W (w.heap.size) x ∧ Cells4 W (w.heap.size + 1) 0 ∧ Cells4 W (w.heap.size + 1 + 1) 0 ∧ Below w.heap.size w W) ⟨((cells4_new w x).alloc _).alloc _, (cells4_new' (w.alloc _) _ 0 (by simp)).alloc _, cells4_new' ((w.alloc _).alloc _) _ 0 (by simp), bel_alloc (bel_alloc (bel_alloc (Below.refl _ _) _) _) _⟩ ?_
  rintro W ⟨c0, c1, c2, hB⟩
  go_upto_region 3 with (first | (go_at_call 32; with_reducible refine (kof _).mono ?_; rintro e w1 ⟨rfl, hb1⟩))
  have l0 := c0.lt
  have l1 := c1.lt
  have l2 := c2.lt
  refine wp_gen (fun W => Cells4 W (w.heap.size) x ∧ Cells4 W (w.heap.size + 1) 0 ∧ Cells4 W (w.heap.size + 1 + 1) 0 ∧ Cells4 W (w1.heap.size) 1 ∧ Below w.heap.size w W) ⟨((c0.below hb1 l0).alloc _), ((c1.below hb1 l1).alloc _), ((c2.below hb1 l2).alloc _), cells4_new _ _, bel_alloc (bel_call (hB) hb1) _⟩ ?_
  clear hb1 l0 l1 l2 c0 c1 c2 hB 
  generalize w1.heap.size = b1
  clear w1 W
  rintro W ⟨c0, c1, c2, c3, hB⟩
  obtain ⟨x00, x01, x02, x03, -, -, -, -⟩ := id c0
  obtain ⟨x20, x21, x22, x23, -, -, -, -⟩ := id c2
  obtain ⟨x30, x31, x32, x33, -, -, -, -⟩ := id c3
  go_upto_region 7 with (first | (go_at_call 25; with_reducible refine (kadd _).mono ?_; rintro e w1 ⟨rfl, hb1⟩))
  have l0 := c0.lt
  have l1 := c1.lt
  have l2 := c2.lt
  have l3 := c3.lt
  refine wp_gen (fun W => Cells4 W (w.heap.size) x ∧ Cells4 W (w.heap.size + 1) 0 ∧ Cells4 W (w.heap.size + 1 + 1) 0 ∧ Cells4 W b1 1 ∧ Cells4 W (w1.heap.size) d ∧ Below w.heap.size w W) ⟨((c0.below hb1 l0).alloc _), ((c1.below hb1 l1).alloc _), ((c2.below hb1 l2).alloc _), ((c3.below hb1 l3).alloc _), cells4_new _ _, bel_alloc (bel_call (hB) hb1) _⟩ ?_
  clear hb1 l0 l1 l2 l3 c0 c1 c2 c3 hB x00 x01 x02 x03 x20 x21 x22 x23 x30 x31 x32 x33
  generalize w1.heap.size = b2
  clear w1 W
  rintro W ⟨c0, c1, c2, c3, c4, hB⟩
  obtain ⟨g0, g1, g2, g3, f0, f1, f2, f3⟩ := id c1
  obtain ⟨y0, y1, y2, y3, -, -, -, -⟩ := id c3
  go_wp2
  exact bodyPost_ret (v := .agg #[.int .u64 (L0 1), .int .u64 (L1 1), .int .u64 (L2 1), .int .u64 (L3 1)]) (by simp [results, Try.results46, go_sem, g0, g1, g2, g3]) rfl ⟨rfl, below_put4 hB (by omega) _⟩

set_option maxRecDepth 100000 in
set_option maxHeartbeats 4000000 in
theorem rwork_mid (x d r q s y er : Int) (l2 ov : Bool) (w : World)
    (kof : ∀ w, Calls Try.prog 32 #[.int .u64 1] w fun e w' => e = .returned (.agg #[.int .u64 (L0 1), .int .u64 (L1 1), .int .u64 (L2 1), .int .u64 (L3 1)]) ∧ Below w.heap.size w w')
    (n1 : ∀ w, (binOp .eql 24 (.agg #[.int .u64 (L0 x), .int .u64 (L1 x), .int .u64 (L2 x), .int .u64 (L3 x)]) (.agg #[.int .u64 (L0 0), .int .u64 (L1 0), .int .u64 (L2 0), .int .u64 (L3 0)])).run Try.prog w = .ok (.bool false) w)
    (kadd : ∀ w, Calls Try.prog 25 #[.agg #[.int .u64 (L0 x), .int .u64 (L1 x), .int .u64 (L2 x), .int .u64 (L3 x)], .agg #[.int .u64 (L0 1), .int .u64 (L1 1), .int .u64 (L2 1), .int .u64 (L3 1)]] w fun e w' => e = .returned (.tuple #[.agg #[.int .u64 (L0 d), .int .u64 (L1 d), .int .u64 (L2 d), .int .u64 (L3 d)], .bool false]) ∧ Below w.heap.size w w')
    (ksub : ∀ w, Calls Try.prog 26 #[.agg #[.int .u64 (L0 0), .int .u64 (L1 0), .int .u64 (L2 0), .int .u64 (L3 0)], .agg #[.int .u64 (L0 d), .int .u64 (L1 d), .int .u64 (L2 d), .int .u64 (L3 d)]] w fun e w' => e = .returned (.tuple #[.agg #[.int .u64 (L0 y), .int .u64 (L1 y), .int .u64 (L2 y), .int .u64 (L3 y)], .bool l2]) ∧ Below w.heap.size w w')
    (kdiv : ∀ w, Calls Try.prog 15 #[.agg #[.int .u64 (L0 y), .int .u64 (L1 y), .int .u64 (L2 y), .int .u64 (L3 y)], .agg #[.int .u64 (L0 d), .int .u64 (L1 d), .int .u64 (L2 d), .int .u64 (L3 d)]] w fun e w' => e = .returned (.tuple #[.agg #[.int .u64 (L0 q), .int .u64 (L1 q), .int .u64 (L2 q), .int .u64 (L3 q)], .agg #[.int .u64 (L0 r), .int .u64 (L1 r), .int .u64 (L2 r), .int .u64 (L3 r)], .int .i64 er]) ∧ Below w.heap.size w w')
    (kad2 : ∀ w, Calls Try.prog 25 #[.agg #[.int .u64 (L0 q), .int .u64 (L1 q), .int .u64 (L2 q), .int .u64 (L3 q)], .agg #[.int .u64 (L0 1), .int .u64 (L1 1), .int .u64 (L2 1), .int .u64 (L3 1)]] w fun e w' => e = .returned (.tuple #[.agg #[.int .u64 (L0 s), .int .u64 (L1 s), .int .u64 (L2 s), .int .u64 (L3 s)], .bool ov]) ∧ Below w.heap.size w w')
    : Calls Try.prog 46 #[big x] w fun e w' => e = .returned (.agg #[.int .u64 (L0 s), .int .u64 (L1 s), .int .u64 (L2 s), .int .u64 (L3 s)]) ∧ Below w.heap.size w w' := by
  unfold big
  go_enter Try.func46, Try.ntmps46
  go_upto_region 2 with (fail)
  refine wp_gen (fun W => Cells4 W (w.heap.size) x ∧ Cells4 W (w.heap.size + 1) 0 ∧ Cells4 W (w.heap.size + 1 + 1) 0 ∧ Below w.heap.size w W) ⟨((cells4_new w x).alloc _).alloc _, (cells4_new' (w.alloc _) _ 0 (by simp)).alloc _, cells4_new' ((w.alloc _).alloc _) _ 0 (by simp), bel_alloc (bel_alloc (bel_alloc (Below.refl _ _) _) _) _⟩ ?_
  rintro W ⟨c0, c1, c2, hB⟩
  go_upto_region 3 with (first | (go_at_call 32; with_reducible refine (kof _).mono ?_; rintro e w1 ⟨rfl, hb1⟩))
  have l0 := c0.lt
  have l1 := c1.lt
  have l2 := c2.lt
  refine wp_gen (fun W => Cells4 W (w.heap.size) x ∧ Cells4 W (w.heap.size + 1) 0 ∧ Cells4 W (w.heap.size + 1 + 1) 0 ∧ Cells4 W (w1.heap.size) 1 ∧ Below w.heap.size w W) ⟨((c0.below hb1 l0).alloc _), ((c1.below hb1 l1).alloc _), ((c2.below hb1 l2).alloc _), cells4_new _ _, bel_alloc (bel_call (hB) hb1) _⟩ ?_
  clear hb1 l0 l1 l2 c0 c1 c2 hB 
  generalize w1.heap.size = b1
  clear w1 W
  rintro W ⟨c0, c1, c2, c3, hB⟩
  obtain ⟨x00, x01, x02, x03, -, -, -, -⟩ := id c0
  obtain ⟨x20, x21, x22, x23, -, -, -, -⟩ := id c2
  obtain ⟨x30, x31, x32, x33, -, -, -, -⟩ := id c3
  go_upto_region 7 with (first | (go_at_call 25; with_reducible refine (kadd _).mono ?_; rintro e w1 ⟨rfl, hb1⟩))
  have l0 := c0.lt
  have l1 := c1.lt
  have l2 := c2.lt
  have l3 := c3.lt
  refine wp_gen (fun W => Cells4 W (w.heap.size) x ∧ Cells4 W (w.heap.size + 1) 0 ∧ Cells4 W (w.heap.size + 1 + 1) 0 ∧ Cells4 W b1 1 ∧ Cells4 W (w1.heap.size) d ∧ Below w.heap.size w W) ⟨((c0.below hb1 l0).alloc _), ((c1.below hb1 l1).alloc _), ((c2.below hb1 l2).alloc _), ((c3.below hb1 l3).alloc _), cells4_new _ _, bel_alloc (bel_call (hB) hb1) _⟩ ?_
  clear hb1 l0 l1 l2 l3 c0 c1 c2 c3 hB x00 x01 x02 x03 x20 x21 x22 x23 x30 x31 x32 x33
  generalize w1.heap.size = b2
  clear w1 W
  rintro W ⟨c0, c1, c2, c3, c4, hB⟩
  obtain ⟨x20, x21, x22, x23, -, -, -, -⟩ := id c2
  obtain ⟨x40, x41, x42, x43, -, -, -, -⟩ := id c4
  go_upto_region 10 with (first | (go_at_call 26; with_reducible refine (ksub _).mono ?_; rintro e w1 ⟨rfl, hb1⟩))
  have l0 := c0.lt
  have l1 := c1.lt
  have l2 := c2.lt
  have l3 := c3.lt
  have l4 := c4.lt
  refine wp_gen (fun W => Cells4 W (w.heap.size) x ∧ Cells4 W (w.heap.size + 1) 0 ∧ Cells4 W (w.heap.size + 1 + 1) 0 ∧ Cells4 W b1 1 ∧ Cells4 W b2 d ∧ Cells4 W (w1.heap.size) y ∧ Below w.heap.size w W) ⟨((c0.below hb1 l0).alloc _), ((c1.below hb1 l1).alloc _), ((c2.below hb1 l2).alloc _), ((c3.below hb1 l3).alloc _), ((c4.below hb1 l4).alloc _), cells4_new _ _, bel_alloc (bel_call (hB) hb1) _⟩ ?_
  clear hb1 l0 l1 l2 l3 l4 c0 c1 c2 c3 c4 hB x20 x21 x22 x23 x40 x41 x42 x43
  generalize w1.heap.size = b3
  clear w1 W
  rintro W ⟨c0, c1, c2, c3, c4, c5, hB⟩
  obtain ⟨x40, x41, x42, x43, -, -, -, -⟩ := id c4
  obtain ⟨x50, x51, x52, x53, -, -, -, -⟩ := id c5
  go_upto_region 11 with (first | (go_at_call 15; with_reducible refine (kdiv _).mono ?_; rintro e w1 ⟨rfl, hb1⟩))
  have l0 := c0.lt
  have l1 := c1.lt
  have l2 := c2.lt
  have l3 := c3.lt
  have l4 := c4.lt
  have l5 := c5.lt
  refine wp_gen (fun W => Cells4 W (w.heap.size) x ∧ Cells4 W (w.heap.size + 1) 0 ∧ Cells4 W (w.heap.size + 1 + 1) 0 ∧ Cells4 W b1 1 ∧ Cells4 W b2 d ∧ Cells4 W b3 y ∧ Cells4 W (w1.heap.size) q ∧ Cells4 W (w1.heap.size + 1) r ∧ Below w.heap.size w W) ⟨(((c0.below hb1 l0).alloc _).alloc _), (((c1.below hb1 l1).alloc _).alloc _), (((c2.below hb1 l2).alloc _).alloc _), (((c3.below hb1 l3).alloc _).alloc _), (((c4.below hb1 l4).alloc _).alloc _), (((c5.below hb1 l5).alloc _).alloc _), (cells4_new _ _).alloc _, cells4_new' _ _ _ (by simp), bel_alloc (bel_alloc (bel_call (hB) hb1) _) _⟩ ?_
  clear hb1 l0 l1 l2 l3 l4 l5 c0 c1 c2 c3 c4 c5 hB x40 x41 x42 x43 x50 x51 x52 x53
  generalize w1.heap.size = b4
  clear w1 W
  rintro W ⟨c0, c1, c2, c3, c4, c5, c6, c7, hB⟩
  obtain ⟨x30, x31, x32, x33, -, -, -, -⟩ := id c3
  obtain ⟨x60, x61, x62, x63, -, -, -, -⟩ := id c6
  go_upto_region 12 with (first | (go_at_call 25; with_reducible refine (kad2 _).mono ?_; rintro e w1 ⟨rfl, hb1⟩))
  have l0 := c0.lt
  have l1 := c1.lt
  have l2 := c2.lt
  have l3 := c3.lt
  have l4 := c4.lt
  have l5 := c5.lt
  have l6 := c6.lt
  have l7 := c7.lt
  refine wp_gen (fun W => Cells4 W (w.heap.size) x ∧ Cells4 W (w.heap.size + 1) 0 ∧ Cells4 W (w.heap.size + 1 + 1) 0 ∧ Cells4 W b1 1 ∧ Cells4 W b2 d ∧ Cells4 W b3 y ∧ Cells4 W b4 q ∧ Cells4 W (b4 + 1) r ∧ Cells4 W (w1.heap.size) s ∧ Below w.heap.size w W) ⟨((c0.below hb1 l0).alloc _), ((c1.below hb1 l1).alloc _), ((c2.below hb1 l2).alloc _), ((c3.below hb1 l3).alloc _), ((c4.below hb1 l4).alloc _), ((c5.below hb1 l5).alloc _), ((c6.below hb1 l6).alloc _), ((c7.below hb1 l7).alloc _), cells4_new _ _, bel_alloc (bel_call (hB) hb1) _⟩ ?_
  clear hb1 l0 l1 l2 l3 l4 l5 l6 l7 c0 c1 c2 c3 c4 c5 c6 c7 hB x30 x31 x32 x33 x60 x61 x62 x63
  generalize w1.heap.size = b5
  clear w1 W
  rintro W ⟨c0, c1, c2, c3, c4, c5, c6, c7, c8, hB⟩
  obtain ⟨g0, g1, g2, g3, f0, f1, f2, f3⟩ := id c1
  obtain ⟨y0, y1, y2, y3, -, -, -, -⟩ := id c8
  go_wp2
  exact bodyPost_ret (v := .agg #[.int .u64 (L0 s), .int .u64 (L1 s), .int .u64 (L2 s), .int .u64 (L3 s)]) (by simp [results, Try.results46, go_sem, g0, g1, g2, g3]) rfl ⟨rfl, below_put4 hB (by omega) _⟩

set_option maxRecDepth 100000 in
set_option maxHeartbeats 4000000 in
theorem work_over (x d : Int) (w : World)
    (kof : ∀ w, Calls Try.prog 23 #[.int .u64 1] w fun e w' => e = .returned (.agg #[.int .u64 (L0 1), .int .u64 (L1 1), .int .u64 (L2 1), .int .u64 (L3 1)]) ∧ Below w.heap.size w w')
    (kadd : ∀ w, Calls Try.prog 21 #[.agg #[.int .u64 (L0 x), .int .u64 (L1 x), .int .u64 (L2 x), .int .u64 (L3 x)], .agg #[.int .u64 (L0 1), .int .u64 (L1 1), .int .u64 (L2 1), .int .u64 (L3 1)]] w fun e w' => e = .returned (.tuple #[.agg #[.int .u64 (L0 d), .int .u64 (L1 d), .int .u64 (L2 d), .int .u64 (L3 d)], .bool true]) ∧ Below w.heap.size w w')
    : Calls Try.prog 42 #[big x] w fun e w' => e = .returned (.agg #[.int .u64 (L0 1), .int .u64 (L1 1), .int .u64 (L2 1), .int .u64 (L3 1)]) ∧ Below w.heap.size w w' := by
  unfold big
  go_enter Try.func42, Try.ntmps42
  go_upto_region 1 with (fail)
  refine wp_gen (fun W => Cells4 W (w.heap.size) x ∧ Cells4 W (w.heap.size + 1) 0 ∧ Below w.heap.size w W) ⟨(cells4_new w x).alloc _, cells4_new' (w.alloc _) _ 0 (by simp), bel_alloc (bel_alloc (Below.refl _ _) _) _⟩ ?_
  rintro W ⟨c0, c1, hB⟩
  go_upto_region 2 with (first | (go_at_call 23; with_reducible refine (kof _).mono ?_; rintro e w1 ⟨rfl, hb1⟩))
  have l0 := c0.lt
  have l1 := c1.lt
  refine wp_gen (fun W => Cells4 W (w.heap.size) x ∧ Cells4 W (w.heap.size + 1) 0 ∧ Cells4 W (w1.heap.size) 1 ∧ Below w.heap.size w W) ⟨((c0.below hb1 l0).alloc _), ((c1.below hb1 l1).alloc _), cells4_new _ _, bel_alloc (bel_call (hB) hb1) _⟩ ?_
  clear hb1 l0 l1 c0 c1 hB 
  generalize w1.heap.size = b1
  clear w1 W
  rintro W ⟨c0, c1, c2, hB⟩
  obtain ⟨x00, x01, x02, x03, -, -, -, -⟩ := id c0
  obtain ⟨x20, x21, x22, x23, -, -, -, -⟩ := id c2
  go_upto_region 3 with (first | (go_at_call 21; with_reducible refine (kadd _).mono ?_; rintro e w1 ⟨rfl, hb1⟩))
  have l0 := c0.lt
  have l1 := c1.lt
  have l2 := c2.lt
  refine wp_gen (fun W => Cells4 W (w.heap.size) x ∧ Cells4 W (w.heap.size + 1) 0 ∧ Cells4 W b1 1 ∧ Cells4 W (w1.heap.size) d ∧ Below w.heap.size w W) ⟨((c0.below hb1 l0).alloc _), ((c1.below hb1 l1).alloc _), ((c2.below hb1 l2).alloc _), cells4_new _ _, bel_alloc (bel_call (hB) hb1) _⟩ ?_
  clear hb1 l0 l1 l2 c0 c1 c2 hB x00 x01 x02 x03 x20 x21 x22 x23
  generalize w1.heap.size = b2
  clear w1 W
  rintro W ⟨c0, c1, c2, c3, hB⟩
  obtain ⟨g0, g1, g2, g3, f0, f1, f2, f3⟩ := id c1
  obtain ⟨y0, y1, y2, y3, -, -, -, -⟩ := id c2
  go_wp2
  exact bodyPost_ret (v := .agg #[.int .u64 (L0 1), .int .u64 (L1 1), .int .u64 (L2 1), .int .u64 (L3 1)]) (by simp [results, Try.results42, go_sem, g0, g1, g2, g3]) rfl ⟨rfl, below_put4 hB (by omega) _⟩

set_option maxRecDepth 100000 in
set_option maxHeartbeats 4000000 in
theorem work_zero (x d r : Int) (ls : Bool) (w : World)
    (kof : ∀ w, Calls Try.prog 23 #[.int .u64 1] w fun e w' => e = .returned (.agg #[.int .u64 (L0 1), .int .u64 (L1 1), .int .u64 (L2 1), .int .u64 (L3 1)]) ∧ Below w.heap.size w w')
    (kadd : ∀ w, Calls Try.prog 21 #[.agg #[.int .u64 (L0 x), .int .u64 (L1 x), .int .u64 (L2 x), .int .u64 (L3 x)], .agg #[.int .u64 (L0 1), .int .u64 (L1 1), .int .u64 (L2 1), .int .u64 (L3 1)]] w fun e w' => e = .returned (.tuple #[.agg #[.int .u64 (L0 d), .int .u64 (L1 d), .int .u64 (L2 d), .int .u64 (L3 d)], .bool false]) ∧ Below w.heap.size w w')
    (n1 : ∀ w, (binOp .eql 24 (.agg #[.int .u64 (L0 x), .int .u64 (L1 x), .int .u64 (L2 x), .int .u64 (L3 x)]) (.agg #[.int .u64 0, .int .u64 0, .int .u64 0, .int .u64 0])).run Try.prog w = .ok (.bool true) w)
    (ksub : ∀ w, Calls Try.prog 24 #[.agg #[.int .u64 (L0 x), .int .u64 (L1 x), .int .u64 (L2 x), .int .u64 (L3 x)], .agg #[.int .u64 (L0 1), .int .u64 (L1 1), .int .u64 (L2 1), .int .u64 (L3 1)]] w fun e w' => e = .returned (.tuple #[.agg #[.int .u64 (L0 r), .int .u64 (L1 r), .int .u64 (L2 r), .int .u64 (L3 r)], .bool ls]) ∧ Below w.heap.size w w')
    : Calls Try.prog 42 #[big x] w fun e w' => e = .returned (.agg #[.int .u64 (L0 r), .int .u64 (L1 r), .int .u64 (L2 r), .int .u64 (L3 r)]) ∧ Below w.heap.size w w' := by
  unfold big
  go_enter Try.func42, Try.ntmps42
  go_upto_region 1 with (fail)
  refine wp_gen (fun W => Cells4 W (w.heap.size) x ∧ Cells4 W (w.heap.size + 1) 0 ∧ Below w.heap.size w W) ⟨(cells4_new w x).alloc _, cells4_new' (w.alloc _) _ 0 (by simp), bel_alloc (bel_alloc (Below.refl _ _) _) _⟩ ?_
  rintro W ⟨c0, c1, hB⟩
  go_upto_region 2 with (first | (go_at_call 23; with_reducible refine (kof _).mono ?_; rintro e w1 ⟨rfl, hb1⟩))
  have l0 := c0.lt
  have l1 := c1.lt
  refine wp_gen (fun W => Cells4 W (w.heap.size) x ∧ Cells4 W (w.heap.size + 1) 0 ∧ Cells4 W (w1.heap.size) 1 ∧ Below w.heap.size w W) ⟨((c0.below hb1 l0).alloc _), ((c1.below hb1 l1).alloc _), cells4_new _ _, bel_alloc (bel_call (hB) hb1) _⟩ ?_
  clear hb1 l0 l1 c0 c1 hB 
  generalize w1.heap.size = b1
  clear w1 W
  rintro W ⟨c0, c1, c2, hB⟩
  obtain ⟨x00, x01, x02, x03, -, -, -, -⟩ := id c0
  obtain ⟨x20, x21, x22, x23, -, -, -, -⟩ := id c2
  go_upto_region 3 with (first | (go_at_call 21; with_reducible refine (kadd _).mono ?_; rintro e w1 ⟨rfl, hb1⟩))
  have l0 := c0.lt
  have l1 := c1.lt
  have l2 := c2.lt
  refine wp_gen (fun W => Cells4 W (w.heap.size) x ∧ Cells4 W (w.heap.size + 1) 0 ∧ Cells4 W b1 1 ∧ Cells4 W (w1.heap.size) d ∧ Below w.heap.size w W) ⟨((c0.below hb1 l0).alloc _), ((c1.below hb1 l1).alloc _), ((c2.below hb1 l2).alloc _), cells4_new _ _, bel_alloc (bel_call (hB) hb1) _⟩ ?_
  clear hb1 l0 l1 l2 c0 c1 c2 hB x00 x01 x02 x03 x20 x21 x22 x23
  generalize w1.heap.size = b2
  clear w1 W
  rintro W ⟨c0, c1, c2, c3, hB⟩
  obtain ⟨x00, x01, x02, x03, -, -, -, -⟩ := id c0
  obtain ⟨x20, x21, x22, x23, -, -, -, -⟩ := id c2
  go_upto_region 7 with (first | (go_at_call 24; with_reducible refine (ksub _).mono ?_; rintro e w1 ⟨rfl, hb1⟩))
  have l0 := c0.lt
  have l1 := c1.lt
  have l2 := c2.lt
  have l3 := c3.lt
  refine wp_gen (fun W => Cells4 W (w.heap.size) x ∧ Cells4 W (w.heap.size + 1) 0 ∧ Cells4 W b1 1 ∧ Cells4 W b2 d ∧ Cells4 W (w1.heap.size) r ∧ Below w.heap.size w W) ⟨((c0.below hb1 l0).alloc _), ((c1.below hb1 l1).alloc _), ((c2.below hb1 l2).alloc _), ((c3.below hb1 l3).alloc _), cells4_new _ _, bel_alloc (bel_call (hB) hb1) _⟩ ?_
  clear hb1 l0 l1 l2 l3 c0 c1 c2 c3 hB x00 x01 x02 x03 x20 x21 x22 x23
  generalize w1.heap.size = b3
  clear w1 W
  rintro W ⟨c0, c1, c2, c3, c4, hB⟩
  obtain ⟨g0, g1, g2, g3, f0, f1, f2, f3⟩ := id c1
  obtain ⟨y0, y1, y2, y3, -, -, -, -⟩ := id c4
  go_wp2
  exact bodyPost_ret (v := .agg #[.int .u64 (L0 r), .int .u64 (L1 r), .int .u64 (L2 r), .int .u64 (L3 r)]) (by simp [results, Try.results42, go_sem, g0, g1, g2, g3]) rfl ⟨rfl, below_put4 hB (by omega) _⟩

set_option maxRecDepth 100000 in
set_option maxHeartbeats 4000000 in
theorem work_mid (x d r q s y er : Int) (ov : Bool) (w : World) (hy : y = M - 1 - x) (hx0 : 0 ≤ x) (hx1 : x < M)
    (kof : ∀ w, Calls Try.prog 23 #[.int .u64 1] w fun e w' => e = .returned (.agg #[.int .u64 (L0 1), .int .u64 (L1 1), .int .u64 (L2 1), .int .u64 (L3 1)]) ∧ Below w.heap.size w w')
    (kadd : ∀ w, Calls Try.prog 21 #[.agg #[.int .u64 (L0 x), .int .u64 (L1 x), .int .u64 (L2 x), .int .u64 (L3 x)], .agg #[.int .u64 (L0 1), .int .u64 (L1 1), .int .u64 (L2 1), .int .u64 (L3 1)]] w fun e w' => e = .returned (.tuple #[.agg #[.int .u64 (L0 d), .int .u64 (L1 d), .int .u64 (L2 d), .int .u64 (L3 d)], .bool false]) ∧ Below w.heap.size w w')
    (n1 : ∀ w, (binOp .eql 24 (.agg #[.int .u64 (L0 x), .int .u64 (L1 x), .int .u64 (L2 x), .int .u64 (L3 x)]) (.agg #[.int .u64 0, .int .u64 0, .int .u64 0, .int .u64 0])).run Try.prog w = .ok (.bool false) w)
    (kdiv : ∀ w, Calls Try.prog 14 #[.agg #[.int .u64 (L0 y), .int .u64 (L1 y), .int .u64 (L2 y), .int .u64 (L3 y)], .agg #[.int .u64 (L0 d), .int .u64 (L1 d), .int .u64 (L2 d), .int .u64 (L3 d)]] w fun e w' => e = .returned (.tuple #[.agg #[.int .u64 (L0 q), .int .u64 (L1 q), .int .u64 (L2 q), .int .u64 (L3 q)], .agg #[.int .u64 (L0 r), .int .u64 (L1 r), .int .u64 (L2 r), .int .u64 (L3 r)], .int .i64 er]) ∧ Below w.heap.size w w')
    (kad2 : ∀ w, Calls Try.prog 21 #[.agg #[.int .u64 (L0 q), .int .u64 (L1 q), .int .u64 (L2 q), .int .u64 (L3 q)], .agg #[.int .u64 (L0 1), .int .u64 (L1 1), .int .u64 (L2 1), .int .u64 (L3 1)]] w fun e w' => e = .returned (.tuple #[.agg #[.int .u64 (L0 s), .int .u64 (L1 s), .int .u64 (L2 s), .int .u64 (L3 s)], .bool ov]) ∧ Below w.heap.size w w')
    : Calls Try.prog 42 #[big x] w fun e w' => e = .returned (.agg #[.int .u64 (L0 s), .int .u64 (L1 s), .int .u64 (L2 s), .int .u64 (L3 s)]) ∧ Below w.heap.size w w' := by
  have HY := Lib.hid hy; have H0 := Lib.hid hx0; have H1 := Lib.hid hx1
  clear hy hx0 hx1
  unfold big
  go_enter Try.func42, Try.ntmps42
  go_upto_region 1 with (fail)
  refine wp_gen (fun W => Cells4 W (w.heap.size) x ∧ Cells4 W (w.heap.size + 1) 0 ∧ Below w.heap.size w W) ⟨(cells4_new w x).alloc _, cells4_new' (w.alloc _) _ 0 (by simp), bel_alloc (bel_alloc (Below.refl _ _) _) _⟩ ?_
  rintro W ⟨c0, c1, hB⟩
  go_upto_region 2 with (first | (go_at_call 23; with_reducible refine (kof _).mono ?_; rintro e w1 ⟨rfl, hb1⟩))
  have l0 := c0.lt
  have l1 := c1.lt
  refine wp_gen (fun W => Cells4 W (w.heap.size) x ∧ Cells4 W (w.heap.size + 1) 0 ∧ Cells4 W (w1.heap.size) 1 ∧ Below w.heap.size w W) ⟨((c0.below hb1 l0).alloc _), ((c1.below hb1 l1).alloc _), cells4_new _ _, bel_alloc (bel_call (hB) hb1) _⟩ ?_
  have hnb1_1 : w.heap.size + 1 < w1.heap.size := by (have := l1; have := hb1.size; omega)
  clear hb1 l0 l1 c0 c1 hB 
  generalize w1.heap.size = b1 at hnb1_1 ⊢
  clear w1 W
  rintro W ⟨c0, c1, c2, hB⟩
  obtain ⟨x00, x01, x02, x03, -, -, -, -⟩ := id c0
  obtain ⟨x20, x21, x22, x23, -, -, -, -⟩ := id c2
  go_upto_region 3 with (first | (go_at_call 21; with_reducible refine (kadd _).mono ?_; rintro e w1 ⟨rfl, hb1⟩))
  have l0 := c0.lt
  have l1 := c1.lt
  have l2 := c2.lt
  refine wp_gen (fun W => Cells4 W (w.heap.size) x ∧ Cells4 W (w.heap.size + 1) 0 ∧ Cells4 W b1 1 ∧ Cells4 W (w1.heap.size) d ∧ Below w.heap.size w W) ⟨((c0.below hb1 l0).alloc _), ((c1.below hb1 l1).alloc _), ((c2.below hb1 l2).alloc _), cells4_new _ _, bel_alloc (bel_call (hB) hb1) _⟩ ?_
  have hnb2_1 : w.heap.size + 1 < w1.heap.size := by (have := l1; have := hb1.size; omega)
  clear hb1 l0 l1 l2 c0 c1 c2 hB x00 x01 x02 x03 x20 x21 x22 x23
  generalize w1.heap.size = b2 at hnb2_1 ⊢
  clear w1 W
  rintro W ⟨c0, c1, c2, c3, hB⟩
  obtain ⟨x00, x01, x02, x03, -, -, -, -⟩ := id c0
  obtain ⟨x20, x21, x22, x23, -, -, -, -⟩ := id c2
  go_wp2
  clear x00 x01 x02 x03 x20 x21 x22 x23
  go_loopw [33] (fun i wr => ∃ (k : Nat) (v : Int), k ≤ 4 ∧ i = .int .i64 k ∧ Cells4 wr w.heap.size v ∧ Comp x k v ∧ Cells4 wr (w.heap.size + 1) 0 ∧ Cells4 wr b1 1 ∧ Cells4 wr b2 d ∧ Below w.heap.size w wr) (fun i _ => 4 - (intOf i).toNat)
  case atStart => exact ⟨0, x, by omega, rfl, c0, comp_start x, c1, c2, c3, hB⟩
  case round =>
    clear c0 c1 c2 c3 hB
    obtain ⟨k, v, hk, rfl, c0, hc, c1, c2, c3, hB⟩ := hrel
    have HC := Lib.hid hc
    clear hc
    obtain ⟨x00, x01, x02, x03, x04, x05, x06, x07⟩ := id c0
    rcases k with _ | _ | _ | _ | _ | k
    · obtain ⟨v', X, q1, q2, q3, hc'⟩ := comp0 HC.out
      have HX := Lib.hid X; have Q1 := Lib.hid q1; have Q2 := Lib.hid q2; have Q3 := Lib.hid q3; have HC' := Lib.hid hc'
      clear X q1 q2 q3 hc'
      go_wp2
      go_roundw
      case rel => exact ⟨1, v', by omega, rfl, by (rw [HX.out]; exact c0.set0 v' Q1.out Q2.out Q3.out), HC'.out, c1.set_other (by omega) _, c2.set_other (by omega) _, c3.set_other (by omega) _, hB.setCell (p := ⟨_, _, none⟩) (by simp) _⟩
      case measure => simp [intOf]
    · obtain ⟨v', X, q1, q2, q3, hc'⟩ := comp1 HC.out
      have HX := Lib.hid X; have Q1 := Lib.hid q1; have Q2 := Lib.hid q2; have Q3 := Lib.hid q3; have HC' := Lib.hid hc'
      clear X q1 q2 q3 hc'
      go_wp2
      go_roundw
      case rel => exact ⟨2, v', by omega, rfl, by (rw [HX.out]; exact c0.set1 v' Q1.out Q2.out Q3.out), HC'.out, c1.set_other (by omega) _, c2.set_other (by omega) _, c3.set_other (by omega) _, hB.setCell (p := ⟨_, _, none⟩) (by simp) _⟩
      case measure => simp [intOf]
    · obtain ⟨v', X, q1, q2, q3, hc'⟩ := comp2 HC.out
      have HX := Lib.hid X; have Q1 := Lib.hid q1; have Q2 := Lib.hid q2; have Q3 := Lib.hid q3; have HC' := Lib.hid hc'
      clear X q1 q2 q3 hc'
      go_wp2
      go_roundw
      case rel => exact ⟨3, v', by omega, rfl, by (rw [HX.out]; exact c0.set2 v' Q1.out Q2.out Q3.out), HC'.out, c1.set_other (by omega) _, c2.set_other (by omega) _, c3.set_other (by omega) _, hB.setCell (p := ⟨_, _, none⟩) (by simp) _⟩
      case measure => simp [intOf]
    · obtain ⟨v', X, q1, q2, q3, hc'⟩ := comp3 HC.out
      have HX := Lib.hid X; have Q1 := Lib.hid q1; have Q2 := Lib.hid q2; have Q3 := Lib.hid q3; have HC' := Lib.hid hc'
      clear X q1 q2 q3 hc'
      go_wp2
      go_roundw
      case rel => exact ⟨4, v', by omega, rfl, by (rw [HX.out]; exact c0.set3 v' Q1.out Q2.out Q3.out), HC'.out, c1.set_other (by omega) _, c2.set_other (by omega) _, c3.set_other (by omega) _, hB.setCell (p := ⟨_, _, none⟩) (by simp) _⟩
      case measure => simp [intOf]
    · have e0 := c0.congr (comp_end HC.out HY.out H0.out H1.out)
      clear x00 x01 x02 x03 x04 x05 x06 x07
      refine wp_gen (fun W => Cells4 W w.heap.size y ∧ Cells4 W (w.heap.size + 1) 0 ∧ Cells4 W b1 1 ∧ Cells4 W b2 d ∧ Below w.heap.size w W) ⟨e0, c1, c2, c3, hB⟩ ?_
      clear e0 c0 c1 c2 c3 hB HC
      clear wr
      rintro W ⟨c0, c1, c2, c3, hB⟩
      obtain ⟨x00, x01, x02, x03, -, -, -, -⟩ := id c0
      obtain ⟨x30, x31, x32, x33, -, -, -, -⟩ := id c3
      go_upto_region 14 with (first | (go_at_call 14; with_reducible refine (kdiv _).mono ?_; rintro e w1 ⟨rfl, hb1⟩))
      have l0 := c0.lt
      have l1 := c1.lt
      have l2 := c2.lt
      have l3 := c3.lt
      refine wp_gen (fun W => Cells4 W (w.heap.size) y ∧ Cells4 W (w.heap.size + 1) 0 ∧ Cells4 W b1 1 ∧ Cells4 W b2 d ∧ Cells4 W (w1.heap.size) q ∧ Cells4 W (w1.heap.size + 1) r ∧ Below w.heap.size w W) ⟨(((c0.below hb1 l0).alloc _).alloc _), (((c1.below hb1 l1).alloc _).alloc _), (((c2.below hb1 l2).alloc _).alloc _), (((c3.below hb1 l3).alloc _).alloc _), (cells4_new _ _).alloc _, cells4_new' _ _ _ (by simp), bel_alloc (bel_alloc (bel_call (hB) hb1) _) _⟩ ?_
      have hnb3_1 : w.heap.size + 1 < w1.heap.size := by (have := l1; have := hb1.size; omega)
      clear hb1 l0 l1 l2 l3 c0 c1 c2 c3 hB x00 x01 x02 x03 x30 x31 x32 x33
      generalize w1.heap.size = b3 at hnb3_1 ⊢
      clear w1 W
      rintro W ⟨c0, c1, c2, c3, c4, c5, hB⟩
      obtain ⟨x20, x21, x22, x23, -, -, -, -⟩ := id c2
      obtain ⟨x40, x41, x42, x43, f40, f41, f42, f43⟩ := id c4
      go_upto_region 15 with (first | (go_at_call 21; with_reducible refine (kad2 _).mono ?_; rintro e w1 ⟨rfl, hb1⟩; obtain ⟨hc, hf⟩ := bcell hb1; have l4 := c4.lt))
      refine wp_gen (fun W => Cells4 W (w.heap.size + 1) 0 ∧ Cells4 W b3 s ∧ Below w.heap.size w W) ⟨(c1.call hb1).put_other (by omega) _, (c4.call hb1).put _, below_put4 (bel_call hB hb1) (by omega) _⟩ ?_
      clear hc hf hb1 l4 w1 x20 x21 x22 x23 x40 x41 x42 x43 f40 f41 f42 f43 c0 c1 c2 c3 c4 c5 hB
      clear W
      rintro W ⟨c1, c4, hB⟩
      obtain ⟨g0, g1, g2, g3, f0, f1, f2, f3⟩ := id c1
      obtain ⟨y0, y1, y2, y3, -, -, -, -⟩ := id c4
      go_wp2
      exact bodyPost_ret (v := .agg #[.int .u64 (L0 s), .int .u64 (L1 s), .int .u64 (L2 s), .int .u64 (L3 s)]) (by simp [results, Try.results42, go_sem, g0, g1, g2, g3]) rfl ⟨rfl, below_put4 hB (by omega) _⟩
    · omega
end Go.Proofs.Ytefnlmiephombaa
