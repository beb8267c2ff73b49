/- The walks of target.Compact and scantlingref03.Compact. -/
import Derived.Test.YtefnlmiephombaaTl
import Derived.Lib.Hide
namespace Go.Proofs.Ytefnlmiephombaa
open Go.RowKit Go.Sort

theorem or_u32 (s n : Int) (h0 : 0 ≤ s) (h1 : s ≤ 255) (h2 : 0 ≤ n) (h3 : n ≤ 16777215) : bits .or .u32 (s * 16777216) n = s * 16777216 + n := by
  obtain ⟨s, rfl⟩ := Int.eq_ofNat_of_zero_le h0
  obtain ⟨n, rfl⟩ := Int.eq_ofNat_of_zero_le h2
  have e1 : (BitVec.ofInt 32 ((s : Int) * 16777216) ||| BitVec.ofInt 32 (n : Int)).toNat = s * 16777216 ||| n := by
    rw [BitVec.toNat_or]
    simp only [BitVec.toNat_ofInt]
    congr 1 <;> omega
  have e2 : bits .or .u32 ((s : Int) * 16777216) (n : Int) = IntKind.u32.wrap ((BitVec.ofInt 32 ((s : Int) * 16777216) ||| BitVec.ofInt 32 (n : Int)).toNat : Nat) := rfl
  have e3 : s * 16777216 ||| n = s * 16777216 + n := by
    have := Nat.two_pow_add_eq_or_of_lt (i := 24) (b := n) (show n < 2 ^ 24 by omega) s
    rw [show 2 ^ 24 * s = s * 16777216 by rw [Nat.mul_comm]] at this
    exact this.symm
  rw [e2, e1, e3, IntKind.wrap_u32]; omega

set_option maxRecDepth 100000 in
set_option maxHeartbeats 4000000 in
theorem cmp_hi (x l sz n d : Int) (w : World) (hl0 : 0 ≤ l) (hl1 : l ≤ 256) (hz : (l + 7) / 8 = sz) (hr : 3 ≤ sz) (hn0 : 0 ≤ n) (hn1 : n ≤ 16777215)
    (kbt : ∀ w, Calls Try.prog 22 #[.agg #[.int .u64 (L0 x), .int .u64 (L1 x), .int .u64 (L2 x), .int .u64 (L3 x)]] w fun e w' => e = .returned (.int .i64 l) ∧ Below w.heap.size w w')
    (kdn : ∀ w, Calls Try.prog 18 #[.agg #[.int .u64 (L0 x), .int .u64 (L1 x), .int .u64 (L2 x), .int .u64 (L3 x)], .int .i64 (8 * (sz - 3))] w fun e w' => e = .returned (.agg #[.int .u64 (L0 d), .int .u64 (L1 d), .int .u64 (L2 d), .int .u64 (L3 d)]) ∧ Below w.heap.size w w')
    (hd : L0 d = n)
    : Calls Try.prog 39 #[.agg #[.int .u64 (L0 x), .int .u64 (L1 x), .int .u64 (L2 x), .int .u64 (L3 x)]] w fun e w' => e = .returned (.int .u32 (if 8388607 < n then (sz + 1) * 16777216 + n / 256 else sz * 16777216 + n)) ∧ Below w.heap.size w w' := by
  have w0 : IntKind.i64.wrap (l + 7) = l + 7 := by rw [IntKind.wrap_i64]; omega
  have hq : (l + 7) / 8 = sz := hz
  have hq2 : (l + 7).tdiv 8 = sz := by rw [Int.tdiv_eq_ediv_of_nonneg (by omega)]; exact hz
  have s0 : 0 ≤ sz := by omega
  have s1 : sz ≤ 32 := by omega
  have wz : IntKind.i64.wrap sz = sz := by rw [IntKind.wrap_i64]; omega
  have w1 : IntKind.u32.wrap sz = sz := by rw [IntKind.wrap_u32]; omega
  have w2 : IntKind.i64.wrap (sz + 1) = sz + 1 := by rw [IntKind.wrap_i64]; omega
  have w3 : IntKind.u32.wrap (sz + 1) = sz + 1 := by rw [IntKind.wrap_u32]; omega
  have w4 : IntKind.u32.wrap (sz * 16777216) = sz * 16777216 := by rw [IntKind.wrap_u32]; omega
  have w5 : IntKind.u32.wrap ((sz + 1) * 16777216) = (sz + 1) * 16777216 := by rw [IntKind.wrap_u32]; omega
  have w6 : IntKind.u32.wrap n = n := by rw [IntKind.wrap_u32]; omega
  have w7 : IntKind.u32.wrap (n / 256) = n / 256 := by rw [IntKind.wrap_u32]; omega
  have w8 : IntKind.i64.wrap (sz - 3) = sz - 3 := by rw [IntKind.wrap_i64]; omega
  have w9 : IntKind.i64.wrap (3 - sz) = 3 - sz := by rw [IntKind.wrap_i64]; omega
  have wa : IntKind.i64.wrap (8 * (sz - 3)) = 8 * (sz - 3) := by rw [IntKind.wrap_i64]; omega
  have wb : IntKind.i64.wrap (8 * (3 - sz)) = 8 * (3 - sz) := by rw [IntKind.wrap_i64]; omega
  have o1 := or_u32 sz n s0 (by omega) hn0 (by omega)
  have o2 := or_u32 (sz + 1) (n / 256) (by omega) (by omega) (by omega) (by omega)
  clear hz
  have ix : ∀ w, (Instr.index 24 (.agg #[.int .u64 (L0 d), .int .u64 (L1 d), .int .u64 (L2 d), .int .u64 (L3 d)]) (.int .i64 0)).run Try.prog w = .ok (.int .u64 n) w := fun w => by rw [ix0, hd]
  clear hd
  go_enter Try.func39, Try.ntmps39
  go_upto_region 2 with (first | (go_at_call 22; with_reducible refine (kbt _).mono ?_; rintro e w1 ⟨rfl, hb1⟩))
  refine wp_gen (fun W => Cells4 W w.heap.size x ∧ Below w.heap.size w W) ⟨(cells4_new w x).call hb1, bel_call (bel_alloc (Below.refl _ _) _) hb1⟩ ?_
  clear hb1
  clear w1
  rintro W ⟨c0, hB⟩
  obtain ⟨x0, x1, x2, x3, -, -, -, -⟩ := id c0
  go_upto_region 6 with (first | (go_at_call 18; with_reducible refine (kdn _).mono ?_; rintro e w1 ⟨rfl, hb1⟩))
  have hB1 := bel_call hB hb1
  by_cases hb : 8388607 < n
  · go_wp2
    go_ret
    exact ⟨rfl, hB1⟩
  · go_wp2
    go_ret
    exact ⟨rfl, hB1⟩

set_option maxRecDepth 100000 in
set_option maxHeartbeats 4000000 in
theorem cmp_lo (x l sz n : Int) (w : World) (hl0 : 0 ≤ l) (hl1 : l ≤ 256) (hz : (l + 7) / 8 = sz) (hr : sz < 3) (hn0 : 0 ≤ n) (hn1 : n ≤ 16777215)
    (kbt : ∀ w, Calls Try.prog 22 #[.agg #[.int .u64 (L0 x), .int .u64 (L1 x), .int .u64 (L2 x), .int .u64 (L3 x)]] w fun e w' => e = .returned (.int .i64 l) ∧ Below w.heap.size w w')
    (hs : IntKind.u64.wrap (L0 x * 2 ^ (8 * (3 - sz)).toNat) = n)
    : Calls Try.prog 39 #[.agg #[.int .u64 (L0 x), .int .u64 (L1 x), .int .u64 (L2 x), .int .u64 (L3 x)]] w fun e w' => e = .returned (.int .u32 (if 8388607 < n then (sz + 1) * 16777216 + n / 256 else sz * 16777216 + n)) ∧ Below w.heap.size w w' := by
  have w0 : IntKind.i64.wrap (l + 7) = l + 7 := by rw [IntKind.wrap_i64]; omega
  have hq : (l + 7) / 8 = sz := hz
  have hq2 : (l + 7).tdiv 8 = sz := by rw [Int.tdiv_eq_ediv_of_nonneg (by omega)]; exact hz
  have s0 : 0 ≤ sz := by omega
  have s1 : sz ≤ 32 := by omega
  have wz : IntKind.i64.wrap sz = sz := by rw [IntKind.wrap_i64]; omega
  have w1 : IntKind.u32.wrap sz = sz := by rw [IntKind.wrap_u32]; omega
  have w2 : IntKind.i64.wrap (sz + 1) = sz + 1 := by rw [IntKind.wrap_i64]; omega
  have w3 : IntKind.u32.wrap (sz + 1) = sz + 1 := by rw [IntKind.wrap_u32]; omega
  have w4 : IntKind.u32.wrap (sz * 16777216) = sz * 16777216 := by rw [IntKind.wrap_u32]; omega
  have w5 : IntKind.u32.wrap ((sz + 1) * 16777216) = (sz + 1) * 16777216 := by rw [IntKind.wrap_u32]; omega
  have w6 : IntKind.u32.wrap n = n := by rw [IntKind.wrap_u32]; omega
  have w7 : IntKind.u32.wrap (n / 256) = n / 256 := by rw [IntKind.wrap_u32]; omega
  have w8 : IntKind.i64.wrap (sz - 3) = sz - 3 := by rw [IntKind.wrap_i64]; omega
  have w9 : IntKind.i64.wrap (3 - sz) = 3 - sz := by rw [IntKind.wrap_i64]; omega
  have wa : IntKind.i64.wrap (8 * (sz - 3)) = 8 * (sz - 3) := by rw [IntKind.wrap_i64]; omega
  have wb : IntKind.i64.wrap (8 * (3 - sz)) = 8 * (3 - sz) := by rw [IntKind.wrap_i64]; omega
  have o1 := or_u32 sz n s0 (by omega) hn0 (by omega)
  have o2 := or_u32 (sz + 1) (n / 256) (by omega) (by omega) (by omega) (by omega)
  clear hz
  go_enter Try.func39, Try.ntmps39
  go_upto_region 2 with (first | (go_at_call 22; with_reducible refine (kbt _).mono ?_; rintro e w1 ⟨rfl, hb1⟩))
  refine wp_gen (fun W => Cells4 W w.heap.size x ∧ Below w.heap.size w W) ⟨(cells4_new w x).call hb1, bel_call (bel_alloc (Below.refl _ _) _) hb1⟩ ?_
  clear hb1
  clear w1
  rintro W ⟨c0, hB⟩
  obtain ⟨x0, x1, x2, x3, -, -, -, -⟩ := id c0
  go_upto_region 6 with (fail)
  have hB1 := hB
  by_cases hb : 8388607 < n
  · go_wp2
    go_ret
    exact ⟨rfl, hB1⟩
  · go_wp2
    go_ret
    exact ⟨rfl, hB1⟩

set_option maxRecDepth 100000 in
set_option maxHeartbeats 4000000 in
theorem rcmp_zero (x : Int) (w : World)
    (n1 : ∀ w, (binOp .eql 24 (.agg #[.int .u64 (L0 x), .int .u64 (L1 x), .int .u64 (L2 x), .int .u64 (L3 x)]) (.agg #[.int .u64 0, .int .u64 0, .int .u64 0, .int .u64 0])).run Try.prog w = .ok (.bool true) w)
    : Calls Try.prog 40 #[.agg #[.int .u64 (L0 x), .int .u64 (L1 x), .int .u64 (L2 x), .int .u64 (L3 x)]] w fun e w' => e = .returned (.int .u32 0) ∧ Below w.heap.size w w' := by
  go_enter Try.func40, Try.ntmps40
  go_wp2
  go_ret
  exact ⟨rfl, bel_alloc (Below.refl _ _) _⟩

set_option maxRecDepth 100000 in
set_option maxHeartbeats 4000000 in
theorem rcmp_hi (x l sz n u v : Int) (w : World) (hl0 : 0 ≤ l) (hl1 : l ≤ 256) (hz : (l + 7) / 8 = sz) (hr : 3 ≤ sz) (hn0 : 0 ≤ n) (hn1 : n ≤ 16777215)
    (n1 : ∀ w, (binOp .eql 24 (.agg #[.int .u64 (L0 x), .int .u64 (L1 x), .int .u64 (L2 x), .int .u64 (L3 x)]) (.agg #[.int .u64 0, .int .u64 0, .int .u64 0, .int .u64 0])).run Try.prog w = .ok (.bool false) w)
    (kbt : ∀ w, Calls Try.prog 31 #[.agg #[.int .u64 (L0 x), .int .u64 (L1 x), .int .u64 (L2 x), .int .u64 (L3 x)]] w fun e w' => e = .returned (.int .i64 l) ∧ Below w.heap.size w w')
    (kmv : ∀ w, Calls Try.prog 19 #[.agg #[.int .u64 (L0 x), .int .u64 (L1 x), .int .u64 (L2 x), .int .u64 (L3 x)], .int .i64 (8 * (sz - 3))] w fun e w' => e = .returned (.agg #[.int .u64 (L0 u), .int .u64 (L1 u), .int .u64 (L2 u), .int .u64 (L3 u)]) ∧ Below w.heap.size w w')
    (kdn : ∀ w, Calls Try.prog 19 #[.agg #[.int .u64 (L0 u), .int .u64 (L1 u), .int .u64 (L2 u), .int .u64 (L3 u)], .int .i64 8] w fun e w' => e = .returned (.agg #[.int .u64 (L0 v), .int .u64 (L1 v), .int .u64 (L2 v), .int .u64 (L3 v)]) ∧ Below w.heap.size w w')
    (hu : L0 u = n) (hv : L0 v = n / 256)
    : Calls Try.prog 40 #[.agg #[.int .u64 (L0 x), .int .u64 (L1 x), .int .u64 (L2 x), .int .u64 (L3 x)]] w fun e w' => e = .returned (.int .u32 (if 8388607 < n then (sz + 1) * 16777216 + n / 256 else sz * 16777216 + n)) ∧ Below w.heap.size w w' := by
  have w0 : IntKind.i64.wrap (l + 7) = l + 7 := by rw [IntKind.wrap_i64]; omega
  have hq : (l + 7) / 8 = sz := hz
  have hq2 : (l + 7).tdiv 8 = sz := by rw [Int.tdiv_eq_ediv_of_nonneg (by omega)]; exact hz
  have s0 : 0 ≤ sz := by omega
  have s1 : sz ≤ 32 := by omega
  have wz : IntKind.i64.wrap sz = sz := by rw [IntKind.wrap_i64]; omega
  have w1 : IntKind.u32.wrap sz = sz := by rw [IntKind.wrap_u32]; omega
  have w2 : IntKind.i64.wrap (sz + 1) = sz + 1 := by rw [IntKind.wrap_i64]; omega
  have w3 : IntKind.u32.wrap (sz + 1) = sz + 1 := by rw [IntKind.wrap_u32]; omega
  have w4 : IntKind.u32.wrap (sz * 16777216) = sz * 16777216 := by rw [IntKind.wrap_u32]; omega
  have w5 : IntKind.u32.wrap ((sz + 1) * 16777216) = (sz + 1) * 16777216 := by rw [IntKind.wrap_u32]; omega
  have w6 : IntKind.u32.wrap n = n := by rw [IntKind.wrap_u32]; omega
  have w7 : IntKind.u32.wrap (n / 256) = n / 256 := by rw [IntKind.wrap_u32]; omega
  have w8 : IntKind.i64.wrap (sz - 3) = sz - 3 := by rw [IntKind.wrap_i64]; omega
  have w9 : IntKind.i64.wrap (3 - sz) = 3 - sz := by rw [IntKind.wrap_i64]; omega
  have wa : IntKind.i64.wrap (8 * (sz - 3)) = 8 * (sz - 3) := by rw [IntKind.wrap_i64]; omega
  have wb : IntKind.i64.wrap (8 * (3 - sz)) = 8 * (3 - sz) := by rw [IntKind.wrap_i64]; omega
  have o1 := or_u32 sz n s0 (by omega) hn0 (by omega)
  have o2 := or_u32 (sz + 1) (n / 256) (by omega) (by omega) (by omega) (by omega)
  clear hz
  have HU := Lib.hid hu; have HV := Lib.hid hv
  clear hu hv
  go_enter Try.func40, Try.ntmps40
  go_upto_region 4 with (first | (go_at_call 31; with_reducible refine (kbt _).mono ?_; rintro e w1 ⟨rfl, hb1⟩))
  refine wp_gen (fun W => Cells4 W w.heap.size x ∧ Below w.heap.size w W) ⟨(cells4_new w x).call hb1, bel_call (bel_alloc (Below.refl _ _) _) hb1⟩ ?_
  clear hb1
  clear w1
  rintro W ⟨c0, hB⟩
  obtain ⟨x0, x1, x2, x3, -, -, -, -⟩ := id c0
  have l0 := c0.lt
  go_upto_region 8 with (first | (go_at_call 19; with_reducible refine (kmv _).mono ?_; rintro e w1 ⟨rfl, hb1⟩; obtain ⟨hc, hf⟩ := bcell hb1))
  refine wp_gen (fun V => Cells4 V W.heap.size u ∧ Below w.heap.size w V) ⟨((cells4_zero _).call hb1).put _, below_put4 (bel_call (bel_alloc hB _) hb1) (by omega) _⟩ ?_
  clear hc hf hb1 w1 x0 x1 x2 x3 c0 hB
  generalize W.heap.size = b2 at l0
  clear W
  rintro W ⟨c0, hB⟩
  obtain ⟨x0, x1, x2, x3, f0, f1, f2, f3⟩ := id c0
  rw [HU.out] at x0
  by_cases hb : 8388607 < n
  · have hb2 : 8388608 ≤ n := by omega
    rw [HU.out] at kdn
    go_upto_region 11 with (first | (go_at_call 19; with_reducible refine (kdn _).mono ?_; rintro e w1 ⟨rfl, hb1⟩; obtain ⟨hc, hf⟩ := bcell hb1; have l1 := c0.lt))
    refine wp_gen (fun V => Cells4 V b2 v ∧ Below w.heap.size w V) ⟨(c0.call hb1).put _, below_put4 (bel_call hB hb1) (by omega) _⟩ ?_
    clear hc hf hb1 w1 x0 x1 x2 x3 f0 f1 f2 f3 c0 hB l1
    clear W
    rintro W ⟨c0, hB⟩
    obtain ⟨x0, x1, x2, x3, -, -, -, -⟩ := id c0
    rw [HV.out] at x0
    go_wp2
    go_ret
    exact ⟨rfl, hB⟩
  · have hb2 : ¬ 8388608 ≤ n := by omega
    go_wp2
    go_ret
    exact ⟨rfl, hB⟩

set_option maxRecDepth 100000 in
set_option maxHeartbeats 4000000 in
theorem rcmp_lo (x l sz n u v : Int) (w : World) (hl0 : 0 ≤ l) (hl1 : l ≤ 256) (hz : (l + 7) / 8 = sz) (hr : sz < 3) (hn0 : 0 ≤ n) (hn1 : n ≤ 16777215)
    (n1 : ∀ w, (binOp .eql 24 (.agg #[.int .u64 (L0 x), .int .u64 (L1 x), .int .u64 (L2 x), .int .u64 (L3 x)]) (.agg #[.int .u64 0, .int .u64 0, .int .u64 0, .int .u64 0])).run Try.prog w = .ok (.bool false) w)
    (kbt : ∀ w, Calls Try.prog 31 #[.agg #[.int .u64 (L0 x), .int .u64 (L1 x), .int .u64 (L2 x), .int .u64 (L3 x)]] w fun e w' => e = .returned (.int .i64 l) ∧ Below w.heap.size w w')
    (kmv : ∀ w, Calls Try.prog 17 #[.agg #[.int .u64 (L0 x), .int .u64 (L1 x), .int .u64 (L2 x), .int .u64 (L3 x)], .int .i64 (8 * (3 - sz))] w fun e w' => e = .returned (.agg #[.int .u64 (L0 u), .int .u64 (L1 u), .int .u64 (L2 u), .int .u64 (L3 u)]) ∧ Below w.heap.size w w')
    (kdn : ∀ w, Calls Try.prog 19 #[.agg #[.int .u64 (L0 u), .int .u64 (L1 u), .int .u64 (L2 u), .int .u64 (L3 u)], .int .i64 8] w fun e w' => e = .returned (.agg #[.int .u64 (L0 v), .int .u64 (L1 v), .int .u64 (L2 v), .int .u64 (L3 v)]) ∧ Below w.heap.size w w')
    (hu : L0 u = n) (hv : L0 v = n / 256)
    : Calls Try.prog 40 #[.agg #[.int .u64 (L0 x), .int .u64 (L1 x), .int .u64 (L2 x), .int .u64 (L3 x)]] w fun e w' => e = .returned (.int .u32 (if 8388607 < n then (sz + 1) * 16777216 + n / 256 else sz * 16777216 + n)) ∧ Below w.heap.size w w' := by
  have w0 : IntKind.i64.wrap (l + 7) = l + 7 := by rw [IntKind.wrap_i64]; omega
  have hq : (l + 7) / 8 = sz := hz
  have hq2 : (l + 7).tdiv 8 = sz := by rw [Int.tdiv_eq_ediv_of_nonneg (by omega)]; exact hz
  have s0 : 0 ≤ sz := by omega
  have s1 : sz ≤ 32 := by omega
  have wz : IntKind.i64.wrap sz = sz := by rw [IntKind.wrap_i64]; omega
  have w1 : IntKind.u32.wrap sz = sz := by rw [IntKind.wrap_u32]; omega
  have w2 : IntKind.i64.wrap (sz + 1) = sz + 1 := by rw [IntKind.wrap_i64]; omega
  have w3 : IntKind.u32.wrap (sz + 1) = sz + 1 := by rw [IntKind.wrap_u32]; omega
  have w4 : IntKind.u32.wrap (sz * 16777216) = sz * 16777216 := by rw [IntKind.wrap_u32]; omega
  have w5 : IntKind.u32.wrap ((sz + 1) * 16777216) = (sz + 1) * 16777216 := by rw [IntKind.wrap_u32]; omega
  have w6 : IntKind.u32.wrap n = n := by rw [IntKind.wrap_u32]; omega
  have w7 : IntKind.u32.wrap (n / 256) = n / 256 := by rw [IntKind.wrap_u32]; omega
  have w8 : IntKind.i64.wrap (sz - 3) = sz - 3 := by rw [IntKind.wrap_i64]; omega
  have w9 : IntKind.i64.wrap (3 - sz) = 3 - sz := by rw [IntKind.wrap_i64]; omega
  have wa : IntKind.i64.wrap (8 * (sz - 3)) = 8 * (sz - 3) := by rw [IntKind.wrap_i64]; omega
  have wb : IntKind.i64.wrap (8 * (3 - sz)) = 8 * (3 - sz) := by rw [IntKind.wrap_i64]; omega
  have o1 := or_u32 sz n s0 (by omega) hn0 (by omega)
  have o2 := or_u32 (sz + 1) (n / 256) (by omega) (by omega) (by omega) (by omega)
  clear hz
  have HU := Lib.hid hu; have HV := Lib.hid hv
  clear hu hv
  go_enter Try.func40, Try.ntmps40
  go_upto_region 4 with (first | (go_at_call 31; with_reducible refine (kbt _).mono ?_; rintro e w1 ⟨rfl, hb1⟩))
  refine wp_gen (fun W => Cells4 W w.heap.size x ∧ Below w.heap.size w W) ⟨(cells4_new w x).call hb1, bel_call (bel_alloc (Below.refl _ _) _) hb1⟩ ?_
  clear hb1
  clear w1
  rintro W ⟨c0, hB⟩
  obtain ⟨x0, x1, x2, x3, -, -, -, -⟩ := id c0
  have l0 := c0.lt
  go_upto_region 8 with (first | (go_at_call 17; with_reducible refine (kmv _).mono ?_; rintro e w1 ⟨rfl, hb1⟩; obtain ⟨hc, hf⟩ := bcell hb1))
  refine wp_gen (fun V => Cells4 V W.heap.size u ∧ Below w.heap.size w V) ⟨((cells4_zero _).call hb1).put _, below_put4 (bel_call (bel_alloc hB _) hb1) (by omega) _⟩ ?_
  clear hc hf hb1 w1 x0 x1 x2 x3 c0 hB
  generalize W.heap.size = b2 at l0
  clear W
  rintro W ⟨c0, hB⟩
  obtain ⟨x0, x1, x2, x3, f0, f1, f2, f3⟩ := id c0
  rw [HU.out] at x0
  by_cases hb : 8388607 < n
  · have hb2 : 8388608 ≤ n := by omega
    rw [HU.out] at kdn
    go_upto_region 11 with (first | (go_at_call 19; with_reducible refine (kdn _).mono ?_; rintro e w1 ⟨rfl, hb1⟩; obtain ⟨hc, hf⟩ := bcell hb1; have l1 := c0.lt))
    refine wp_gen (fun V => Cells4 V b2 v ∧ Below w.heap.size w V) ⟨(c0.call hb1).put _, below_put4 (bel_call hB hb1) (by omega) _⟩ ?_
    clear hc hf hb1 w1 x0 x1 x2 x3 f0 f1 f2 f3 c0 hB l1
    clear W
    rintro W ⟨c0, hB⟩
    obtain ⟨x0, x1, x2, x3, -, -, -, -⟩ := id c0
    rw [HV.out] at x0
    go_wp2
    go_ret
    exact ⟨rfl, hB⟩
  · have hb2 : ¬ 8388608 ≤ n := by omega
    go_wp2
    go_ret
    exact ⟨rfl, hB⟩
end Go.Proofs.Ytefnlmiephombaa
