/- The anchor of chapter 2: 'works' answers true. -/
import Derived.Test.YtefnlmiephombaaBigD
import Derived.Test.YtefnlmiephombaaBigF
import Derived.BigQuiet
import Derived.Deep.Cut
namespace Go.Proofs.Ytefnlmiephombaa
open Go.RowKit Go.Sort

theorem big_lit (v a b c d : Int) (h0 : L0 v = a) (h1 : L1 v = b) (h2 : L2 v = c) (h3 : L3 v = d) : big v = .agg #[.int .u64 a, .int .u64 b, .int .u64 c, .int .u64 d] := by
  unfold big; rw [h0, h1, h2, h3]

theorem most_c (w : World) : Calls Try.prog 50 #[] w fun e w' => e = .returned (big (M - 1)) ∧ Below w.heap.size w w' := by
  rw [big_lit (M - 1) 18446744073709551615 18446744073709551615 18446744073709551615 18446744073709551615 (by decide +kernel) (by decide +kernel) (by decide +kernel) (by decide +kernel)]
  go_enter Try.func50, Try.ntmps50
  go_wp2
  exact bodyPost_ret (v := .agg #[.int .u64 18446744073709551615, .int .u64 18446744073709551615, .int .u64 18446744073709551615, .int .u64 18446744073709551615]) (by simp [results, Try.results50, go_sem]) rfl ⟨rfl, bel_alloc (Below.refl _ _) _⟩

theorem eq_lit (x y a b c d : Int) (hy : big y = .agg #[.int .u64 a, .int .u64 b, .int .u64 c, .int .u64 d]) (h : (m x == m y) = true) (w : World) :
    (binOp .eql 24 (.agg #[.int .u64 (L0 x), .int .u64 (L1 x), .int .u64 (L2 x), .int .u64 (L3 x)]) (.agg #[.int .u64 a, .int .u64 b, .int .u64 c, .int .u64 d])).run Try.prog w = .ok (.bool true) w := by
  have := eq_run x y w
  rw [h, hy] at this
  exact this

/-- a call met in a world of a quiet region's class -/
theorem quiet_call {f : FuncId} {args : Array Value} {v : Value} (W : World) (h : ∀ w, Calls Try.prog f args w fun e w' => e = .returned v ∧ Below w.heap.size w w') :
    ∀ d os, Calls Try.prog f args (grow (redrawn W d) os) fun e w'' => e = .returned v ∧ ∃ p : Regrown, w'' = grow (redrawn W p.d) p.os := fun _ _ => Calls.regrown_of (h _)

theorem kmost (w : World) : Calls Try.prog 50 #[] w fun e w' => e = .returned (.agg #[.int .u64 (L0 (M - 1)), .int .u64 (L1 (M - 1)), .int .u64 (L2 (M - 1)), .int .u64 (L3 (M - 1))]) ∧ Below w.heap.size w w' := by
  exact most_c w
theorem kof1 (w : World) : Calls Try.prog 23 #[.int .u64 1] w fun e w' => e = .returned (.agg #[.int .u64 (L0 1), .int .u64 (L1 1), .int .u64 (L2 1), .int .u64 (L3 1)]) ∧ Below w.heap.size w w' := by
  exact of_c 1 (by omega) (by omega) w
theorem kof7 (w : World) : Calls Try.prog 23 #[.int .u64 7] w fun e w' => e = .returned (.agg #[.int .u64 (L0 7), .int .u64 (L1 7), .int .u64 (L2 7), .int .u64 (L3 7)]) ∧ Below w.heap.size w w' := by
  exact of_c 7 (by omega) (by omega) w
theorem kof100 (w : World) : Calls Try.prog 23 #[.int .u64 100] w fun e w' => e = .returned (.agg #[.int .u64 (L0 100), .int .u64 (L1 100), .int .u64 (L2 100), .int .u64 (L3 100)]) ∧ Below w.heap.size w w' := by
  exact of_c 100 (by omega) (by omega) w
theorem kof14 (w : World) : Calls Try.prog 23 #[.int .u64 14] w fun e w' => e = .returned (.agg #[.int .u64 (L0 14), .int .u64 (L1 14), .int .u64 (L2 14), .int .u64 (L3 14)]) ∧ Below w.heap.size w w' := by
  exact of_c 14 (by omega) (by omega) w
theorem kof255 (w : World) : Calls Try.prog 23 #[.int .u64 255] w fun e w' => e = .returned (.agg #[.int .u64 (L0 255), .int .u64 (L1 255), .int .u64 (L2 255), .int .u64 (L3 255)]) ∧ Below w.heap.size w w' := by
  exact of_c 255 (by omega) (by omega) w
theorem kadd (w : World) : Calls Try.prog 21 #[.agg #[.int .u64 (L0 (M - 1)), .int .u64 (L1 (M - 1)), .int .u64 (L2 (M - 1)), .int .u64 (L3 (M - 1))], .agg #[.int .u64 (L0 1), .int .u64 (L1 1), .int .u64 (L2 1), .int .u64 (L3 1)]] w fun e w' => e = .returned (.tuple #[.agg #[.int .u64 (L0 0), .int .u64 (L1 0), .int .u64 (L2 0), .int .u64 (L3 0)], .bool true]) ∧ Below w.heap.size w w' := by
  have h := add_c (M - 1) 1 w
  rw [show decide (M ≤ m (M - 1) + m 1) = true by decide +kernel, big_shift (M - 1 + 1) 0 (by decide +kernel)] at h
  exact h
theorem ksub (w : World) : Calls Try.prog 24 #[.agg #[.int .u64 (L0 0), .int .u64 (L1 0), .int .u64 (L2 0), .int .u64 (L3 0)], .agg #[.int .u64 (L0 1), .int .u64 (L1 1), .int .u64 (L2 1), .int .u64 (L3 1)]] w fun e w' => e = .returned (.tuple #[.agg #[.int .u64 (L0 (M - 1)), .int .u64 (L1 (M - 1)), .int .u64 (L2 (M - 1)), .int .u64 (L3 (M - 1))], .bool true]) ∧ Below w.heap.size w w' := by
  have h := sub_c 0 1 w
  rw [show decide (m 0 < m 1) = true by decide +kernel, big_shift (0 - 1) (M - 1) (by decide +kernel)] at h
  exact h
theorem kup (w : World) : Calls Try.prog 16 #[.agg #[.int .u64 (L0 1), .int .u64 (L1 1), .int .u64 (L2 1), .int .u64 (L3 1)], .int .i64 255] w fun e w' => e = .returned (.agg #[.int .u64 (L0 (2 ^ 255)), .int .u64 (L1 (2 ^ 255)), .int .u64 (L2 (2 ^ 255)), .int .u64 (L3 (2 ^ 255))]) ∧ Below w.heap.size w w' := by
  have h := up_c 1 255 (by omega) w
  rw [show upv 1 255 = 2 ^ 255 by decide +kernel] at h
  exact h
theorem kmul (w : World) : Calls Try.prog 27 #[.agg #[.int .u64 (L0 (2 ^ 255)), .int .u64 (L1 (2 ^ 255)), .int .u64 (L2 (2 ^ 255)), .int .u64 (L3 (2 ^ 255))], .int .u64 6] w fun e w' => e = .returned (.tuple #[.agg #[.int .u64 (L0 0), .int .u64 (L1 0), .int .u64 (L2 0), .int .u64 (L3 0)], .int .u64 3]) ∧ Below w.heap.size w w' := by
  have h := mul_c (2 ^ 255) 6 (by omega) (by omega) w
  rw [show m (2 ^ 255) * 6 / M = 3 by decide +kernel, big_shift (2 ^ 255 * 6) 0 (by decide +kernel)] at h
  exact h
theorem kdiv (w : World) : Calls Try.prog 14 #[.agg #[.int .u64 (L0 100), .int .u64 (L1 100), .int .u64 (L2 100), .int .u64 (L3 100)], .agg #[.int .u64 (L0 7), .int .u64 (L1 7), .int .u64 (L2 7), .int .u64 (L3 7)]] w fun e w' => e = .returned (.tuple #[.agg #[.int .u64 (L0 14), .int .u64 (L1 14), .int .u64 (L2 14), .int .u64 (L3 14)], .agg #[.int .u64 (L0 2), .int .u64 (L1 2), .int .u64 (L2 2), .int .u64 (L3 2)], .int .i64 0]) ∧ Below w.heap.size w w' := by
  have h := div_c 100 7 w
  rw [show (if m 7 = 0 then (0 : Int) else m 100 / m 7) = 14 by decide +kernel, show (if m 7 = 0 then (0 : Int) else m 100 % m 7) = 2 by decide +kernel, show divErr 7 = 0 by decide +kernel] at h
  exact h
theorem kdiv0 (w : World) : Calls Try.prog 14 #[.agg #[.int .u64 (L0 7), .int .u64 (L1 7), .int .u64 (L2 7), .int .u64 (L3 7)], .agg #[.int .u64 (L0 0), .int .u64 (L1 0), .int .u64 (L2 0), .int .u64 (L3 0)]] w fun e w' => e = .returned (.tuple #[.agg #[.int .u64 (L0 0), .int .u64 (L1 0), .int .u64 (L2 0), .int .u64 (L3 0)], .agg #[.int .u64 (L0 0), .int .u64 (L1 0), .int .u64 (L2 0), .int .u64 (L3 0)], .int .i64 1]) ∧ Below w.heap.size w w' := by
  have h := div_c 7 0 w
  rw [show (if m 0 = 0 then (0 : Int) else m 7 / m 0) = 0 by decide +kernel, show (if m 0 = 0 then (0 : Int) else m 7 % m 0) = 0 by decide +kernel, show divErr 0 = 1 by decide +kernel] at h
  exact h
theorem kbits (w : World) : Calls Try.prog 22 #[.agg #[.int .u64 (L0 255), .int .u64 (L1 255), .int .u64 (L2 255), .int .u64 (L3 255)]] w fun e w' => e = .returned (.int .i64 8) ∧ Below w.heap.size w w' := by
  have h := bits_c 255 w
  rw [show bl (m 255) = 8 by decide +kernel] at h
  exact h
theorem kofh (w : World) : Calls Try.prog 33 #[(.agg #[.int .u8 1, .int .u8 2, .int .u8 0, .int .u8 0, .int .u8 0, .int .u8 0, .int .u8 0, .int .u8 0, .int .u8 0, .int .u8 0, .int .u8 0, .int .u8 0, .int .u8 0, .int .u8 0, .int .u8 0, .int .u8 0, .int .u8 0, .int .u8 0, .int .u8 0, .int .u8 0, .int .u8 0, .int .u8 0, .int .u8 0, .int .u8 0, .int .u8 0, .int .u8 0, .int .u8 0, .int .u8 0, .int .u8 0, .int .u8 0, .int .u8 0, .int .u8 0])] w fun e w' => e = .returned (.agg #[.int .u64 (L0 513), .int .u64 (L1 513), .int .u64 (L2 513), .int .u64 (L3 513)]) ∧ Below w.heap.size w w' := by
  have h := ofhash_c (1 :: 2 :: List.replicate 30 0) rfl (by intro b hb; simp at hb; omega) w
  rw [show ofBytes (1 :: 2 :: List.replicate 30 0) = 513 by decide +kernel] at h
  exact h
end Go.Proofs.Ytefnlmiephombaa
