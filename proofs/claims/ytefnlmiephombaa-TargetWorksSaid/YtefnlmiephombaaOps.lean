/- Runs of single operations over this seat's program: the carry and borrow of 64 bits; a number of 256 bits as a value; its words by index; '==' on two of them. -/
import Derived.Test.YtefnlmiephombaaProg
import Derived.Test.YtefnlmiephombaaPl
import Derived.WalkKit
import Derived.WalkSpells
import Derived.WalkLawsBesides
import Derived.Outline
import Derived.Shelf.Spec.BitsCarry
namespace Go.Proofs.Ytefnlmiephombaa
open Go.RowKit

theorem bel_alloc {a w : World} (h : Below a.heap.size a w) (o : Obj) : Below a.heap.size a (w.alloc o) := h.alloc h.size o
theorem bel_drew {a w : World} (h : Below a.heap.size a w) : Below a.heap.size a w.drew := h.drew
theorem bel_call {a w w' : World} (h : Below a.heap.size a w) (k : Below w.heap.size w w') : Below a.heap.size a w' := h.trans (k.mono h.size)

theorem add64_run (x y c : Int) (hx : 0 ≤ x) (hy : 0 ≤ y) (hc0 : 0 ≤ c) (hc : c ≤ 1) (w : World) :
   (callFunc 51 #[.int .u64 x, .int .u64 y, .int .u64 c]).run Try.prog w =
      .ok (.value (.tuple #[.int .u64 (lo (x + y + c)), .int .u64 (hi (x + y + c))])) w := by
  unfold lo hi
  rw [run_callFunc_extern Try.func51 (by kernel_rfl) (by kernel_rfl) (by kernel_rfl) (e := add64Entry) (by kernel_rfl), run_add64 x y c (by omega) (by omega) (by omega) (by omega)]
  simp only [Result.andThen]

theorem sub64_run (x y b : Int) (hx : 0 ≤ x) (hy : 0 ≤ y) (hy' : y ≤ 18446744073709551615) (hb0 : 0 ≤ b) (hb : b ≤ 1) (w : World) :
   (callFunc 53 #[.int .u64 x, .int .u64 y, .int .u64 b]).run Try.prog w =
      .ok (.value (.tuple #[.int .u64 (lo (x - y - b)), .int .u64 (bw (x - y - b))])) w := by
  obtain ⟨x, rfl⟩ := Int.eq_ofNat_of_zero_le hx
  obtain ⟨y, rfl⟩ := Int.eq_ofNat_of_zero_le hy
  obtain ⟨b, rfl⟩ := Int.eq_ofNat_of_zero_le hb0
  rw [run_callFunc_extern Try.func53 (by kernel_rfl) (by kernel_rfl) (by kernel_rfl) (e := sub64Entry) (by kernel_rfl), run_sub64 x y b (by omega)]
  simp only [Result.andThen]
  have e1 : (((x + 18446744073709551616 - y - b) % 18446744073709551616 : Nat) : Int) = lo ((x : Int) - y - b) := by unfold lo; omega
  have e2 : ((if x < y + b then 1 else 0 : Nat) : Int) = bw ((x : Int) - y - b) := by unfold bw; split <;> split <;> omega
  rw [e1, e2]

/-- A number of 256 bits as the value of its four words. -/
def big (v : Int) : Value := .agg #[.int .u64 (L0 v), .int .u64 (L1 v), .int .u64 (L2 v), .int .u64 (L3 v)]

theorem big_m (v : Int) : big (m v) = big v := by
  obtain ⟨a, b, c, d⟩ := limbs_m v
  unfold big; rw [a, b, c, d]

theorem big_of (a b c d : Int) (ha : 0 ≤ a) (ha' : a ≤ 18446744073709551615) (hb : 0 ≤ b) (hb' : b ≤ 18446744073709551615) (hc : 0 ≤ c) (hc' : c ≤ 18446744073709551615) (hd : 0 ≤ d) (hd' : d ≤ 18446744073709551615) :
    ∃ v, 0 ≤ v ∧ v < M ∧ Value.agg #[.int .u64 a, .int .u64 b, .int .u64 c, .int .u64 d] = big v := by
  obtain ⟨h0, h1, h2, h3⟩ := limbs_of a b c d ha ha' hb hb' hc hc' hd hd'
  refine ⟨m (a + 18446744073709551616 * (b + 18446744073709551616 * (c + 18446744073709551616 * d))), m_nn _, m_lt _, ?_⟩
  rw [big_m]; unfold big; rw [h0, h1, h2, h3]

theorem ix0 (x0 x1 x2 x3 : Int) (w : World) : (Instr.index 24 (.agg #[.int .u64 x0, .int .u64 x1, .int .u64 x2, .int .u64 x3]) (.int .i64 0)).run Try.prog w = .ok (.int .u64 x0) w := by kernel_rfl
theorem ix1 (x0 x1 x2 x3 : Int) (w : World) : (Instr.index 24 (.agg #[.int .u64 x0, .int .u64 x1, .int .u64 x2, .int .u64 x3]) (.int .i64 1)).run Try.prog w = .ok (.int .u64 x1) w := by kernel_rfl
theorem ix2 (x0 x1 x2 x3 : Int) (w : World) : (Instr.index 24 (.agg #[.int .u64 x0, .int .u64 x1, .int .u64 x2, .int .u64 x3]) (.int .i64 2)).run Try.prog w = .ok (.int .u64 x2) w := by kernel_rfl
theorem ix3 (x0 x1 x2 x3 : Int) (w : World) : (Instr.index 24 (.agg #[.int .u64 x0, .int .u64 x1, .int .u64 x2, .int .u64 x3]) (.int .i64 3)).run Try.prog w = .ok (.int .u64 x3) w := by kernel_rfl

section
variable {P : Program} (w : World)
theorem all_range_eq : ∀ (xs ys : List Int), xs.length = ys.length → ((List.range xs.length).all fun i => xs.getD i 0 == ys.getD i 0) = (xs == ys)
  | [], [], _ => rfl
  | x :: xs, y :: ys, h => by
    have ih := all_range_eq xs ys (by simpa using h)
    rw [List.length_cons, List.range_succ_eq_map, List.all_cons, List.all_map]
    simp only [List.getD_cons_zero, Function.comp_def, List.getD_cons_succ, ih]
    simp [List.cons_beq_cons]
  | [], _ :: _, h => by simp at h
  | _ :: _, [], h => by simp at h

/-- '==' of two arrays of integers -/
theorem run_equalIn_ints (d : Nat) (t e : TypeId) (q : IntKind) (n : Nat) (ht : P.underlying t = some (.array n e)) (he : P.underlying e = some (.int q)) (hsz : ∀ w, (sizeOf e).run P w = .ok 1 w)
    (xs ys : List Int) (hx : xs.length = n) (hy : ys.length = n) :
    (Op.equalIn (d + 2) t (.agg (xs.map (Value.int q)).toArray) (.agg (ys.map (Value.int q)).toArray)).run P w = .ok (xs == ys) w := by
  rw [← all_range_eq xs ys (hx.trans hy.symm), hx, List.range_eq_range', Op.equalIn]
  simp only [Sem.run_bind, run_underlying ht, Result.andThen_ok, hsz, Std.Legacy.Range.forIn_eq_forIn_range', Std.Legacy.Range.size, Nat.sub_zero, Nat.add_sub_cancel, Nat.div_one]
  have hl : ∀ i ∈ List.range' 0 n 1, i < n := fun i hi => by simpa using (List.mem_range'_1.1 hi).2
  generalize List.range' 0 n 1 = l at hl ⊢
  induction l with
  | nil => simp
  | cons i l ih =>
    have hi : i < n := hl i (by simp)
    have px : (part e (xs.map (Value.int q)).toArray (i * 1)).run P w = .ok (.int q (xs.getD i 0)) w := by
      simp [part, isAgg, run_underlying he, List.getD, List.getElem?_eq_getElem (show i < xs.length by omega)]
    have py : (part e (ys.map (Value.int q)).toArray (i * 1)).run P w = .ok (.int q (ys.getD i 0)) w := by
      simp [part, isAgg, run_underlying he, List.getD, List.getElem?_eq_getElem (show i < ys.length by omega)]
    have pe : (Op.equalIn (d + 1) e (.int q (xs.getD i 0)) (.int q (ys.getD i 0))).run P w = .ok (xs.getD i 0 == ys.getD i 0) w := by
      rw [run_equalIn_int w d e q q _ _ he]
    simp only [List.forIn_cons, Sem.run_bind, px, py, pe, Result.andThen_ok, List.all_cons]
    cases hb : (xs.getD i 0 == ys.getD i 0)
    · simp
    · simp only [Bool.not_true, Bool.false_eq_true, if_false, Sem.run_pure, Result.andThen_ok, Bool.true_and]
      exact ih fun j hj => hl j (by simp [hj])

theorem run_eql_ints (t e : TypeId) (q : IntKind) (n : Nat) (ht : P.underlying t = some (.array n e)) (he : P.underlying e = some (.int q)) (hsz : ∀ w, (sizeOf e).run P w = .ok 1 w)
    (xs ys : List Int) (hx : xs.length = n) (hy : ys.length = n) :
    (binOp .eql t (.agg (xs.map (Value.int q)).toArray) (.agg (ys.map (Value.int q)).toArray)).run P w = .ok (.bool (xs == ys)) w := by
  rw [run_eql_struct, run_equalIn_ints w 9998 t e q n ht he hsz xs ys hx hy]
  rfl
theorem run_neq_ints (t e : TypeId) (q : IntKind) (n : Nat) (ht : P.underlying t = some (.array n e)) (he : P.underlying e = some (.int q)) (hsz : ∀ w, (sizeOf e).run P w = .ok 1 w)
    (xs ys : List Int) (hx : xs.length = n) (hy : ys.length = n) :
    (binOp .neq t (.agg (xs.map (Value.int q)).toArray) (.agg (ys.map (Value.int q)).toArray)).run P w = .ok (.bool (!(xs == ys))) w := by
  rw [run_neq_struct, run_equalIn_ints w 9998 t e q n ht he hsz xs ys hx hy]
  rfl
end

theorem four_eq (x y : Int) : ([L0 x, L1 x, L2 x, L3 x] == [L0 y, L1 y, L2 y, L3 y]) = (m x == m y) := by
  rw [Bool.eq_iff_iff]
  simp only [beq_iff_eq, List.cons.injEq, and_true]
  exact ⟨fun ⟨a, b, c, d⟩ => eq_of_limbs a b c d, fun h => limbs_of_eq h⟩

theorem eq_run (x y : Int) (w : World) : (binOp .eql 24 (big x) (big y)).run Try.prog w = .ok (.bool (m x == m y)) w := by
  rw [← four_eq]
  exact run_eql_ints w 24 22 .u64 4 (Try.underlying24.trans rfl) Try.underlying22 (fun _ => by simp [go_sem]) [L0 x, L1 x, L2 x, L3 x] [L0 y, L1 y, L2 y, L3 y] rfl rfl
theorem neq_run (x y : Int) (w : World) : (binOp .neq 24 (big x) (big y)).run Try.prog w = .ok (.bool (!(m x == m y))) w := by
  rw [← four_eq]
  exact run_neq_ints w 24 22 .u64 4 (Try.underlying24.trans rfl) Try.underlying22 (fun _ => by simp [go_sem]) [L0 x, L1 x, L2 x, L3 x] [L0 y, L1 y, L2 y, L3 y] rfl rfl
end Go.Proofs.Ytefnlmiephombaa
