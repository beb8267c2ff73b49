/- The contract of scantlingref02.Div. -/
import Derived.Test.YtefnlmiephombaaRm
import Derived.Test.YtefnlmiephombaaRs
import Derived.Test.YtefnlmiephombaaRu
import Derived.Test.YtefnlmiephombaaDv
import Derived.Test.YtefnlmiephombaaBigD
import Derived.Deep.Cut
import Derived.Deep.CutRange
import Derived.Deep.RegionHeld3
namespace Go.Proofs.Ytefnlmiephombaa
open Go.RowKit Go.Sort

theorem or_low (q b : Int) (h0 : 0 ≤ b) (h1 : b ≤ 1) : bits .or .u64 (L0 (upv q 1)) b = L0 (upv q 1 + b) ∧ L1 (upv q 1 + b) = L1 (upv q 1) ∧ L2 (upv q 1 + b) = L2 (upv q 1) ∧ L3 (upv q 1 + b) = L3 (upv q 1) := by
  rw [upv_one]
  have e : hi (q * 2 + b) = hi (q * 2) := by unfold hi; omega
  have e0 : L0 (q * 2 + b) = L0 (q * 2) + b := by unfold L0 lo; omega
  refine ⟨?_, by unfold L1; rw [e], by unfold L2; rw [e], by unfold L3; rw [e]⟩
  rw [e0]
  have hl : 0 ≤ L0 (q * 2) ∧ L0 (q * 2) ≤ 18446744073709551615 ∧ L0 (q * 2) % 2 = 0 := by unfold L0 lo; omega
  generalize L0 (q * 2) = z at hl
  obtain ⟨z, rfl⟩ := Int.eq_ofNat_of_zero_le hl.1
  obtain ⟨b, rfl⟩ := Int.eq_ofNat_of_zero_le h0
  have := or_add z b 1 (by omega) (by omega) (by omega) (by omega)
  rw [this]; simp

theorem div_bit (x D : Int) (hD : 0 < D) (k : Nat) :
    (x / 2 ^ k) % D = (x / 2 ^ (k + 1) % D * 2 + bt x k) % D ∧ bt (x / D) k = (x / 2 ^ (k + 1) % D * 2 + bt x k) / D ∧ (x / 2 ^ (k + 1) % D * 2 + bt x k) < 2 * D ∧ 0 ≤ x / 2 ^ (k + 1) % D * 2 + bt x k := by
  have h := half_bit x k
  have hb := bt_bd x k
  have d := Int.mul_ediv_add_emod (x / 2 ^ (k + 1)) D
  have r0 := Int.emod_nonneg (x / 2 ^ (k + 1)) (b := D) (by omega)
  have r1 := Int.emod_lt_of_pos (x / 2 ^ (k + 1)) hD
  generalize x / 2 ^ (k + 1) % D = R at *
  generalize x / 2 ^ (k + 1) / D = Q at *
  have e : x / 2 ^ k = (R * 2 + bt x k) + D * (2 * Q) := by
    rw [Int.mul_left_comm]; omega
  refine ⟨by rw [e, Int.add_mul_emod_self_left], ?_, by omega, by omega⟩
  have hp := pow_pos' k
  have e2 : x / D / 2 ^ k = x / 2 ^ k / D := by rw [Int.ediv_ediv_of_nonneg (by omega), Int.ediv_ediv_of_nonneg (by omega), Int.mul_comm]
  have hq : bt (x / D) k = x / D / 2 ^ k % 2 := rfl
  rw [hq, e2, e, Int.add_mul_ediv_left _ _ (by omega)]
  have t0 : 0 ≤ (R * 2 + bt x k) / D := Int.ediv_nonneg (by omega) (by omega)
  have t1 : (R * 2 + bt x k) / D < 2 := Int.ediv_lt_of_lt_mul hD (by omega)
  omega
theorem rem_case (T D : Int) (hD : 0 < D) (h0 : 0 ≤ T) (h2 : T < 2 * D) : (D ≤ T → T / D = 1 ∧ T % D = T - D) ∧ (¬ D ≤ T → T / D = 0 ∧ T % D = T) := by
  constructor
  · intro h
    have e : T = (T - D) + D * 1 := by omega
    constructor
    · conv => lhs; rw [e]
      rw [Int.add_mul_ediv_left _ _ (by omega), Int.ediv_eq_zero_of_lt (by omega) (by omega)]; rfl
    · conv => lhs; rw [e]
      rw [Int.add_mul_emod_self_left, Int.emod_eq_of_lt (by omega) (by omega)]
  · intro h
    exact ⟨Int.ediv_eq_zero_of_lt h0 (by omega), Int.emod_eq_of_lt h0 (by omega)⟩
theorem top_bit (R b : Int) (h0 : 0 ≤ R) (h1 : R < M) (hb : 0 ≤ b ∧ b ≤ 1) : (bt R 255 = 1 → M ≤ R * 2 + b) ∧ (bt R 255 = 0 → m (R * 2 + b) = R * 2 + b ∧ R * 2 + b < M) := by
  have e : bt R 255 = R / 57896044618658097711785492504343953926634992332820282019728792003956564819968 % 2 := by unfold bt; congr 2
  rw [e]
  unfold m M at *
  omega
theorem mix_stay (u v : Int) (i n : Nat) (h : bt v i = bt u i) : mix u v (i + 1) n = mix u v i n := by
  apply List.ext_getElem
  · simp [mix]
  · intro j h1 h2
    simp only [mix, List.getElem_map, List.getElem_range]
    by_cases hj : j < i
    · rw [if_pos hj, if_pos (by omega)]
    · rw [if_neg hj]
      split
      · rw [show j = i by omega]; exact h
      · rfl
/-- of q the bits from k on -/
def top (q : Int) (k : Nat) : List Int := mix q 0 k 256
theorem top_length (q : Int) (k : Nat) : (top q k).length = 256 := mix_length _ _ _ _
theorem bt_zero (k : Nat) : bt 0 k = 0 := by simp [bt]
theorem top_start (q : Int) : top q 256 = rowB 0 256 := mix_all _ _ _
theorem top_end (q : Int) : top q 0 = rowB q 256 := mix_start _ _ _ _ (by omega)
theorem top_set (q : Int) (k : Nat) : (top q (k + 1)).set k (bt q k) = top q k := by
  apply List.ext_getElem
  · simp [top, mix]
  · intro j h1 h2
    simp only [top, mix, List.getElem_set, List.getElem_map, List.getElem_range]
    by_cases e : k = j
    · subst e; simp
    · rw [if_neg e]
      by_cases hj : j < k
      · rw [if_pos hj, if_pos (by omega)]
      · rw [if_neg hj, if_neg (by omega)]
theorem top_stay (q : Int) (k : Nat) (h : bt q k = 0) : top q (k + 1) = top q k := mix_stay _ _ _ _ (by rw [h, bt_zero])
theorem mk256' (w : World) : (Instr.makeSlice 58 (.int .i64 256) (.int .i64 256)).run Try.prog w = .ok (.slice (some ⟨w.heap.size, 0, none⟩) 256 256) (w.alloc (.cells ((List.replicate 256 0).map (Value.int .i64)).toArray 3)) := by
  kernel_rfl
theorem mk256 (q : Int) (w : World) : (Instr.makeSlice 58 (.int .i64 256) (.int .i64 256)).run Try.prog w = .ok (.slice (some ⟨w.heap.size, 0, none⟩) 256 256) (w.alloc (.cells ((top q 256).map (Value.int .i64)).toArray 3)) := by
  rw [top_start, row0]
  exact mk256' w
theorem RowI.set_other {g b o : Nat} {bs : List Int} {w : World} (h : RowI g bs w) (hne : g ≠ b) (x : Value) : RowI g bs (w.setCell ⟨b, o, none⟩ x) := by
  unfold RowI at h ⊢
  rw [← h]
  simp [World.setCell, Array.getElem?_modify, Ne.symm hne]
theorem RowI.put4 {g b : Nat} {bs : List Int} {w : World} (h : RowI g bs w) (hne : g ≠ b) (v : Int) : RowI g bs (put4 w b v) := (((h.set_other hne _).set_other hne _).set_other hne _).set_other hne _
end Go.Proofs.Ytefnlmiephombaa
