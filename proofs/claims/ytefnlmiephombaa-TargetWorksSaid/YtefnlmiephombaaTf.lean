/- The contracts of package target and of scantlingref03, in plain numbers. -/
import Derived.Test.YtefnlmiephombaaTb
import Derived.Test.YtefnlmiephombaaTc
import Derived.Test.YtefnlmiephombaaTd
import Derived.Test.YtefnlmiephombaaTe
import Derived.Test.YtefnlmiephombaaRu
import Derived.Test.YtefnlmiephombaaRs
import Derived.Test.YtefnlmiephombaaRg
import Derived.Test.YtefnlmiephombaaMoves
namespace Go.Proofs.Ytefnlmiephombaa
open Go.RowKit Go.Sort

theorem and_part (b : Int) (h0 : 0 ≤ b) (h1 : b ≤ 4294967295) : bits .and .u32 b 8388607 = b % 8388608 := by
  obtain ⟨b, rfl⟩ := Int.eq_ofNat_of_zero_le h0
  have e1 : (BitVec.ofInt 32 (b : Int) &&& BitVec.ofInt 32 8388607).toNat = b % 8388608 := by
    rw [BitVec.toNat_and]
    simp only [BitVec.toNat_ofInt]
    rw [show ((8388607 : Int) % ((2 ^ 32 : Nat) : Int)).toNat = 2 ^ 23 - 1 by decide +kernel, Nat.and_two_pow_sub_one_eq_mod]
    omega
  have e2 : bits .and .u32 (b : Int) 8388607 = IntKind.u32.wrap ((BitVec.ofInt 32 (b : Int) &&& BitVec.ofInt 32 8388607).toNat : Nat) := rfl
  rw [e2, e1, IntKind.wrap_u32]; omega
theorem nat_and_bit (b i : Nat) : b &&& 2 ^ i = (b.testBit i).toNat * 2 ^ i := by
  apply Nat.eq_of_testBit_eq
  intro j
  rw [Nat.testBit_and, Nat.testBit_two_pow]
  by_cases h : i = j
  · subst h
    cases hb : b.testBit i <;> simp
  · cases hb : b.testBit i <;> simp [h]
theorem and_sign (b : Int) (h0 : 0 ≤ b) (h1 : b ≤ 4294967295) : (bits .and .u32 b 8388608 != 0) = decide (b / 8388608 % 2 = 1) := by
  obtain ⟨b, rfl⟩ := Int.eq_ofNat_of_zero_le h0
  have e1 : (BitVec.ofInt 32 (b : Int) &&& BitVec.ofInt 32 8388608).toNat = (b.testBit 23).toNat * 2 ^ 23 := by
    rw [BitVec.toNat_and]
    simp only [BitVec.toNat_ofInt]
    rw [show ((8388608 : Int) % ((2 ^ 32 : Nat) : Int)).toNat = 2 ^ 23 by decide +kernel, nat_and_bit, show ((b : Int) % ((2 ^ 32 : Nat) : Int)).toNat = b by omega]
  have e2 : bits .and .u32 (b : Int) 8388608 = IntKind.u32.wrap ((BitVec.ofInt 32 (b : Int) &&& BitVec.ofInt 32 8388608).toNat : Nat) := rfl
  rw [e2, e1, IntKind.wrap_u32, Nat.testBit_eq_decide_div_mod_eq]
  by_cases h : b / 2 ^ 23 % 2 = 1
  · rw [decide_eq_true h, decide_eq_true (by omega)]; rfl
  · rw [decide_eq_false h, decide_eq_false (by omega)]; rfl

/-- what compact bits mean -/
def tval (b : Int) : Int := if b / 16777216 < 3 then downv (b % 8388608) (8 * (3 - b / 16777216)) else upv (b % 8388608) (8 * (b / 16777216 - 3))
def tok (b : Int) : Bool := !(decide (3 ≤ b / 16777216) && decide (M ≤ tval b)) && !(decide (b / 8388608 % 2 = 1)) && !(m (tval b) == 0)
def tvo (b : Int) : Int := if tok b then tval b else 0

theorem fit1 (p k : Int) (h0 : 0 ≤ p) (h1 : p < M) (_hk : 0 ≤ k) : (!(m (downv (upv p k) k) == m p)) = decide (M ≤ upv p k) := by
  by_cases h : k ≤ 0
  · have e1 : upv p k = p := if_pos h
    have e2 : downv p k = p := if_pos h
    rw [e1, e2, decide_eq_false (by omega)]; simp
  · have e1 : upv p k = p * 2 ^ k.toNat := if_neg h
    have e2 : downv (upv p k) k = m (upv p k) / 2 ^ k.toNat := if_neg h
    have hp := pow_pos' k.toNat
    rw [e2, e1, m_of p h0 h1]
    have hn : 0 ≤ p * 2 ^ k.toNat := Int.mul_nonneg h0 (by omega)
    by_cases hf : M ≤ p * 2 ^ k.toNat
    · have hlt : m (p * 2 ^ k.toNat) / 2 ^ k.toNat < p := by
        refine Int.ediv_lt_of_lt_mul hp ?_
        have := m_lt (p * 2 ^ k.toNat)
        omega
      have hnn : 0 ≤ m (p * 2 ^ k.toNat) / 2 ^ k.toNat := Int.ediv_nonneg (m_nn _) (by omega)
      rw [decide_eq_true hf, m_of _ hnn (by omega)]
      simp; omega
    · rw [decide_eq_false hf, m_of _ hn (by omega), Int.mul_ediv_cancel _ (by omega), m_of p h0 h1]; simp
theorem fit2 (p k : Int) (h0 : 0 ≤ p) (h1 : p < M) (hk : 0 ≤ k) : (decide (256 < bl (m p) + k) && !(m p == m 0)) = decide (M ≤ upv p k) := by
  rw [m_of p h0 h1, show m 0 = 0 from rfl]
  have hu : upv p k = p * 2 ^ k.toNat := by
    by_cases h : k ≤ 0
    · have e1 : upv p k = p := if_pos h
      rw [e1, show k.toNat = 0 by omega]; simp
    · exact if_neg h
  rw [hu]
  by_cases hz : p = 0
  · subst hz
    have : 0 < M := by decide +kernel
    simp; omega
  · have hb := bl_up 0 p k.toNat (by omega) (pow_pos' _) (by omega)
    rw [Int.zero_add, Int.mul_comm] at hb
    have hn : 0 ≤ p * 2 ^ k.toNat := Int.mul_nonneg h0 (by have := pow_pos' k.toNat; omega)
    have hi := bl_le_iff (p * 2 ^ k.toNat) hn 256
    rw [hb, ← M_two] at hi
    have : (p == 0) = false := by simpa using hz
    rw [this]
    have e : (decide (256 < bl p + k)) = decide (M ≤ p * 2 ^ k.toNat) := by
      by_cases hf : M ≤ p * 2 ^ k.toNat
      · rw [decide_eq_true hf, decide_eq_true]
        have : ¬ ((k.toNat : Int) + bl p ≤ (256 : Nat)) := fun h => by have := hi.1 h; omega
        omega
      · rw [decide_eq_false hf, decide_eq_false]
        have := hi.2 (by omega)
        omega
    rw [e]; simp
theorem big_zero : big 0 = .agg #[.int .u64 0, .int .u64 0, .int .u64 0, .int .u64 0] := rfl

theorem tof_c (b : Int) (h0 : 0 ≤ b) (h1 : b ≤ 4294967295) (w : World) :
    Calls Try.prog 37 #[.int .u32 b] w fun e w' => e = .returned (.tuple #[big (tvo b), .bool (tok b)]) ∧ Below w.heap.size w w' := by
  have hM : (8388608 : Int) < M := by decide +kernel
  have hz : ∀ u w, (binOp .eql 24 (big u) (.agg #[.int .u64 0, .int .u64 0, .int .u64 0, .int .u64 0])).run Try.prog w = .ok (.bool (m u == m 0)) w := fun u w => eq_run u 0 w
  by_cases hs : b / 16777216 < 3
  · have hv : tval b = downv (b % 8388608) (8 * (3 - b / 16777216)) := if_pos hs
    refine (of_lo b (b / 16777216) (b % 8388608) (tval b) (decide (b / 8388608 % 2 = 1)) (m (tval b) == m 0) w (by omega) hs (by omega) (by omega) rfl (and_part b h0 h1) (and_sign b h0 h1) (of_c _ (by omega) (by omega)) (by rw [hv]; exact down_c _ _) (hz _)).mono fun e w' ⟨he, hb⟩ => ⟨he.trans ?_, hb⟩
    have ht : tok b = !(decide (b / 8388608 % 2 = 1) || m (tval b) == m 0) := by
      unfold tok
      rw [decide_eq_false (show ¬ 3 ≤ b / 16777216 by omega), show m 0 = 0 from rfl]; simp
    unfold tvo
    rw [ht]
    cases (decide (b / 8388608 % 2 = 1) || m (tval b) == m 0) <;> rfl
  · have hv : tval b = upv (b % 8388608) (8 * (b / 16777216 - 3)) := if_neg hs
    refine (of_hi b (b / 16777216) (b % 8388608) (tval b) (downv (tval b) (8 * (b / 16777216 - 3))) (decide (M ≤ tval b)) (decide (b / 8388608 % 2 = 1)) (m (tval b) == m 0) w (by omega) (by omega) (by omega) (by omega) rfl (and_part b h0 h1) (and_sign b h0 h1) (of_c _ (by omega) (by omega)) (by rw [hv]; exact up_c _ _ (by omega)) (down_c _ _) ?_ (hz _)).mono fun e w' ⟨he, hb⟩ => ⟨he.trans ?_, hb⟩
    · intro w
      have := neq_run (downv (tval b) (8 * (b / 16777216 - 3))) (b % 8388608) w
      rwa [hv, fit1 _ _ (by omega) (by omega) (by omega), ← hv] at this
    · have ht : tok b = !(decide (M ≤ tval b) || decide (b / 8388608 % 2 = 1) || m (tval b) == m 0) := by
        unfold tok
        rw [decide_eq_true (show 3 ≤ b / 16777216 by omega), show m 0 = 0 from rfl]; simp
      unfold tvo
      rw [ht]
      cases (decide (M ≤ tval b) || decide (b / 8388608 % 2 = 1) || m (tval b) == m 0) <;> rfl
theorem rtof_c (b : Int) (h0 : 0 ≤ b) (h1 : b ≤ 4294967295) (w : World) :
    Calls Try.prog 38 #[.int .u32 b] w fun e w' => e = .returned (.tuple #[big (tvo b), .bool (tok b)]) ∧ Below w.heap.size w w' := by
  have hM : (8388608 : Int) < M := by decide +kernel
  have hz : ∀ u w, (binOp .eql 24 (big u) (.agg #[.int .u64 0, .int .u64 0, .int .u64 0, .int .u64 0])).run Try.prog w = .ok (.bool (m u == m 0)) w := fun u w => eq_run u 0 w
  have hnz : ∀ u w, (binOp .neq 24 (big u) (.agg #[.int .u64 0, .int .u64 0, .int .u64 0, .int .u64 0])).run Try.prog w = .ok (.bool (!(m u == m 0))) w := fun u w => neq_run u 0 w
  by_cases hs : b / 16777216 < 3
  · have hv : tval b = downv (b % 8388608) (8 * (3 - b / 16777216)) := if_pos hs
    refine (rof_lo b (b / 16777216) (b % 8388608) (tval b) (decide (b / 8388608 % 2 = 1)) (m (tval b) == m 0) w (by omega) hs (by omega) (by omega) rfl (and_part b h0 h1) (and_sign b h0 h1) (rof_c _ (by omega) (by omega)) (by rw [hv]; exact rdown_c _ _) (hz _)).mono fun e w' ⟨he, hb⟩ => ⟨he.trans ?_, hb⟩
    have ht : tok b = !(decide (b / 8388608 % 2 = 1) || m (tval b) == m 0) := by
      unfold tok
      rw [decide_eq_false (show ¬ 3 ≤ b / 16777216 by omega), show m 0 = 0 from rfl]; simp
    unfold tvo
    rw [ht]
    cases (decide (b / 8388608 % 2 = 1) || m (tval b) == m 0) <;> rfl
  · have hv : tval b = upv (b % 8388608) (8 * (b / 16777216 - 3)) := if_neg hs
    have hl : bl (m (b % 8388608)) ≤ 256 := bl_m_le _
    refine (rof_hi b (b / 16777216) (b % 8388608) (tval b) (bl (m (b % 8388608))) (!(m (b % 8388608) == m 0)) (decide (b / 8388608 % 2 = 1)) (m (tval b) == m 0) w (by omega) (by omega) (by omega) (by omega) (bl_nn _) hl rfl (and_part b h0 h1) (and_sign b h0 h1) (rof_c _ (by omega) (by omega)) (by rw [hv]; exact rup_c _ _) (rbits_c _) (hnz _) (hz _)).mono fun e w' ⟨he, hb⟩ => ⟨he.trans ?_, hb⟩
    rw [fit2 (b % 8388608) (8 * (b / 16777216 - 3)) (by omega) (by omega) (by omega), ← hv]
    have ht : tok b = !(decide (M ≤ tval b) || m (tval b) == m 0 || decide (b / 8388608 % 2 = 1)) := by
      unfold tok
      rw [decide_eq_true (show 3 ≤ b / 16777216 by omega), show m 0 = 0 from rfl]
      cases decide (M ≤ tval b) <;> cases decide (b / 8388608 % 2 = 1) <;> cases (m (tval b) == 0) <;> rfl
    unfold tvo
    rw [ht]
    cases (decide (M ≤ tval b) || m (tval b) == m 0 || decide (b / 8388608 % 2 = 1)) <;> rfl
end Go.Proofs.Ytefnlmiephombaa
