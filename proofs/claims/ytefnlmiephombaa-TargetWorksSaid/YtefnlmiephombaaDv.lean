/- Plain numbers: the digits of a long division. -/
import Derived.Test.YtefnlmiephombaaBigC
namespace Go.Proofs.Ytefnlmiephombaa

/-- the state of the long division after k digits of n + 1 -/
def DivSt (A D n : Int) (k : Nat) (q a p : Int) : Prop :=
  0 ≤ q ∧ 0 ≤ a ∧ A = q * (D * 2 ^ (n + 1 - k).toNat) + a ∧ a < D * 2 ^ (n + 1 - k).toNat ∧ ((k : Int) ≤ n → p = D * 2 ^ (n - k).toNat)

theorem pow_pos' (k : Nat) : (0 : Int) < 2 ^ k := Int.pow_pos (by omega)

theorem pow_mono {i j : Nat} (h : i ≤ j) : (2 : Int) ^ i ≤ 2 ^ j := by
  have := Nat.pow_le_pow_right (show 0 < 2 by omega) h
  exact_mod_cast this

theorem bl_lt (v : Int) (hv : 0 ≤ v) : v < 2 ^ (bl v).toNat := by
  have := bl_nn v
  exact (bl_le_iff v hv (bl v).toNat).1 (by omega)
theorem bl_ge (v : Int) (hv : 0 < v) (k : Nat) (hk : (k : Int) < bl v) : 2 ^ k ≤ v := by
  have := (bl_le_iff v (by omega) k).2
  by_cases h : v < 2 ^ k
  · have := this h; omega
  · omega

theorem div_start (A D : Int) (h1 : 0 ≤ A) (h3 : 0 < D) : DivSt A D (bl A - bl D) 0 0 A (upv D (bl A - bl D)) := by
  have nA := bl_nn A
  have nD := bl_nn D
  have hD1 : 1 ≤ bl D := by
    by_cases h : bl D ≤ (0 : Nat)
    · have := (bl_le_iff D (by omega) 0).1 h; simp at this; omega
    · omega
  refine ⟨by omega, h1, by omega, ?_, fun h => ?_⟩
  · have hA := bl_lt A h1
    have hD := bl_ge D h3 (bl D - 1).toNat (by omega)
    by_cases hn : bl A - bl D + 1 - ((0 : Nat) : Int) ≤ 0
    · rw [show (bl A - bl D + 1 - ((0 : Nat) : Int)).toNat = 0 by omega, Int.pow_zero, Int.mul_one]
      have : (2 : Int) ^ (bl A).toNat ≤ 2 ^ (bl D - 1).toNat := pow_mono (by omega)
      omega
    · have e : (2 : Int) ^ (bl A).toNat = 2 ^ (bl D - 1).toNat * 2 ^ (bl A - bl D + 1 - ((0 : Nat) : Int)).toNat := by
        rw [← Int.pow_add]; congr 1; omega
      rw [e] at hA
      have := Int.mul_le_mul_of_nonneg_right hD (Int.le_of_lt (pow_pos' (bl A - bl D + 1 - ((0 : Nat) : Int)).toNat))
      omega
  · unfold upv
    by_cases h0 : bl A - bl D ≤ 0
    · rw [if_pos h0, show (bl A - bl D - ((0 : Nat) : Int)).toNat = 0 by omega]; simp
    · rw [if_neg h0]; congr 2; omega

theorem div_room (A D : Int) (h1 : 0 ≤ A) (h2 : A < M) (h3 : 0 < D) (h4 : D < M) : D * 2 ^ (bl A - bl D).toNat < M := by
  have nA := bl_nn A
  have nD := bl_nn D
  have lA : bl A ≤ 256 := (bl_le_iff A h1 256).2 h2
  by_cases hn : bl A - bl D ≤ 0
  · rw [show (bl A - bl D).toNat = 0 by omega]; omega
  · have hD := bl_lt D (by omega)
    have e : (2 : Int) ^ (bl A).toNat = 2 ^ (bl D).toNat * 2 ^ (bl A - bl D).toNat := by
      rw [← Int.pow_add]; congr 1; omega
    have h5 := Int.mul_lt_mul_of_pos_right hD (pow_pos' (bl A - bl D).toNat)
    have h6 : (2 : Int) ^ (bl A).toNat ≤ 2 ^ 256 := pow_mono (by omega)
    have h7 : (2 : Int) ^ 256 = M := by unfold M; rfl
    omega

theorem div_facts {A D n : Int} {k : Nat} {q a p : Int} (h : DivSt A D n k q a p) (hk : (k : Int) < n + 1) (h2 : A < M) (h3 : 0 < D) (hr : D * 2 ^ n.toNat < M) :
    m a = a ∧ m p = p ∧ p = D * 2 ^ (n - k).toNat ∧ A = q * 2 * p + a ∧ a < p * 2 ∧ 0 < p := by
  obtain ⟨q0, a0, hA, hlt, hp⟩ := h
  have hp := hp (by omega)
  have e : (n + 1 - (k : Int)).toNat = (n - k).toNat + 1 := by omega
  have e2 : D * 2 ^ (n + 1 - (k : Int)).toNat = p * 2 := by rw [e, Int.pow_succ, ← Int.mul_assoc, ← hp]
  rw [e2] at hA hlt
  have hp0 : 0 < p := by rw [hp]; exact Int.mul_pos h3 (pow_pos' _)
  have h6 : 0 ≤ q * (p * 2) := Int.mul_nonneg q0 (by omega)
  have hpM : p ≤ D * 2 ^ n.toNat := by
    rw [hp]; exact Int.mul_le_mul_of_nonneg_left (pow_mono (by omega)) (by omega)
  refine ⟨m_of a a0 (by omega), m_of p (by omega) (by omega), hp, ?_, hlt, hp0⟩
  rw [hA, Int.mul_assoc q 2 p, Int.mul_comm 2 p]

theorem down_half {D n : Int} {k : Nat} {p : Int} (hm : m p = p) (hp : p = D * 2 ^ (n - k).toNat) : ((k + 1 : Nat) : Int) ≤ n → downv p 1 = D * 2 ^ (n - ((k + 1 : Nat) : Int)).toNat := by
  intro hk
  have e : (n - (k : Int)).toNat = (n - ((k + 1 : Nat) : Int)).toNat + 1 := by omega
  unfold downv
  rw [if_neg (by omega), hm, hp, e, Int.pow_succ, ← Int.mul_assoc, show (2 : Int) ^ (1 : Int).toNat = 2 by rfl, Int.mul_ediv_cancel _ (by omega)]

theorem upv_one (q : Int) : upv q 1 = q * 2 := by unfold upv; rw [if_neg (by omega)]; rfl

theorem divSt_lt {A D n : Int} {k : Nat} {q a p : Int} (h : DivSt A D n k q a p) (hk : (k : Int) < n + 1) (h2 : A < M) (h3 : 0 < D) (hr : D * 2 ^ n.toNat < M) (hap : m a < m p) :
    DivSt A D n (k + 1) (upv q 1) a (downv p 1) := by
  obtain ⟨ma, mp, hp, hA, hlt, hp0⟩ := div_facts h hk h2 h3 hr
  obtain ⟨q0, a0, _, _, _⟩ := h
  rw [ma, mp] at hap
  have e : (n + 1 - ((k + 1 : Nat) : Int)).toNat = (n - k).toNat := by omega
  rw [upv_one]
  exact ⟨by omega, a0, by rw [e, ← hp]; exact hA, by rw [e, ← hp]; exact hap, down_half mp hp⟩

theorem divSt_ge {A D n : Int} {k : Nat} {q a p : Int} (h : DivSt A D n k q a p) (hk : (k : Int) < n + 1) (h2 : A < M) (h3 : 0 < D) (hr : D * 2 ^ n.toNat < M) (hap : ¬ m a < m p) :
    DivSt A D n (k + 1) (upv q 1 + 1) (a - p) (downv p 1) := by
  obtain ⟨ma, mp, hp, hA, hlt, hp0⟩ := div_facts h hk h2 h3 hr
  obtain ⟨q0, a0, _, _, _⟩ := h
  rw [ma, mp] at hap
  have e : (n + 1 - ((k + 1 : Nat) : Int)).toNat = (n - k).toNat := by omega
  rw [upv_one]
  refine ⟨by omega, by omega, ?_, by rw [e, ← hp]; omega, down_half mp hp⟩
  rw [e, ← hp, Int.add_mul]; omega

theorem div_end {A D n : Int} {k : Nat} {q a p : Int} (h : DivSt A D n k q a p) (hk : ¬ (k : Int) < n + 1) (h3 : 0 < D) : A / D = q ∧ A % D = a := by
  obtain ⟨q0, a0, hA, hlt, _⟩ := h
  rw [show (n + 1 - (k : Int)).toNat = 0 by omega, Int.pow_zero, Int.mul_one] at hA hlt
  rw [hA, Int.add_comm, Int.mul_comm q D]
  constructor
  · rw [Int.add_mul_ediv_left _ _ (by omega), Int.ediv_eq_zero_of_lt a0 hlt, Int.zero_add]
  · rw [Int.add_mul_emod_self_left, Int.emod_eq_of_lt a0 hlt]

/-- one more, behind an Up by one -/
theorem inc_words (q : Int) : IntKind.u64.wrap (L0 (upv q 1) + 1) = L0 (upv q 1 + 1) ∧ L1 (upv q 1 + 1) = L1 (upv q 1) ∧ L2 (upv q 1 + 1) = L2 (upv q 1) ∧ L3 (upv q 1 + 1) = L3 (upv q 1) := by
  rw [upv_one, wrap_lo]
  have e : hi (q * 2 + 1) = hi (q * 2) := by unfold hi; omega
  unfold L0 L1 L2 L3
  rw [e]
  refine ⟨?_, rfl, rfl, rfl⟩
  unfold lo; omega
end Go.Proofs.Ytefnlmiephombaa
