/- The contracts of Compact, Work, Meets (package target and scantlingref03), in plain numbers. -/
import Derived.Test.YtefnlmiephombaaTf
namespace Go.Proofs.Ytefnlmiephombaa
open Go.RowKit Go.Sort

/-- the size of a number in bytes -/
def szv (x : Int) : Int := (bl x + 7) / 8
/-- its highest three bytes -/
def hiv (x : Int) : Int := if szv x < 3 then x * 2 ^ (8 * (3 - szv x)).toNat else x / 2 ^ (8 * (szv x - 3)).toNat
def cmpv (x : Int) : Int := if 8388607 < hiv x then (szv x + 1) * 16777216 + hiv x / 256 else szv x * 16777216 + hiv x

theorem lt_sz (x : Int) (h0 : 0 ≤ x) : x < 2 ^ (8 * szv x).toNat := by
  have hb := bl_lt x h0
  have hn := bl_nn x
  have := pow_mono (show (bl x).toNat ≤ (8 * szv x).toNat by unfold szv; omega)
  omega
theorem szv_bd (x : Int) (h0 : 0 ≤ x) (h1 : x < M) : 0 ≤ szv x ∧ szv x ≤ 32 := by
  have hn := bl_nn x
  have hl := (bl_le_iff x h0 256).2 (by rw [← M_two]; exact h1)
  unfold szv; omega
theorem hiv_bd (x : Int) (h0 : 0 ≤ x) (h1 : x < M) : 0 ≤ hiv x ∧ hiv x ≤ 16777215 := by
  have hx := lt_sz x h0
  obtain ⟨s0, s1⟩ := szv_bd x h0 h1
  unfold hiv
  split
  · next h =>
    have hp := pow_pos' (8 * (3 - szv x)).toNat
    refine ⟨Int.mul_nonneg h0 (by omega), ?_⟩
    have h2 := Int.mul_le_mul_of_nonneg_right (show x ≤ 2 ^ (8 * szv x).toNat - 1 by omega) (show (0 : Int) ≤ 2 ^ (8 * (3 - szv x)).toNat by omega)
    have e : (2 : Int) ^ (8 * szv x).toNat * 2 ^ (8 * (3 - szv x)).toNat = 16777216 := by
      rw [← Int.pow_add, show (8 * szv x).toNat + (8 * (3 - szv x)).toNat = 24 by omega]; rfl
    rw [Int.sub_mul, e] at h2
    omega
  · next h =>
    have hp := pow_pos' (8 * (szv x - 3)).toNat
    refine ⟨Int.ediv_nonneg h0 (by omega), ?_⟩
    have e : (2 : Int) ^ (8 * szv x).toNat = 2 ^ (8 * (szv x - 3)).toNat * 16777216 := by
      rw [show (16777216 : Int) = 2 ^ 24 from rfl, ← Int.pow_add]; congr 1; omega
    rw [e] at hx
    have := Int.ediv_lt_of_lt_mul hp (show x < 16777216 * 2 ^ (8 * (szv x - 3)).toNat by rw [Int.mul_comm]; exact hx)
    omega
theorem down_hi (x : Int) (h0 : 0 ≤ x) (h1 : x < M) (h3 : ¬ szv x < 3) : downv x (8 * (szv x - 3)) = hiv x := by
  unfold hiv downv
  rw [if_neg h3]
  split
  · next h => rw [show (8 * (szv x - 3)).toNat = 0 by omega]; simp
  · rw [m_of x h0 h1]
theorem L0_small (x : Int) (h0 : 0 ≤ x) (h1 : x ≤ 18446744073709551615) : L0 x = x := by unfold L0 lo; omega

theorem tcompact_c (x : Int) (h0 : 0 ≤ x) (h1 : x < M) (w : World) :
    Calls Try.prog 39 #[big x] w fun e w' => e = .returned (.int .u32 (cmpv x)) ∧ Below w.heap.size w w' := by
  obtain ⟨n0, n1⟩ := hiv_bd x h0 h1
  have hl : bl x ≤ 256 := (bl_le_iff x h0 256).2 (by rw [← M_two]; exact h1)
  have kb : ∀ w, Calls Try.prog 22 #[big x] w fun e w' => e = .returned (.int .i64 (bl x)) ∧ Below w.heap.size w w' := fun w => by
    have := bits_c x w
    rwa [m_of x h0 h1] at this
  by_cases h3 : szv x < 3
  · refine cmp_lo x (bl x) (szv x) (hiv x) w (bl_nn x) hl rfl h3 n0 n1 kb ?_
    have hx := lt_sz x h0
    obtain ⟨s0, s1⟩ := szv_bd x h0 h1
    have h4 := pow_mono (show (8 * szv x).toNat ≤ 16 by omega)
    have e : hiv x = x * 2 ^ (8 * (3 - szv x)).toNat := if_pos h3
    have h5 : (2 : Int) ^ 16 = 65536 := rfl
    rw [L0_small x h0 (by omega), ← e, IntKind.wrap_u64]; omega
  · exact cmp_hi x (bl x) (szv x) (hiv x) (downv x (8 * (szv x - 3))) w (bl_nn x) hl rfl (by omega) n0 n1 kb (down_c _ _) (by rw [down_hi x h0 h1 h3]; exact L0_small _ n0 (by omega))
theorem rcompact_c (x : Int) (h0 : 0 ≤ x) (h1 : x < M) (w : World) :
    Calls Try.prog 40 #[big x] w fun e w' => e = .returned (.int .u32 (cmpv x)) ∧ Below w.heap.size w w' := by
  have hM : (18446744073709551616 : Int) < M := by decide +kernel
  by_cases hz : x = 0
  · subst hz
    rw [show cmpv 0 = 0 by decide +kernel]
    exact rcmp_zero 0 w fun w => eq_run 0 0 w
  have hne : ∀ w, (binOp .eql 24 (big x) (.agg #[.int .u64 0, .int .u64 0, .int .u64 0, .int .u64 0])).run Try.prog w = .ok (.bool false) w := fun w => by
    have := eq_run x 0 w
    rwa [m_of x h0 h1, show (x == m 0) = false by rw [show m 0 = 0 from rfl]; simpa using hz] at this
  obtain ⟨n0, n1⟩ := hiv_bd x h0 h1
  have hl : bl x ≤ 256 := (bl_le_iff x h0 256).2 (by rw [← M_two]; exact h1)
  have kb : ∀ w, Calls Try.prog 31 #[big x] w fun e w' => e = .returned (.int .i64 (bl x)) ∧ Below w.heap.size w w' := fun w => by
    have := rbits_c x w
    rwa [m_of x h0 h1] at this
  have hd8 : ∀ u, 0 ≤ u → u ≤ 16777215 → downv u 8 = u / 256 := fun u hu hu' => by
    have : downv u 8 = m u / 2 ^ (8 : Int).toNat := if_neg (by omega)
    rw [this, m_of u hu (by omega)]; rfl
  by_cases h3 : szv x < 3
  · have hu : upv x (8 * (3 - szv x)) = hiv x := by
      have e : hiv x = x * 2 ^ (8 * (3 - szv x)).toNat := if_pos h3
      have e2 : upv x (8 * (3 - szv x)) = x * 2 ^ (8 * (3 - szv x)).toNat := if_neg (by omega)
      rw [e, e2]
    exact rcmp_lo x (bl x) (szv x) (hiv x) (hiv x) (hiv x / 256) w (bl_nn x) hl rfl h3 n0 n1 hne kb (by rw [← hu]; exact rup_c _ _) (by rw [← hd8 _ n0 n1]; exact rdown_c _ _) (L0_small _ n0 (by omega)) (L0_small _ (by omega) (by omega))
  · exact rcmp_hi x (bl x) (szv x) (hiv x) (hiv x) (hiv x / 256) w (bl_nn x) hl rfl (by omega) n0 n1 hne kb (by rw [← down_hi x h0 h1 h3]; exact rdown_c _ _) (by rw [← hd8 _ n0 n1]; exact rdown_c _ _) (L0_small _ n0 (by omega)) (L0_small _ (by omega) (by omega))

def workv (x : Int) : Int := if x = 0 then M - 1 else M / (x + 1)
theorem workv_mid (x : Int) (h0 : 0 < x) : M / (x + 1) = (M - 1 - x) / (x + 1) + 1 := by
  have : M = (M - 1 - x) + (x + 1) * 1 := by omega
  conv => lhs; rw [this]
  rw [Int.add_mul_ediv_left _ _ (by omega)]
theorem twork_c (x : Int) (h0 : 0 ≤ x) (h1 : x < M) (w : World) :
    Calls Try.prog 42 #[big x] w fun e w' => e = .returned (big (workv x)) ∧ Below w.heap.size w w' := by
  have hM : (1 : Int) < M := by decide +kernel
  have m1 : m 1 = 1 := rfl
  have ka := fun w => add_c x 1 w
  rw [m_of x h0 h1, m1] at ka
  have hz : ∀ w, (binOp .eql 24 (big x) (.agg #[.int .u64 0, .int .u64 0, .int .u64 0, .int .u64 0])).run Try.prog w = .ok (.bool (x == 0)) w := fun w => by
    have := eq_run x 0 w
    rwa [m_of x h0 h1, show m 0 = 0 from rfl] at this
  unfold workv
  by_cases hx : x = 0
  · rw [if_pos hx]
    rw [decide_eq_false (by omega)] at ka
    rw [show (x == 0) = true by simpa using hx] at hz
    rw [show big (M - 1) = big (x - 1) from big_shift _ _ (by subst hx; decide +kernel)]
    exact work_zero x (x + 1) (x - 1) (decide (m x < m 1)) w (of_c 1 (by omega) (by omega)) ka hz (sub_c x 1)
  rw [if_neg hx]
  by_cases ho : x = M - 1
  · rw [decide_eq_true (by omega)] at ka
    rw [show M / (x + 1) = 1 by rw [ho, show M - 1 + 1 = M by omega]; exact Int.ediv_self (by omega)]
    exact work_over x (x + 1) w (of_c 1 (by omega) (by omega)) ka
  · rw [decide_eq_false (by omega)] at ka
    rw [show (x == 0) = false by simpa using hx] at hz
    rw [workv_mid x (by omega)]
    have kd := fun w => div_c (M - 1 - x) (x + 1) w
    rw [m_of (x + 1) (by omega) (by omega), if_neg (by omega), if_neg (by omega), m_of (M - 1 - x) (by omega) (by omega)] at kd
    exact work_mid x (x + 1) _ _ _ (M - 1 - x) (divErr (x + 1)) _ w rfl h0 h1 (of_c 1 (by omega) (by omega)) ka hz kd (add_c _ _)
theorem rwork_c (x : Int) (h0 : 0 ≤ x) (h1 : x < M) (w : World) :
    Calls Try.prog 46 #[big x] w fun e w' => e = .returned (big (workv x)) ∧ Below w.heap.size w w' := by
  have hM : (1 : Int) < M := by decide +kernel
  have m1 : m 1 = 1 := rfl
  have ka := fun w => radd_c x 1 w
  rw [m_of x h0 h1, m1] at ka
  have hz : ∀ w, (binOp .eql 24 (big x) (big 0)).run Try.prog w = .ok (.bool (x == 0)) w := fun w => by
    have := eq_run x 0 w
    rwa [m_of x h0 h1, show m 0 = 0 from rfl] at this
  unfold workv
  by_cases hx : x = 0
  · rw [if_pos hx]
    rw [show (x == 0) = true by simpa using hx] at hz
    rw [show big (M - 1) = big (0 - 1) from big_shift _ _ (by decide +kernel)]
    exact rwork_zero x (0 - 1) (decide (m 0 < m 1)) w (rof_c 1 (by omega) (by omega)) hz (rsub_c 0 1)
  rw [if_neg hx]
  rw [show (x == 0) = false by simpa using hx] at hz
  by_cases ho : x = M - 1
  · rw [decide_eq_true (by omega)] at ka
    rw [show M / (x + 1) = 1 by rw [ho, show M - 1 + 1 = M by omega]; exact Int.ediv_self (by omega)]
    exact rwork_over x (x + 1) w (rof_c 1 (by omega) (by omega)) hz ka
  · rw [decide_eq_false (by omega)] at ka
    rw [workv_mid x (by omega)]
    have kd := fun w => rdiv_c (M - 1 - x) (x + 1) w
    rw [m_of (x + 1) (by omega) (by omega), if_neg (by omega), if_neg (by omega), m_of (M - 1 - x) (by omega) (by omega)] at kd
    have ks := fun w => rsub_c 0 (x + 1) w
    rw [show big (0 - (x + 1)) = big (M - 1 - x) from big_shift _ _ (by unfold m; rw [show M - 1 - x = 0 - (x + 1) + M * 1 by omega, Int.add_mul_emod_self_left])] at ks
    exact rwork_mid x (x + 1) _ _ _ (M - 1 - x) (divErr (x + 1)) _ _ w (rof_c 1 (by omega) (by omega)) hz ka ks kd (radd_c _ _)

def meetv (bs : List Int) (x : Int) : Bool := !(x == 0) && !(decide (x < ofBytes bs))
theorem ofBytes_M (bs : List Int) (hl : bs.length = 32) (hbs : Bytes bs) : 0 ≤ ofBytes bs ∧ ofBytes bs < M := by
  have hb := ofBytes_bd bs hbs
  have e : (256 : Int) ^ 32 = M := by decide +kernel
  rw [hl, e] at hb
  exact hb
theorem tmeets_c (bs : List Int) (x : Int) (hl : bs.length = 32) (hbs : Bytes bs) (h0 : 0 ≤ x) (h1 : x < M) (w : World) :
    Calls Try.prog 43 #[hsh bs, big x] w fun e w' => e = .returned (.bool (meetv bs x)) ∧ Below w.heap.size w w' := by
  obtain ⟨b0, b1⟩ := ofBytes_M bs hl hbs
  have hz : ∀ w, (binOp .neq 24 (big x) (.agg #[.int .u64 0, .int .u64 0, .int .u64 0, .int .u64 0])).run Try.prog w = .ok (.bool (!(x == 0))) w := fun w => by
    have := neq_run x 0 w
    rwa [m_of x h0 h1, show m 0 = 0 from rfl] at this
  have kl := fun w => less_c x (ofBytes bs) w
  rw [m_of x h0 h1, m_of _ b0 b1] at kl
  unfold meetv
  by_cases hx : x = 0
  · rw [show (x == 0) = true by simpa using hx] at hz ⊢
    exact meets_false bs x hl w hz
  · rw [show (x == 0) = false by simpa using hx] at hz ⊢
    rw [show (!false && !(decide (x < ofBytes bs))) = !(decide (x < ofBytes bs)) by simp]
    exact meets_true bs x (ofBytes bs) (decide (x < ofBytes bs)) hl w (ofhash_c bs hl hbs) kl hz
theorem rmeets_c (bs : List Int) (x : Int) (hl : bs.length = 32) (hbs : Bytes bs) (h0 : 0 ≤ x) (h1 : x < M) (w : World) :
    Calls Try.prog 47 #[hsh bs, big x] w fun e w' => e = .returned (.bool (meetv bs x)) ∧ Below w.heap.size w w' := by
  obtain ⟨b0, b1⟩ := ofBytes_M bs hl hbs
  have hz : ∀ w, (binOp .neq 24 (big x) (.agg #[.int .u64 0, .int .u64 0, .int .u64 0, .int .u64 0])).run Try.prog w = .ok (.bool (!(x == 0))) w := fun w => by
    have := neq_run x 0 w
    rwa [m_of x h0 h1, show m 0 = 0 from rfl] at this
  have kl := fun w => rless_c x (ofBytes bs) w
  rw [m_of x h0 h1, m_of _ b0 b1] at kl
  unfold meetv
  by_cases hx : x = 0
  · rw [show (x == 0) = true by simpa using hx] at hz ⊢
    exact rmeets_false bs x hl w hz
  · rw [show (x == 0) = false by simpa using hx] at hz ⊢
    rw [show (!false && !(decide (x < ofBytes bs))) = !(decide (x < ofBytes bs)) by simp]
    exact rmeets_true bs x (ofBytes bs) (decide (x < ofBytes bs)) hl w (rofhash_c bs hl hbs) kl hz
end Go.Proofs.Ytefnlmiephombaa
