/- The plain law of TargetOrder; its walk. -/
import Derived.Test.YtefnlmiephombaaTk
import Derived.Test.YtefnlmiephombaaTo
namespace Go.Proofs.Ytefnlmiephombaa
open Go.RowKit Go.Sort

theorem workv_bd (x : Int) (h0 : 0 ≤ x) : 0 ≤ workv x ∧ workv x < M ∧ workv x ≠ 0 ∨ ¬ x < M := by
  by_cases h1 : x < M
  · left
    have hM : (1 : Int) < M := by decide +kernel
    unfold workv
    split
    · omega
    · have a := Int.ediv_nonneg (show 0 ≤ M by omega) (show 0 ≤ x + 1 by omega)
      have b : M / (x + 1) < M := Int.ediv_lt_of_lt_mul (by omega) (by
        have := Int.mul_le_mul_of_nonneg_left (show 2 ≤ x + 1 by omega) (show 0 ≤ M by omega)
        omega)
      have c : 1 ≤ M / (x + 1) := Int.le_ediv_of_mul_le (by omega) (by omega)
      omega
  · right; exact h1
theorem workv_mono (t u : Int) (h0 : 0 ≤ t) (h : t < u) (_h1 : u < M) : workv u ≤ workv t := by
  have hM : (1 : Int) < M := by decide +kernel
  unfold workv
  rw [if_neg (show ¬ u = 0 by omega)]
  have hu : 0 ≤ M / (u + 1) := Int.ediv_nonneg (by omega) (by omega)
  by_cases ht : t = 0
  · rw [if_pos ht]
    have : M / (u + 1) < M := Int.ediv_lt_of_lt_mul (by omega) (by
        have := Int.mul_le_mul_of_nonneg_left (show 2 ≤ u + 1 by omega) (show 0 ≤ M by omega)
        omega)
    omega
  · rw [if_neg ht]
    refine Int.le_ediv_of_mul_le (by omega) ?_
    have a := Int.ediv_mul_le M (show u + 1 ≠ 0 by omega)
    have b := Int.mul_le_mul_of_nonneg_left (show t + 1 ≤ u + 1 by omega) hu
    omega

theorem targetOrder.walk (t u : Int) (bs : List Int) (ht : 0 ≤ t) (ht' : t < M) (hu : 0 ≤ u) (hu' : u < M) (hl : bs.length = 32) (hbs : Bytes bs) (w : World) :
    Calls Try.prog 12 #[big t, big u, hsh bs] w fun e w' => e = .returned (.bool true) ∧ Below w.heap.size w w' := by
  have hM : (1 : Int) < M := by decide +kernel
  obtain ⟨a0, a1, a2⟩ : 0 ≤ workv t ∧ workv t < M ∧ workv t ≠ 0 := (workv_bd t ht).resolve_right (fun h => h ht')
  obtain ⟨c0, c1, c2⟩ : 0 ≤ workv u ∧ workv u < M ∧ workv u ≠ 0 := (workv_bd u hu).resolve_right (fun h => h hu')
  have n1 : ∀ w, (binOp .neq 24 (big t) (big 0)).run Try.prog w = .ok (.bool (!(t == 0))) w := fun w => by
    have := neq_run t 0 w
    rwa [m_of t ht ht', show m 0 = 0 from rfl] at this
  have n2 : ∀ w, (binOp .eql 24 (big t) (big 0)).run Try.prog w = .ok (.bool (t == 0)) w := fun w => by
    have := eq_run t 0 w
    rwa [m_of t ht ht', show m 0 = 0 from rfl] at this
  have kwt := twork_c t ht ht'
  have kwu := twork_c u hu hu'
  have klt := fun w => less_c t u w
  rw [m_of t ht ht', m_of u hu hu'] at klt
  have kab := fun w => less_c (workv t) (workv u) w
  rw [m_of _ a0 a1, m_of _ c0 c1] at kab
  have kof := of_c 1 (by omega) (by omega)
  have kad := fun w => add_c t 1 w
  rw [m_of t ht ht', show m 1 = 1 from rfl] at kad
  by_cases hz : t = 0
  · rw [show (t == 0) = true by simpa using hz] at n1 n2
    by_cases hlt : t < u
    · rw [decide_eq_true hlt] at klt
      rw [decide_eq_false (by have := workv_mono t u ht hlt hu'; omega)] at kab
      exact order_zt bs t u _ _ _ _ hl w kwt kwu klt kab n1 n2 kof kad works3_c
    · rw [decide_eq_false hlt] at klt
      exact order_zf bs t u _ _ _ _ hl w kwt kwu klt n1 n2 kof kad works3_c
  rw [show (t == 0) = false by simpa using hz] at n1 n2
  by_cases ho : t = M - 1
  · rw [decide_eq_false (by omega)] at klt
    rw [decide_eq_true (by omega)] at kad
    have n3 : ∀ w, (binOp .eql 24 (big (workv t)) (big 1)).run Try.prog w = .ok (.bool true) w := fun w => by
      have hw1 : workv t = 1 := by unfold workv; rw [if_neg hz, ho, show M - 1 + 1 = M by omega]; exact Int.ediv_self (by omega)
      rw [hw1]
      exact eq_self 1 w
    exact order_of bs t u _ _ _ hl w kwt kwu klt n1 n2 kof kad n3 works3_c
  rw [decide_eq_false (by omega)] at kad
  have ksr := fun w => sub_c 0 (t + 1) w
  rw [show big (0 - (t + 1)) = big (M - 1 - t) from big_shift _ _ (by unfold m; rw [show M - 1 - t = 0 - (t + 1) + M * 1 by omega, Int.add_mul_emod_self_left])] at ksr
  have ksl := fun w => sub_c (workv t) 1 w
  have hw : workv t - 1 = (M - 1 - t) / (t + 1) := by
    have : workv t = M / (t + 1) := if_neg hz
    rw [this, workv_mid t (by omega)]; omega
  rw [hw] at ksl
  have kdv := fun w => div_c (M - 1 - t) (t + 1) w
  rw [m_of (t + 1) (by omega) (by omega), if_neg (by omega), if_neg (by omega), m_of (M - 1 - t) (by omega) (by omega), show divErr (t + 1) = 0 by unfold divErr; rw [m_of (t + 1) (by omega) (by omega), if_neg (by omega)]] at kdv
  have n5 : ∀ w, (binOp .neq 24 (big (workv t)) (big 0)).run Try.prog w = .ok (.bool true) w := fun w => by
    have := neq_run (workv t) 0 w
    rwa [m_of _ a0 a1, show m 0 = 0 from rfl, show (workv t == 0) = false by simpa using a2] at this
  by_cases hlt : t < u
  · rw [decide_eq_true hlt] at klt
    rw [decide_eq_false (by have := workv_mono t u ht hlt hu'; omega)] at kab
    have kmt := tmeets_c bs t hl hbs ht ht'
    have kmu := tmeets_c bs u hl hbs hu hu'
    cases hm : meetv bs t
    · rw [hm] at kmt
      exact order_mtf bs t u _ _ _ _ _ _ _ _ hl w kwt kwu klt kab n1 n2 kmt kof kad ksr ksl kdv (eq_self _) n5 works3_c
    · rw [hm] at kmt
      have hmu : meetv bs u = true := by
        unfold meetv at hm ⊢
        rw [show (t == 0) = false by simpa using hz] at hm
        have h1 : ¬ t < ofBytes bs := by simpa using hm
        rw [show (u == 0) = false by simp; omega, decide_eq_false (by omega)]; rfl
      rw [hmu] at kmu
      exact order_mtt bs t u _ _ _ _ _ _ _ _ hl w kwt kwu klt kab n1 n2 kmt kmu kof kad ksr ksl kdv (eq_self _) n5 works3_c
  · rw [decide_eq_false hlt] at klt
    exact order_mf bs t u _ _ _ _ _ _ _ _ hl w kwt kwu klt n1 n2 kof kad ksr ksl kdv (eq_self _) n5 works3_c
end Go.Proofs.Ytefnlmiephombaa
