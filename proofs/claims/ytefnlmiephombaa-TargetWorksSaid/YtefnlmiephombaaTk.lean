/- Chapter 3's anchor; the walks of TargetBits and TargetEasy. -/
import Derived.Test.YtefnlmiephombaaTg
import Derived.Test.YtefnlmiephombaaTh
import Derived.Test.YtefnlmiephombaaTi
import Derived.Test.YtefnlmiephombaaTj
namespace Go.Proofs.Ytefnlmiephombaa
open Go.RowKit Go.Sort

theorem works3_c (w : World) : Calls Try.prog 41 #[] w fun e w' => e = .returned (.bool true) ∧ Below w.heap.size w w' := by
  refine works3_w (65535 * 2 ^ 208) 5 4295032833 w ?_ ?_ ?_ ?_ ?_ ?_ ?_ ?_ ?_ ?_ ?_ ?_
  · intro w
    have h := tof_c 486604799 (by omega) (by omega) w
    rw [show tvo 486604799 = 65535 * 2 ^ 208 by decide +kernel, show tok 486604799 = true by decide +kernel] at h
    exact h
  · intro w
    have h := tof_c 17104896 (by omega) (by omega) w
    rw [show tvo 17104896 = 5 by decide +kernel, show tok 17104896 = true by decide +kernel] at h
    exact h
  · intro w
    have h := tof_c 0 (by omega) (by omega) w
    rw [show tvo 0 = 0 by decide +kernel, show tok 0 = false by decide +kernel] at h
    exact h
  · intro w
    have h := tof_c 58720261 (by omega) (by omega) w
    rw [show tvo 58720261 = 0 by decide +kernel, show tok 58720261 = false by decide +kernel] at h
    exact h
  · intro w
    have h := tof_c 587202561 (by omega) (by omega) w
    rw [show tvo 587202561 = 0 by decide +kernel, show tok 587202561 = false by decide +kernel] at h
    exact h
  · intro w
    have h := rup_c 65535 208 w
    rw [show upv 65535 208 = 65535 * 2 ^ 208 by decide +kernel] at h
    exact h
  · intro w
    have h := tcompact_c (65535 * 2 ^ 208) (by decide +kernel) (by decide +kernel) w
    rw [show cmpv (65535 * 2 ^ 208) = 486604799 by decide +kernel] at h
    exact h
  · intro w
    have h := tcompact_c 128 (by decide +kernel) (by decide +kernel) w
    rw [show cmpv 128 = 33587200 by decide +kernel] at h
    exact h
  · intro w
    have h := twork_c (65535 * 2 ^ 208) (by decide +kernel) (by decide +kernel) w
    rw [show workv (65535 * 2 ^ 208) = 4295032833 by decide +kernel] at h
    exact h
  · intro w
    have h := eq_run (65535 * 2 ^ 208) (65535 * 2 ^ 208) w
    rw [show (m (65535 * 2 ^ 208) == m (65535 * 2 ^ 208)) = true by decide +kernel] at h
    exact h
  · intro w
    have h := eq_run 5 5 w
    rw [show (m 5 == m 5) = true by decide +kernel] at h
    exact h
  · intro w
    have h := eq_run 4295032833 4295032833 w
    rw [show (m 4295032833 == m 4295032833) = true by decide +kernel] at h
    exact h

theorem eq_self (v : Int) (w : World) : (binOp .eql 24 (big v) (big v)).run Try.prog w = .ok (.bool true) w := by
  have := eq_run v v w
  rwa [show (m v == m v) = true by simp] at this

theorem targetBits.walk (b x : Int) (hb : 0 ≤ b) (hb' : b ≤ 4294967295) (hx : 0 ≤ x) (hx' : x < M) (w : World) :
    Calls Try.prog 9 #[.int .u32 b, big x] w fun e w' => e = .returned (.bool true) ∧ Below w.heap.size w w' := by
  have k37 := tof_c b hb hb'
  have k38 := rtof_c b hb hb'
  cases h : tok b
  · rw [h] at k37 k38
    exact tbits_false b x (tvo b) (cmpv x) w k37 k38 (tcompact_c x hx hx') (rcompact_c x hx hx') works3_c (eq_self _)
  · rw [h] at k37 k38
    exact tbits_true b x (tvo b) (cmpv x) w k37 k38 (tcompact_c x hx hx') (rcompact_c x hx hx') works3_c (eq_self _)

theorem or_sign (r p : Int) (hr0 : 0 ≤ r) (hr1 : r < 29) (hp0 : 0 ≤ p) (hp1 : p < 8388608) : bits .or .u32 ((3 + r) * 16777216 + p) 8388608 = (3 + r) * 16777216 + p + 8388608 := by
  obtain ⟨r, rfl⟩ := Int.eq_ofNat_of_zero_le hr0
  obtain ⟨p, rfl⟩ := Int.eq_ofNat_of_zero_le hp0
  have e1 : (BitVec.ofInt 32 ((3 + (r : Int)) * 16777216 + p) ||| BitVec.ofInt 32 8388608).toNat = ((3 + r) * 16777216 + p) ||| 8388608 := by
    rw [BitVec.toNat_or]
    simp only [BitVec.toNat_ofInt]
    congr 1 <;> omega
  have e2 : bits .or .u32 ((3 + (r : Int)) * 16777216 + p) 8388608 = IntKind.u32.wrap ((BitVec.ofInt 32 ((3 + (r : Int)) * 16777216 + p) ||| BitVec.ofInt 32 8388608).toNat : Nat) := rfl
  have e3 : ((3 + r) * 16777216 + p) ||| 8388608 = (3 + r) * 16777216 + p + 8388608 := by
    have a1 := Nat.two_pow_add_eq_or_of_lt (i := 24) (b := p) (show p < 2 ^ 24 by omega) (3 + r)
    have a2 := Nat.two_pow_add_eq_or_of_lt (i := 23) (b := p) (show p < 2 ^ 23 by omega) 1
    have a3 := Nat.two_pow_add_eq_or_of_lt (i := 24) (b := 8388608 + p) (show 8388608 + p < 2 ^ 24 by omega) (3 + r)
    have b1 : (3 + r) * 16777216 + p = 2 ^ 24 * (3 + r) + p := by omega
    have b2 : 8388608 + p = 2 ^ 23 * 1 + p := by omega
    rw [b1, a1, Nat.or_assoc, Nat.or_comm p, show (8388608 : Nat) = 2 ^ 23 * 1 by rfl, ← a2, ← b2, ← a3]
    omega
  rw [e2, e1, e3, IntKind.wrap_u32]; omega

theorem easy_val (r p : Int) (hr0 : 0 ≤ r) (hr1 : r < 29) (hp0 : 0 ≤ p) (hp1 : p < 8388608) :
    tvo ((3 + r) * 16777216 + p) = upv p (8 * r) ∧ tok ((3 + r) * 16777216 + p) = (p != 0) ∧ tvo ((3 + r) * 16777216 + p + 8388608) = 0 ∧ tok ((3 + r) * 16777216 + p + 8388608) = false := by
  have d1 : ((3 + r) * 16777216 + p) / 16777216 = 3 + r := by omega
  have d2 : ((3 + r) * 16777216 + p) % 8388608 = p := by omega
  have d3 : ((3 + r) * 16777216 + p) / 8388608 % 2 = 0 := by omega
  have d4 : ((3 + r) * 16777216 + p + 8388608) / 8388608 % 2 = 1 := by omega
  have hk : tok ((3 + r) * 16777216 + p + 8388608) = false := by unfold tok; rw [d4]; simp
  have hv : tval ((3 + r) * 16777216 + p) = upv p (8 * r) := by
    unfold tval; rw [d1, d2, if_neg (by omega)]; congr 2; omega
  have hu : upv p (8 * r) = p * 2 ^ (8 * r).toNat := by
    unfold upv
    split
    · rw [show (8 * r).toNat = 0 by omega]; simp
    · rfl
  have hp := pow_pos' (8 * r).toNat
  have hp2 := pow_mono (show (8 * r).toNat ≤ 224 by omega)
  have hlt : p * 2 ^ (8 * r).toNat < M := by
    have h1 := Int.mul_le_mul_of_nonneg_right (show p ≤ 8388607 by omega) (show (0 : Int) ≤ 2 ^ (8 * r).toNat by omega)
    have h2 : (8388607 : Int) * 2 ^ 224 < M := by decide +kernel
    omega
  have hnn : 0 ≤ p * 2 ^ (8 * r).toNat := Int.mul_nonneg hp0 (by omega)
  have ht : tok ((3 + r) * 16777216 + p) = (p != 0) := by
    unfold tok
    rw [d3, hv, hu, m_of _ hnn hlt, decide_eq_false (show ¬ M ≤ p * 2 ^ (8 * r).toNat by omega)]
    by_cases hz : p = 0
    · subst hz; simp
    · have : (p * 2 ^ (8 * r).toNat == 0) = false := by
        have h1 := Int.mul_le_mul_of_nonneg_right (show 1 ≤ p by omega) (show (0 : Int) ≤ 2 ^ (8 * r).toNat by omega)
        have : p * 2 ^ (8 * r).toNat ≠ 0 := by omega
        simpa using this
      rw [this]
      have : (p != 0) = true := by simpa using hz
      rw [this]; simp
  refine ⟨?_, ht, by unfold tvo; rw [hk]; rfl, hk⟩
  unfold tvo
  rw [ht, hv]
  by_cases hz : p = 0
  · subst hz; rw [hu]; simp
  · have : (p != 0) = true := by simpa using hz
    rw [this]; rfl

theorem targetEasy.walk (sz pt : Int) (hs : 0 ≤ sz) (hs' : sz ≤ 255) (hp : 0 ≤ pt) (_hp' : pt ≤ 4294967295) (w : World) :
    Calls Try.prog 10 #[.int .u8 sz, .int .u32 pt] w fun e w' => e = .returned (.bool true) ∧ Below w.heap.size w w' := by
  have hr0 : 0 ≤ sz % 29 := by omega
  have hr1 : sz % 29 < 29 := by omega
  have hp0 : 0 ≤ pt % 8388608 := by omega
  have hp1 : pt % 8388608 < 8388608 := by omega
  have t1 : sz.tmod 29 = sz % 29 := Int.tmod_eq_emod_of_nonneg hs
  have t2 : pt.tmod 8388608 = pt % 8388608 := Int.tmod_eq_emod_of_nonneg hp
  obtain ⟨v1, v2, v3, v4⟩ := easy_val (sz % 29) (pt % 8388608) hr0 hr1 hp0 hp1
  have o1 := or_u32 (3 + sz % 29) (pt % 8388608) (by omega) (by omega) hp0 (by omega)
  have o2 := or_sign (sz % 29) (pt % 8388608) hr0 hr1 hp0 hp1
  have k1 := tof_c ((3 + sz % 29) * 16777216 + pt % 8388608) (by omega) (by omega)
  have k2 := tof_c ((3 + sz % 29) * 16777216 + pt % 8388608 + 8388608) (by omega) (by omega)
  rw [v1, v2] at k1
  rw [v3, v4] at k2
  have kf := of_c (pt % 8388608) hp0 (by omega)
  have ku := up_c (pt % 8388608) (8 * (sz % 29)) (by omega)
  cases hz : (pt % 8388608 != 0)
  · rw [hz] at k1
    exact easy_false sz pt (sz % 29) (pt % 8388608) _ _ _ w hs hs' rfl t1 rfl t2 o1 o2 hz k1 k2 kf ku works3_c (eq_self _)
  · rw [hz] at k1
    exact easy_true sz pt (sz % 29) (pt % 8388608) _ _ _ w hs hs' rfl t1 rfl t2 o1 o2 hz k1 k2 kf ku works3_c (eq_self _)
end Go.Proofs.Ytefnlmiephombaa
