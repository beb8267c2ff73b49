/- The plain law of TargetShort; its walk. -/
import Derived.Test.YtefnlmiephombaaTk
import Derived.Test.YtefnlmiephombaaTm
namespace Go.Proofs.Ytefnlmiephombaa
open Go.RowKit Go.Sort

/-- the size byte of a number's bits, and their part -/
def zv (t : Int) : Int := bl t / 8 + 1
def pv (t : Int) : Int := if zv t < 3 then t * 2 ^ (8 * (3 - zv t)).toNat else t / 2 ^ (8 * (zv t - 3)).toNat
def kv (t : Int) : Nat := (8 * (zv t - 3)).toNat
/-- a number without its lowest bits -/
def trunc (t : Int) : Int := t / 2 ^ kv t * 2 ^ kv t

theorem bl_pos (t : Int) (h : 0 < t) : 1 ≤ bl t := by
  by_cases h1 : bl t ≤ 0
  · have := bl_lt t (by omega)
    rw [show (bl t).toNat = 0 by omega, Int.pow_zero] at this; omega
  · omega
theorem bl_lo (t : Int) (h : 0 < t) : 2 ^ (bl t - 1).toNat ≤ t := bl_ge t h _ (by have := bl_pos t h; omega)
theorem bl_hi (t : Int) (h0 : 0 ≤ t) (h1 : t < M) : bl t ≤ 256 := (bl_le_iff t h0 256).2 (by rw [← M_two]; exact h1)
theorem pv_bd (t : Int) (h0 : 0 < t) : 32768 ≤ pv t ∧ pv t ≤ 8388607 := by
  have l1 := bl_pos t h0
  have lo := bl_lo t h0
  have hi := bl_lt t (by omega)
  have e23 : (8388608 : Int) = 2 ^ 23 := rfl
  have e15 : (32768 : Int) = 2 ^ 15 := rfl
  have hi2 := pow_mono (show (bl t).toNat ≤ (8 * zv t - 1).toNat by unfold zv; omega)
  unfold pv
  split
  · next h =>
    have hz : zv t = 1 ∨ zv t = 2 := by unfold zv at h ⊢; omega
    rcases hz with hz | hz
    · rw [hz] at hi2 ⊢
      rw [show (8 * (3 - (1 : Int))).toNat = 16 by rfl]
      rw [show (8 * (1 : Int) - 1).toNat = 7 by rfl] at hi2
      have a : (2 : Int) ^ 16 = 65536 := rfl
      have b : (2 : Int) ^ 7 = 128 := rfl
      omega
    · have hlo2 := pow_mono (show 7 ≤ (bl t - 1).toNat by unfold zv at hz; omega)
      rw [hz] at hi2 ⊢
      rw [show (8 * (3 - (2 : Int))).toNat = 8 by rfl]
      rw [show (8 * (2 : Int) - 1).toNat = 15 by rfl] at hi2
      have a : (2 : Int) ^ 8 = 256 := rfl
      have b : (2 : Int) ^ 7 = 128 := rfl
      have c : (2 : Int) ^ 15 = 32768 := rfl
      omega
  · next h =>
    have hp := pow_pos' (8 * (zv t - 3)).toNat
    have hlo2 := pow_mono (show (8 * (zv t - 3)).toNat + 15 ≤ (bl t - 1).toNat by unfold zv at h ⊢; omega)
    rw [show (8 * zv t - 1).toNat = (8 * (zv t - 3)).toNat + 23 by omega, Int.pow_add] at hi2
    rw [Int.pow_add] at hlo2
    constructor
    · rw [e15]
      exact Int.le_ediv_of_mul_le hp (by rw [Int.mul_comm]; omega)
    · have := Int.ediv_lt_of_lt_mul hp (show t < 8388608 * 2 ^ (8 * (zv t - 3)).toNat by rw [e23, Int.mul_comm]; omega)
      omega
theorem cmp_z (t : Int) (h0 : 0 < t) : cmpv t = zv t * 16777216 + pv t := by
  obtain ⟨p0, p1⟩ := pv_bd t h0
  by_cases hr : bl t % 8 = 0
  · have hs : szv t = zv t - 1 := by unfold szv zv; omega
    have hh : hiv t / 256 = pv t := by
      unfold hiv pv
      rw [hs]
      by_cases h3 : zv t < 3
      · rw [if_pos (by omega), if_pos h3, show (8 * (3 - (zv t - 1))).toNat = (8 * (3 - zv t)).toNat + 8 by omega, Int.pow_add, ← Int.mul_assoc]
        exact Int.mul_ediv_cancel _ (by decide)
      · by_cases h4 : zv t = 3
        · rw [h4]
          rw [if_pos (by omega), if_neg (by omega), show (8 * (3 - ((3 : Int) - 1))).toNat = 8 by rfl, show (8 * ((3 : Int) - 3)).toNat = 0 by rfl, Int.pow_zero, Int.ediv_one]
          exact Int.mul_ediv_cancel _ (by decide)
        · rw [if_neg (by omega), if_neg h3, show (256 : Int) = 2 ^ 8 from rfl, Int.ediv_ediv_of_nonneg (Int.le_of_lt (pow_pos' _)), ← Int.pow_add, show (8 * (zv t - 1 - 3)).toNat + 8 = (8 * (zv t - 3)).toNat by omega]
    unfold cmpv
    rw [if_pos (by omega), hs, hh]; omega
  · have hs : szv t = zv t := by unfold szv zv; omega
    have hh : hiv t = pv t := by unfold hiv pv; rw [hs]
    unfold cmpv
    rw [hh, hs, if_neg (by omega)]
theorem kv_bd (t : Int) (h0 : 0 < t) : (kv t : Int) ≤ bl t - 1 ∧ (kv t : Int) ≤ max 0 (bl t - 15) := by
  have := bl_pos t h0
  unfold kv zv; omega
theorem trunc_le (t : Int) : trunc t ≤ t ∧ t - trunc t = t % 2 ^ kv t := by
  have hp := pow_pos' (kv t)
  have e := Int.mul_ediv_add_emod t (2 ^ kv t)
  have a := Int.emod_nonneg t (b := 2 ^ kv t) (by omega)
  unfold trunc
  rw [Int.mul_comm] at e
  omega
theorem trunc_ge (t : Int) (h0 : 0 < t) : 2 ^ (bl t - 1).toNat ≤ trunc t := by
  have lo := bl_lo t h0
  have hp := pow_pos' (kv t)
  have hk := (kv_bd t h0).1
  have e : (2 : Int) ^ (bl t - 1).toNat = 2 ^ ((bl t - 1).toNat - kv t) * 2 ^ kv t := by rw [← Int.pow_add]; congr 1; omega
  unfold trunc
  rw [e] at lo ⊢
  exact Int.mul_le_mul_of_nonneg_right (Int.le_ediv_of_mul_le hp lo) (by omega)
theorem trunc_pos (t : Int) (h0 : 0 < t) : 0 < trunc t := by
  have := trunc_ge t h0
  have := pow_pos' (bl t - 1).toNat
  omega
theorem bl_trunc (t : Int) (h0 : 0 < t) : bl (trunc t) = bl t := by
  have h1 := bl_pos t h0
  have hp := trunc_pos t h0
  have hlo := trunc_ge t h0
  have hle := (trunc_le t).1
  have a := (bl_le_iff (trunc t) (by omega) (bl t).toNat).2 (by have := bl_lt t (by omega); omega)
  have b : ¬ bl (trunc t) ≤ ((bl t - 1).toNat : Nat) := fun h => by
    have := (bl_le_iff (trunc t) (by omega) (bl t - 1).toNat).1 h
    omega
  omega
theorem cmp_trunc (t : Int) (h0 : 0 < t) : cmpv (trunc t) = cmpv t := by
  rw [cmp_z _ (trunc_pos t h0), cmp_z t h0]
  have hz : zv (trunc t) = zv t := by unfold zv; rw [bl_trunc t h0]
  have hp : pv (trunc t) = pv t := by
    unfold pv
    rw [hz]
    split
    · next h =>
      have : kv t = 0 := by unfold kv; omega
      unfold trunc; rw [this]; simp
    · have := pow_pos' (kv t)
      have e : (8 * (zv t - 3)).toNat = kv t := rfl
      rw [e]
      unfold trunc
      exact Int.mul_ediv_cancel _ (by omega)
  rw [hz, hp]
theorem of_cmp (t : Int) (h0 : 0 < t) (h1 : t < M) : tok (cmpv t) = true ∧ tvo (cmpv t) = trunc t := by
  obtain ⟨p0, p1⟩ := pv_bd t h0
  have hz1 : 1 ≤ zv t := by have := bl_pos t h0; unfold zv; omega
  rw [cmp_z t h0]
  have d1 : (zv t * 16777216 + pv t) / 16777216 = zv t := by omega
  have d2 : (zv t * 16777216 + pv t) % 8388608 = pv t := by omega
  have d3 : (zv t * 16777216 + pv t) / 8388608 % 2 = 0 := by omega
  have hM : (8388608 : Int) < M := by decide +kernel
  have htr := (trunc_le t).1
  have hpos := trunc_pos t h0
  have hv : tval (zv t * 16777216 + pv t) = trunc t := by
    unfold tval
    rw [d1, d2]
    by_cases h3 : zv t < 3
    · rw [if_pos h3]
      have e : downv (pv t) (8 * (3 - zv t)) = m (pv t) / 2 ^ (8 * (3 - zv t)).toNat := if_neg (by omega)
      have e2 : pv t = t * 2 ^ (8 * (3 - zv t)).toNat := if_pos h3
      have := pow_pos' (8 * (3 - zv t)).toNat
      have hk : kv t = 0 := by unfold kv; omega
      rw [e, m_of _ (by omega) (by omega), e2, Int.mul_ediv_cancel _ (by omega)]
      unfold trunc; rw [hk]; simp
    · rw [if_neg h3]
      have e2 : pv t = t / 2 ^ kv t := if_neg h3
      unfold upv
      split
      · next h => rw [e2]; unfold trunc; rw [show kv t = 0 by unfold kv; omega]; simp
      · rw [e2]; rfl
  have ht : tok (zv t * 16777216 + pv t) = true := by
    unfold tok
    rw [d1, d3, hv, m_of _ (by omega) (by omega), decide_eq_false (show ¬ M ≤ trunc t by omega), show (trunc t == 0) = false by simp; omega]
    simp
  exact ⟨ht, by unfold tvo; rw [ht, hv]; rfl⟩
theorem trunc_mono (t u : Int) (hu : 0 < u) (h : u < t) : trunc u ≤ trunc t := by
  have hbu := bl_lt u (by omega)
  have hbt := bl_lt t (by omega)
  by_cases e : bl u = bl t
  · have hk : kv u = kv t := by unfold kv zv; rw [e]
    have hp := pow_pos' (kv t)
    unfold trunc
    rw [hk]
    exact Int.mul_le_mul_of_nonneg_right (Int.ediv_le_ediv hp (by omega)) (by omega)
  · have hle : bl u ≤ bl t := by
      have := (bl_le_iff u (by omega) (bl t).toNat).2 (by omega)
      have := bl_nn t
      omega
    have h1 := (trunc_le u).1
    have h2 := trunc_ge t (by omega)
    have h3 := pow_mono (show (bl u).toNat ≤ (bl t - 1).toNat by have := bl_nn u; omega)
    omega
theorem cmpv_bd (t : Int) (h0 : 0 < t) (h1 : t < M) : 0 ≤ cmpv t ∧ cmpv t ≤ 4294967295 := by
  obtain ⟨p0, p1⟩ := pv_bd t h0
  have := bl_hi t (by omega) h1
  have := bl_nn t
  rw [cmp_z t h0]
  unfold zv; omega

theorem targetShort.walk (t u : Int) (ht : 0 ≤ t) (ht' : t < M) (hu : 0 ≤ u) (hu' : u < M) (w : World) :
    Calls Try.prog 11 #[big t, big u] w fun e w' => e = .returned (.bool true) ∧ Below w.heap.size w w' := by
  have n1 : ∀ w, (binOp .eql 24 (big t) (big 0)).run Try.prog w = .ok (.bool (t == 0)) w := fun w => by
    have := eq_run t 0 w
    rwa [m_of t ht ht', show m 0 = 0 from rfl] at this
  have n2 : ∀ w, (binOp .eql 24 (big u) (big 0)).run Try.prog w = .ok (.bool (u == 0)) w := fun w => by
    have := eq_run u 0 w
    rwa [m_of u hu hu', show m 0 = 0 from rfl] at this
  have kc0 : ∀ w, Calls Try.prog 39 #[big 0] w fun e w' => e = .returned (.int .u32 0) ∧ Below w.heap.size w w' := fun w => by
    have := tcompact_c 0 (by decide +kernel) (by decide +kernel) w
    rwa [show cmpv 0 = 0 by decide +kernel] at this
  by_cases hz : t = 0
  · rw [show (t == 0) = true by simpa using hz] at n1
    exact short_zt t u w n1 kc0 works3_c
  rw [show (t == 0) = false by simpa using hz] at n1
  by_cases hzu : u = 0
  · rw [show (u == 0) = true by simpa using hzu] at n2
    exact short_zu t u w n1 n2 kc0 works3_c
  rw [show (u == 0) = false by simpa using hzu] at n2
  have hp : 0 < t := by omega
  have hpu : 0 < u := by omega
  obtain ⟨s1, s2⟩ := trunc_le t
  have s0 := trunc_pos t hp
  obtain ⟨b0, b1⟩ := cmpv_bd t hp ht'
  obtain ⟨o1, o2⟩ := of_cmp t hp ht'
  have kct := tcompact_c t ht ht'
  have kof := tof_c (cmpv t) b0 b1
  rw [o1, o2] at kof
  have kls := fun w => less_c t (trunc t) w
  rw [m_of t ht ht', m_of (trunc t) (by omega) (by omega), decide_eq_false (by omega)] at kls
  have kcs := tcompact_c (trunc t) (by omega) (by omega)
  rw [cmp_trunc t hp] at kcs
  have ksb := sub_c t (trunc t)
  have kbd := bits_c (t - trunc t)
  rw [m_of (t - trunc t) (by omega) (by omega)] at kbd
  have kbt := bits_c t
  rw [m_of t ht ht'] at kbt
  have hld : bl (t - trunc t) ≤ max 0 (bl t - 15) := by
    have hk := (kv_bd t hp).2
    have hpk := pow_pos' (kv t)
    have := (bl_le_iff (t - trunc t) (by omega) (kv t)).2 (by rw [s2]; exact Int.emod_lt_of_pos _ hpk)
    omega
  have klu := fun w => less_c u t w
  rw [m_of t ht ht', m_of u hu hu'] at klu
  by_cases hlt : u < t
  · rw [decide_eq_true hlt] at klu
    obtain ⟨c0, c1⟩ := cmpv_bd u hpu hu'
    obtain ⟨q1, q2⟩ := of_cmp u hpu hu'
    have kou := tof_c (cmpv u) c0 c1
    rw [q1, q2] at kou
    have hm := trunc_mono t u hpu hlt
    have y0 := trunc_pos u hpu
    have y1 := (trunc_le u).1
    have kly := fun w => less_c (trunc t) (trunc u) w
    rw [m_of (trunc t) (by omega) (by omega), m_of (trunc u) (by omega) (by omega), decide_eq_false (by omega)] at kly
    exact short_less t u (trunc t) (t - trunc t) (cmpv t) (cmpv u) (trunc u) (bl t) (bl (t - trunc t)) _ w (bl_nn t) (bl_hi t ht ht') hld n1 n2 kct kof kls kcs ksb kbd kbt klu (tcompact_c u hu hu') kou kly works3_c
  · rw [decide_eq_false hlt] at klu
    exact short_more t u (trunc t) (t - trunc t) (cmpv t) (bl t) (bl (t - trunc t)) _ w (bl_nn t) (bl_hi t ht ht') hld n1 n2 kct kof kls kcs ksb kbd kbt klu works3_c
end Go.Proofs.Ytefnlmiephombaa
