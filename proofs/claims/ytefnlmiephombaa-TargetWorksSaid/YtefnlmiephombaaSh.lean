/- Plain numbers: words moved up and down; bit lengths. Of the kit only the model's bit operations and 'bitLen' stand in it. -/
import Derived.Test.YtefnlmiephombaaOps
import Derived.Lib.BitFns
import Derived.Laws.MathBits
namespace Go.Proofs.Ytefnlmiephombaa
open Go.RowKit

theorem wrap_lo (x : Int) : IntKind.u64.wrap x = lo x := by rw [IntKind.wrap_u64]; rfl

theorem bits_or_u64 (a b : Nat) (ha : a < 2 ^ 64) (hb : b < 2 ^ 64) : bits .or .u64 (a : Int) (b : Int) = ((a ||| b : Nat) : Int) := by
  have h : a ||| b < 2 ^ 64 := Nat.or_lt_two_pow ha hb
  have e1 : (BitVec.ofInt 64 (a : Int) ||| BitVec.ofInt 64 (b : Int)).toNat = (a ||| b) := by
    rw [BitVec.toNat_or]
    simp only [BitVec.toNat_ofInt]
    congr 1 <;> omega
  have e2 : bits .or .u64 (a : Int) (b : Int) = IntKind.u64.wrap ((BitVec.ofInt 64 (a : Int) ||| BitVec.ofInt 64 (b : Int)).toNat : Nat) := rfl
  rw [e2, e1, wrap_lo]; unfold lo; omega

theorem or_add (a b r : Nat) (hd : 2 ^ r ∣ a) (hb : b < 2 ^ r) (ha' : a < 2 ^ 64) (hb' : b < 2 ^ 64) : bits .or .u64 (a : Int) (b : Int) = ((a + b : Nat) : Int) := by
  rw [bits_or_u64 a b ha' hb']
  obtain ⟨c, rfl⟩ := hd
  rw [Nat.two_pow_add_eq_or_of_lt hb]

theorem pow_split (r : Nat) (h : r ≤ 64) : (2 : Nat) ^ r * 2 ^ (64 - r) = 18446744073709551616 := by
  rw [← Nat.pow_add, show r + (64 - r) = 64 by omega]

/-- the top r bits of a word, moved over its edge -/
theorem hi_shift (y r : Nat) (hr : r ≤ 64) : hi ((y * 2 ^ r : Nat) : Int) = ((y / 2 ^ (64 - r) : Nat) : Int) := by
  have e := pow_split r hr
  have e2 : y * 2 ^ r / 18446744073709551616 = y / 2 ^ (64 - r) := by
    rw [← e, Nat.mul_comm y, Nat.mul_div_mul_left _ _ (Nat.two_pow_pos r)]
  unfold hi; omega

theorem hi_add_small (y r c : Nat) (hr : r ≤ 64) (hc : c < 2 ^ r) : hi ((y * 2 ^ r + c : Nat) : Int) = hi ((y * 2 ^ r : Nat) : Int) := by
  rw [hi_shift y r hr]
  have e := pow_split r hr
  have e2 : (y * 2 ^ r + c) / 18446744073709551616 = y / 2 ^ (64 - r) := by
    rw [← e, ← Nat.div_div_eq_div_mul, Nat.mul_comm y, Nat.mul_add_div (Nat.two_pow_pos r), Nat.div_eq_of_lt hc, Nat.add_zero]
  unfold hi; omega

theorem top_lt (y r : Nat) (hy : y < 18446744073709551616) (hr : r ≤ 64) : y / 2 ^ (64 - r) < 2 ^ r := by
  apply Nat.div_lt_of_lt_mul
  rw [Nat.mul_comm, pow_split r hr]; exact hy

/-- one word of 'Up' -/
theorem up_word (x y r : Nat) (hy : y < 18446744073709551616) (hr : r < 64) :
    bits .or .u64 (IntKind.u64.wrap ((x : Int) * 2 ^ r)) ((y : Int) / 2 / 2 ^ (63 - (r : Int)).toNat) = lo ((x : Int) * 2 ^ r + hi ((y : Int) * 2 ^ r)) := by
  have e0 : (63 - (r : Int)).toNat = 63 - r := by omega
  have e1 : (x : Int) * 2 ^ r = ((x * 2 ^ r : Nat) : Int) := by simp
  have e1' : (y : Int) * 2 ^ r = ((y * 2 ^ r : Nat) : Int) := by simp
  have e2 : (y : Int) / 2 / 2 ^ (63 - r) = ((y / 2 ^ (64 - r) : Nat) : Int) := by
    have : y / 2 / 2 ^ (63 - r) = y / 2 ^ (64 - r) := by
      rw [Nat.div_div_eq_div_mul, show (64 - r) = (63 - r) + 1 by omega, Nat.pow_succ, Nat.mul_comm 2]
    rw [← this]; simp
  have e3 : lo ((x * 2 ^ r : Nat) : Int) = ((x * 2 ^ r % 18446744073709551616 : Nat) : Int) := by unfold lo; omega
  rw [e0, e1, e1', e2, hi_shift y r (by omega), wrap_lo, e3]
  have hd : 2 ^ r ∣ x * 2 ^ r % 18446744073709551616 := (Nat.dvd_mod_iff (show 2 ^ r ∣ 18446744073709551616 from ⟨2 ^ (64 - r), (pow_split r (by omega)).symm⟩)).2 (Nat.dvd_mul_left _ _)
  have hl := top_lt y r hy (by omega)
  have hp : 2 ^ r ≤ 2 ^ 63 := Nat.pow_le_pow_right (by omega) (by omega)
  rw [or_add _ _ r hd hl (by omega) (by omega)]
  obtain ⟨c, hc⟩ := hd
  have e := pow_split r (by omega)
  have hlt : x * 2 ^ r % 18446744073709551616 < 18446744073709551616 := Nat.mod_lt _ (by omega)
  have hsum : x * 2 ^ r % 18446744073709551616 + y / 2 ^ (64 - r) < 18446744073709551616 := by
    rw [hc, ← e] at hlt
    have hcl : c < 2 ^ (64 - r) := Nat.lt_of_mul_lt_mul_left hlt
    rw [hc]
    have : 2 ^ r * c + 2 ^ r ≤ 2 ^ r * 2 ^ (64 - r) := by
      rw [← Nat.mul_succ]; exact Nat.mul_le_mul_left _ hcl
    generalize y / 2 ^ (64 - r) = q at *
    omega
  clear hc hl e
  generalize y / 2 ^ (64 - r) = q at *
  generalize x * 2 ^ r = p at *
  unfold lo; omega

theorem up_word0 (x r : Nat) : IntKind.u64.wrap ((x : Int) * 2 ^ r) = lo ((x : Int) * 2 ^ r) := wrap_lo _

/-- the words of x * 2^r, r below 64 -/
theorem up_words (x : Int) (r : Nat) (hr : r < 64) :
    lo (L0 x * 2 ^ r) = L0 (x * 2 ^ r) ∧ lo (L1 x * 2 ^ r + hi (L0 x * 2 ^ r)) = L1 (x * 2 ^ r) ∧
    lo (L2 x * 2 ^ r + hi (L1 x * 2 ^ r)) = L2 (x * 2 ^ r) ∧ lo (L3 x * 2 ^ r + hi (L2 x * 2 ^ r)) = L3 (x * 2 ^ r) := by
  obtain ⟨a0, a1, a2, a3, _⟩ := mul_words x (2 ^ r)
  have key : ∀ u v : Int, 0 ≤ u → u ≤ 18446744073709551615 → 0 ≤ v → v < 2 ^ r → hi (u * 2 ^ r + v) = hi (u * 2 ^ r) := by
    intro u v hu _ hv hv'
    obtain ⟨u, rfl⟩ := Int.eq_ofNat_of_zero_le hu
    obtain ⟨v, rfl⟩ := Int.eq_ofNat_of_zero_le hv
    have := hi_add_small u r v (by omega) (by exact_mod_cast hv')
    simpa using this
  have small : ∀ u : Int, 0 ≤ u → u ≤ 18446744073709551615 → 0 ≤ hi (u * 2 ^ r) ∧ hi (u * 2 ^ r) < 2 ^ r := by
    intro u hu hu'
    obtain ⟨u, rfl⟩ := Int.eq_ofNat_of_zero_le hu
    have h1 := hi_shift u r (by omega)
    have h2 := top_lt u r (by omega) (by omega)
    have e : ((u * 2 ^ r : Nat) : Int) = (u : Int) * 2 ^ r := by simp
    rw [← e, h1]
    exact ⟨Int.natCast_nonneg _, by exact_mod_cast h2⟩
  obtain ⟨s0, s0'⟩ := small _ (L0_nn x) (L0_le x)
  obtain ⟨s1, s1'⟩ := small _ (L1_nn x) (L1_le x)
  rw [key _ _ (L1_nn x) (L1_le x) s0 s0'] at a2 a3
  rw [key _ _ (L2_nn x) (L2_le x) s1 s1'] at a3
  exact ⟨a0, a1, a2, a3⟩

/-- one word up -/
theorem word_up (v : Int) : L0 (v * 18446744073709551616) = 0 ∧ L1 (v * 18446744073709551616) = L0 v ∧ L2 (v * 18446744073709551616) = L1 v ∧ L3 (v * 18446744073709551616) = L2 v := by
  have h0 : lo (v * 18446744073709551616) = 0 := by unfold lo; omega
  have h1 : hi (v * 18446744073709551616) = v := by unfold hi; omega
  unfold L0 L1 L2 L3
  rw [h0, h1]
  exact ⟨rfl, rfl, rfl, rfl⟩

/-- one word of 'Down' -/
theorem down_word (x y r : Nat) (hx : x < 18446744073709551616) (_hy : y < 18446744073709551616) (hr : r < 64) :
    bits .or .u64 ((x : Int) / 2 ^ r) (IntKind.u64.wrap (IntKind.u64.wrap ((y : Int) * 2) * 2 ^ (63 - (r : Int)).toNat)) = lo (((x + 18446744073709551616 * y : Nat) : Int) / 2 ^ r) := by
  have e0 : (63 - (r : Int)).toNat = 63 - r := by omega
  have e := pow_split r (by omega)
  have e1 : (x : Int) / 2 ^ r = ((x / 2 ^ r : Nat) : Int) := by simp
  have e2 : IntKind.u64.wrap (IntKind.u64.wrap ((y : Int) * 2) * 2 ^ (63 - r)) = ((y * 2 ^ (64 - r) % 18446744073709551616 : Nat) : Int) := by
    rw [wrap_lo, wrap_lo]
    have h1 : lo ((y : Int) * 2) = ((y * 2 % 18446744073709551616 : Nat) : Int) := by unfold lo; omega
    have h2 : ((y * 2 % 18446744073709551616 : Nat) : Int) * 2 ^ (63 - r) = ((y * 2 % 18446744073709551616 * 2 ^ (63 - r) : Nat) : Int) := by simp
    rw [h1, h2]
    have h3 : y * 2 ^ (64 - r) % 18446744073709551616 = y * 2 % 18446744073709551616 * 2 ^ (63 - r) % 18446744073709551616 := by
      rw [show 64 - r = (63 - r) + 1 by omega, Nat.pow_succ, Nat.mul_comm (2 ^ (63 - r)) 2, ← Nat.mul_assoc, Nat.mod_mul_mod]
    rw [h3]; unfold lo; omega
  have e3 : ((x + 18446744073709551616 * y : Nat) : Int) / 2 ^ r = ((x / 2 ^ r + y * 2 ^ (64 - r) : Nat) : Int) := by
    have : (x + 18446744073709551616 * y) / 2 ^ r = x / 2 ^ r + y * 2 ^ (64 - r) := by
      rw [← e, show 2 ^ r * 2 ^ (64 - r) * y = 2 ^ r * (y * 2 ^ (64 - r)) by rw [Nat.mul_assoc, Nat.mul_comm y], Nat.add_mul_div_left _ _ (Nat.two_pow_pos r)]
    rw [← this]; simp
  rw [e0, e1, e2, e3]
  have hd : 2 ^ (64 - r) ∣ y * 2 ^ (64 - r) % 18446744073709551616 := (Nat.dvd_mod_iff (show 2 ^ (64 - r) ∣ 18446744073709551616 from ⟨2 ^ r, by rw [Nat.mul_comm]; exact e.symm⟩)).2 (Nat.dvd_mul_left _ _)
  have hl : x / 2 ^ r < 2 ^ (64 - r) := by
    apply Nat.div_lt_of_lt_mul; rw [e]; exact hx
  have hp : x / 2 ^ r ≤ x := Nat.div_le_self _ _
  have hm : y * 2 ^ (64 - r) % 18446744073709551616 < 18446744073709551616 := Nat.mod_lt _ (by omega)
  have hor : bits .or .u64 ((x / 2 ^ r : Nat) : Int) ((y * 2 ^ (64 - r) % 18446744073709551616 : Nat) : Int) = ((y * 2 ^ (64 - r) % 18446744073709551616 + x / 2 ^ r : Nat) : Int) := by
    rw [← or_add _ _ (64 - r) hd hl (by omega) (by omega), bits_or_u64 _ _ (by omega) (by omega), bits_or_u64 _ _ (by omega) (by omega), Nat.or_comm]
  rw [hor]
  obtain ⟨c, hc⟩ := hd
  have hsum : y * 2 ^ (64 - r) % 18446744073709551616 + x / 2 ^ r < 18446744073709551616 := by
    rw [hc] at hm ⊢
    have e' : 2 ^ (64 - r) * 2 ^ r = 18446744073709551616 := by rw [Nat.mul_comm]; exact e
    rw [← e'] at hm
    have hcl : c < 2 ^ r := Nat.lt_of_mul_lt_mul_left hm
    have : 2 ^ (64 - r) * c + 2 ^ (64 - r) ≤ 2 ^ (64 - r) * 2 ^ r := by
      rw [← Nat.mul_succ]; exact Nat.mul_le_mul_left _ hcl
    generalize x / 2 ^ r = q at *
    omega
  clear hc hl hp e hor
  generalize x / 2 ^ r = q at *
  generalize y * 2 ^ (64 - r) = p at *
  unfold lo; omega

/-- the words of x / 2^r, r below 64 -/
theorem hi_div (x : Int) (r : Nat) : hi (x / 2 ^ r) = hi x / 2 ^ r := by
  have h2 : (0 : Int) ≤ 2 ^ r := Int.le_of_lt (Int.pow_pos (by omega))
  unfold hi
  rw [Int.ediv_ediv_of_nonneg h2, Int.ediv_ediv_of_nonneg (by omega), Int.mul_comm]

theorem lo_div (x y : Int) (r : Nat) (h : hi x = y) (hy : 0 ≤ y) (hr : r < 64) :
    bits .or .u64 (lo x / 2 ^ r) (IntKind.u64.wrap (IntKind.u64.wrap (lo y * 2) * 2 ^ (63 - (r : Int)).toNat)) = lo (x / 2 ^ r) := by
  have hx := lohi x
  rw [h] at hx
  have h0 := lo_nn x
  have h0' := lo_lt x
  have h1 := lo_nn y
  have h1' := lo_lt y
  have hy2 := lohi y
  have hz : 0 ≤ hi y := by unfold hi; omega
  generalize hi y = z at *
  generalize lo x = a at *
  generalize lo y = b at *
  obtain ⟨a, rfl⟩ := Int.eq_ofNat_of_zero_le h0
  obtain ⟨b, rfl⟩ := Int.eq_ofNat_of_zero_le h1
  obtain ⟨z, rfl⟩ := Int.eq_ofNat_of_zero_le hz
  rw [down_word a b r (by omega) (by omega) hr]
  have e : x = ((a + 18446744073709551616 * b + 18446744073709551616 * (18446744073709551616 * z) : Nat) : Int) := by omega
  rw [e]
  have e1 : ((a + 18446744073709551616 * b : Nat) : Int) / 2 ^ r = (((a + 18446744073709551616 * b) / 2 ^ r : Nat) : Int) := by simp
  have e2 : ((a + 18446744073709551616 * b + 18446744073709551616 * (18446744073709551616 * z) : Nat) : Int) / 2 ^ r = (((a + 18446744073709551616 * b + 18446744073709551616 * (18446744073709551616 * z)) / 2 ^ r : Nat) : Int) := by simp
  have ep := pow_split r (by omega)
  have e3 : (a + 18446744073709551616 * b + 18446744073709551616 * (18446744073709551616 * z)) / 2 ^ r = (a + 18446744073709551616 * b) / 2 ^ r + 18446744073709551616 * (2 ^ (64 - r) * z) := by
    have : 18446744073709551616 * (18446744073709551616 * z) = 2 ^ r * (18446744073709551616 * (2 ^ (64 - r) * z)) := by
      conv => lhs; arg 1; rw [← ep]
      rw [Nat.mul_assoc, Nat.mul_left_comm (2 ^ (64 - r))]
    rw [this, Nat.add_mul_div_left _ _ (Nat.two_pow_pos r)]
  rw [e1, e2, e3]
  generalize (a + 18446744073709551616 * b) / 2 ^ r = p
  generalize 2 ^ (64 - r) * z = q
  unfold lo; omega

/-- the words of m x / 2^r -/
theorem down_words (x : Int) (hx : 0 ≤ x) (hx' : x < M) (r : Nat) (hr : r < 64) :
    bits .or .u64 (L0 x / 2 ^ r) (IntKind.u64.wrap (IntKind.u64.wrap (L1 x * 2) * 2 ^ (63 - (r : Int)).toNat)) = L0 (x / 2 ^ r) ∧
    bits .or .u64 (L1 x / 2 ^ r) (IntKind.u64.wrap (IntKind.u64.wrap (L2 x * 2) * 2 ^ (63 - (r : Int)).toNat)) = L1 (x / 2 ^ r) ∧
    bits .or .u64 (L2 x / 2 ^ r) (IntKind.u64.wrap (IntKind.u64.wrap (L3 x * 2) * 2 ^ (63 - (r : Int)).toNat)) = L2 (x / 2 ^ r) ∧
    L3 x / 2 ^ r = L3 (x / 2 ^ r) := by
  have n1 : 0 ≤ hi x := by unfold hi; omega
  have n2 : 0 ≤ hi (hi x) := by unfold hi at *; omega
  have n3 : 0 ≤ hi (hi (hi x)) := by unfold hi at *; omega
  have t : hi (hi (hi x)) ≤ 18446744073709551615 := by unfold hi M at *; omega
  unfold L0 L1 L2 L3
  rw [hi_div, hi_div, hi_div]
  refine ⟨lo_div _ _ r rfl n1 hr, lo_div _ _ r rfl n2 hr, lo_div _ _ r rfl n3 hr, ?_⟩
  have e : lo (hi (hi (hi x))) = hi (hi (hi x)) := by unfold lo; omega
  rw [e]
  obtain ⟨z, hz⟩ := Int.eq_ofNat_of_zero_le n3
  rw [hz]
  have : (z : Int) / 2 ^ r = ((z / 2 ^ r : Nat) : Int) := by simp
  have h2 := Nat.div_le_self z (2 ^ r)
  rw [this]; generalize z / 2 ^ r = p at *
  unfold lo; omega

/-- one word down -/
theorem word_down (v : Int) : L0 (hi v) = L1 v ∧ L1 (hi v) = L2 v ∧ L2 (hi v) = L3 v := ⟨rfl, rfl, rfl⟩

/-- how many bits a number has -/
def bl (v : Int) : Int := (Go.bitLen v.toNat : Nat)

theorem bitLenAux_eq : ∀ (f x : Nat), x < 2 ^ f → Lib.bitLenAux f x = Go.bitLen x := by
  intro f
  induction f with
  | zero => intro x h; have : x = 0 := by omega
            subst this; rfl
  | succ f ih =>
    intro x h
    simp only [Lib.bitLenAux]
    by_cases h0 : x = 0
    · subst h0; rfl
    · rw [if_neg h0, ih (x / 2) (by rw [Nat.pow_succ] at h; omega)]
      unfold Go.bitLen
      rw [if_neg h0]
      by_cases h1 : x = 1
      · subst h1; rfl
      · rw [if_neg (by omega)]
        have := Nat.log2_def x
        rw [if_pos (by omega)] at this
        omega
theorem bl_word (x : Int) (_h : 0 ≤ x) (h' : x ≤ 18446744073709551615) : ((Lib.bitLen x.toNat : Nat) : Int) = bl x := by
  unfold bl Lib.bitLen; rw [bitLenAux_eq 64 x.toNat (by omega)]

theorem bl_nn (v : Int) : 0 ≤ bl v := by unfold bl; omega
theorem bl_zero : bl 0 = 0 := rfl
theorem bl_le_iff (v : Int) (hv : 0 ≤ v) (k : Nat) : bl v ≤ k ↔ v < 2 ^ k := by
  obtain ⟨n, rfl⟩ := Int.eq_ofNat_of_zero_le hv
  unfold bl Go.bitLen
  simp only [Int.toNat_natCast]
  by_cases h0 : n = 0
  · subst h0; simp; exact Int.pow_pos (by omega)
  · rw [if_neg h0]
    have := Nat.log2_lt (n := n) (k := k) h0
    have e : ((n : Int) < 2 ^ k) ↔ n < 2 ^ k := by exact_mod_cast Iff.rfl
    rw [e, ← this]; omega

theorem bl_up (a v : Int) (k : Nat) (ha : 0 ≤ a) (ha' : a < 2 ^ k) (hv : 0 < v) : bl (a + 2 ^ k * v) = k + bl v := by
  obtain ⟨n, rfl⟩ := Int.eq_ofNat_of_zero_le (Int.le_of_lt hv)
  obtain ⟨a, rfl⟩ := Int.eq_ofNat_of_zero_le ha
  have e : ((a : Int) + 2 ^ k * (n : Int)) = ((a + 2 ^ k * n : Nat) : Int) := by simp
  have e2 : (a + 2 ^ k * n) / 2 ^ k = n := by
    rw [Nat.add_mul_div_left _ _ (Nat.two_pow_pos k), Nat.div_eq_of_lt (by exact_mod_cast ha'), Nat.zero_add]
  rw [e]
  unfold bl
  simp only [Int.toNat_natCast]
  rw [Go.bitLen_shift (a + 2 ^ k * n) k (by rw [e2]; omega), e2]
  omega

/-- the length by the words -/
def nb (a0 a1 a2 a3 : Int) : Nat → Int
  | 0 => 0
  | 1 => if a0 = 0 then 0 else bl a0
  | 2 => if a1 = 0 then (if a0 = 0 then 0 else bl a0) else 64 + bl a1
  | 3 => if a2 = 0 then (if a1 = 0 then (if a0 = 0 then 0 else bl a0) else 64 + bl a1) else 128 + bl a2
  | _ => if a3 = 0 then (if a2 = 0 then (if a1 = 0 then (if a0 = 0 then 0 else bl a0) else 64 + bl a1) else 128 + bl a2) else 192 + bl a3

theorem nb_eq (x : Int) : nb (L0 x) (L1 x) (L2 x) (L3 x) 4 = bl (m x) := by
  have h0 := L0_nn x; have h1 := L1_nn x; have h2 := L2_nn x; have h3 := L3_nn x
  have g0 := L0_le x; have g1 := L1_le x; have g2 := L2_le x
  rw [m_split]
  unfold nb
  generalize L0 x = a at *; generalize L1 x = b at *; generalize L2 x = c at *; generalize L3 x = d at *
  by_cases hd : d = 0
  · subst hd
    by_cases hc : c = 0
    · subst hc
      by_cases hb : b = 0
      · subst hb
        by_cases ha : a = 0
        · subst ha; simp [bl_zero]
        · simp [ha]
      · have := bl_up a b 64 h0 (by omega) (by omega)
        simp only [if_true, hb, if_false]
        rw [show a + 18446744073709551616 * (b + 18446744073709551616 * (0 + 18446744073709551616 * 0)) = a + 2 ^ 64 * b by omega, this]; rfl
    · have := bl_up (a + 18446744073709551616 * b) c 128 (by omega) (by omega) (by omega)
      simp only [if_true, hc, if_false]
      rw [show a + 18446744073709551616 * (b + 18446744073709551616 * (c + 18446744073709551616 * 0)) = a + 18446744073709551616 * b + 2 ^ 128 * c by omega, this]; rfl
  · have := bl_up (a + 18446744073709551616 * (b + 18446744073709551616 * c)) d 192 (by omega) (by omega) (by omega)
    simp only [hd, if_false]
    rw [show a + 18446744073709551616 * (b + 18446744073709551616 * (c + 18446744073709551616 * d)) = a + 18446744073709551616 * (b + 18446744073709551616 * c) + 2 ^ 192 * d by omega, this]; rfl

theorem bl_m_le (x : Int) : bl (m x) ≤ 256 := by
  have := (bl_le_iff (m x) (m_nn x) 256).2 (m_lt x)
  exact this
end Go.Proofs.Ytefnlmiephombaa
