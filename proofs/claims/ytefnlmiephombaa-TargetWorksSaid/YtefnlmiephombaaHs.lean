/- Plain numbers: a number of 256 bits as 32 bytes, the lowest first. -/
import Derived.Test.YtefnlmiephombaaSh
namespace Go.Proofs.Ytefnlmiephombaa

def ofBytes : List Int → Int
  | [] => 0
  | b :: l => b + 256 * ofBytes l

def Bytes (l : List Int) : Prop := ∀ b ∈ l, 0 ≤ b ∧ b ≤ 255

theorem ofBytes_snoc (l : List Int) (b : Int) : ofBytes (l ++ [b]) = ofBytes l + b * 256 ^ l.length := by
  induction l with
  | nil => simp [ofBytes]
  | cons a l ih =>
    simp only [List.cons_append, ofBytes, ih, List.length_cons, Int.pow_succ, Int.mul_add, Int.add_assoc]
    congr 2
    rw [Int.mul_comm (256 ^ l.length) 256, Int.mul_left_comm]

theorem ofBytes_bd (l : List Int) (h : Bytes l) : 0 ≤ ofBytes l ∧ ofBytes l < 256 ^ l.length := by
  induction l with
  | nil => simp [ofBytes]
  | cons a l ih =>
    have ⟨h1, h2⟩ := h a (by simp)
    have ⟨h3, h4⟩ := ih fun b hb => h b (by simp [hb])
    simp only [ofBytes, List.length_cons, Int.pow_succ]
    omega

theorem bytes_take (l : List Int) (h : Bytes l) (k : Nat) : Bytes (l.take k) := fun b hb => h b (List.mem_of_mem_take hb)

theorem addlimb0 (v t : Int) (h0 : 0 ≤ v) (h1 : v < M) (ht : 0 ≤ t) (hs : L0 v + t ≤ 18446744073709551615) : L0 (v + t) = L0 v + t ∧ L1 (v + t) = L1 v ∧ L2 (v + t) = L2 v ∧ L3 (v + t) = L3 v := by
  have e := m_split v
  rw [m_of v h0 h1] at e
  rw [show v + t = L0 v + t + 18446744073709551616 * (L1 v + 18446744073709551616 * (L2 v + 18446744073709551616 * L3 v)) by omega]
  exact limbs_of _ _ _ _ (by have := L0_nn v; omega) hs (L1_nn v) (L1_le v) (L2_nn v) (L2_le v) (L3_nn v) (L3_le v)
theorem addlimb1 (v t : Int) (h0 : 0 ≤ v) (h1 : v < M) (ht : 0 ≤ t) (hs : L1 v + t ≤ 18446744073709551615) : L0 (v + 18446744073709551616 * t) = L0 v ∧ L1 (v + 18446744073709551616 * t) = L1 v + t ∧ L2 (v + 18446744073709551616 * t) = L2 v ∧ L3 (v + 18446744073709551616 * t) = L3 v := by
  have e := m_split v
  rw [m_of v h0 h1] at e
  rw [show v + 18446744073709551616 * t = L0 v + 18446744073709551616 * (L1 v + t + 18446744073709551616 * (L2 v + 18446744073709551616 * L3 v)) by omega]
  exact limbs_of _ _ _ _ (L0_nn v) (L0_le v) (by have := L1_nn v; omega) hs (L2_nn v) (L2_le v) (L3_nn v) (L3_le v)
theorem addlimb2 (v t : Int) (h0 : 0 ≤ v) (h1 : v < M) (ht : 0 ≤ t) (hs : L2 v + t ≤ 18446744073709551615) : L0 (v + 18446744073709551616 * (18446744073709551616 * t)) = L0 v ∧ L1 (v + 18446744073709551616 * (18446744073709551616 * t)) = L1 v ∧ L2 (v + 18446744073709551616 * (18446744073709551616 * t)) = L2 v + t ∧ L3 (v + 18446744073709551616 * (18446744073709551616 * t)) = L3 v := by
  have e := m_split v
  rw [m_of v h0 h1] at e
  rw [show v + 18446744073709551616 * (18446744073709551616 * t) = L0 v + 18446744073709551616 * (L1 v + 18446744073709551616 * (L2 v + t + 18446744073709551616 * L3 v)) by omega]
  exact limbs_of _ _ _ _ (L0_nn v) (L0_le v) (L1_nn v) (L1_le v) (by have := L2_nn v; omega) hs (L3_nn v) (L3_le v)
theorem addlimb3 (v t : Int) (h0 : 0 ≤ v) (h1 : v < M) (ht : 0 ≤ t) (hs : L3 v + t ≤ 18446744073709551615) : L0 (v + 18446744073709551616 * (18446744073709551616 * (18446744073709551616 * t))) = L0 v ∧ L1 (v + 18446744073709551616 * (18446744073709551616 * (18446744073709551616 * t))) = L1 v ∧ L2 (v + 18446744073709551616 * (18446744073709551616 * (18446744073709551616 * t))) = L2 v ∧ L3 (v + 18446744073709551616 * (18446744073709551616 * (18446744073709551616 * t))) = L3 v + t := by
  have e := m_split v
  rw [m_of v h0 h1] at e
  rw [show v + 18446744073709551616 * (18446744073709551616 * (18446744073709551616 * t)) = L0 v + 18446744073709551616 * (L1 v + 18446744073709551616 * (L2 v + 18446744073709551616 * (L3 v + t))) by omega]
  exact limbs_of _ _ _ _ (L0_nn v) (L0_le v) (L1_nn v) (L1_le v) (L2_nn v) (L2_le v) (by have := L3_nn v; omega) hs

theorem limb_lt (v : Int) (h0 : 0 ≤ v) (h1 : v < M) (u : Int) :
    (v < u → L0 v < u) ∧ (v < 18446744073709551616 * u → L1 v < u) ∧ (v < 18446744073709551616 * (18446744073709551616 * u) → L2 v < u) ∧ (v < 18446744073709551616 * (18446744073709551616 * (18446744073709551616 * u)) → L3 v < u) := by
  have e := m_split v
  rw [m_of v h0 h1] at e
  have := L0_nn v; have := L1_nn v; have := L2_nn v; have := L3_nn v
  refine ⟨?_, ?_, ?_, ?_⟩ <;> intro h <;> omega

/-- a byte put into a word where nothing stands yet -/
theorem or_byte (a b : Int) (r : Nat) (hr : r < 8) (ha : 0 ≤ a) (ha' : a < 256 ^ r) (hb : 0 ≤ b) (hb' : b ≤ 255) :
    bits .or .u64 a (IntKind.u64.wrap (b * 2 ^ (8 * r))) = a + b * 256 ^ r ∧ 0 ≤ b * 256 ^ r ∧ a + b * 256 ^ r ≤ 18446744073709551615 := by
  obtain ⟨a, rfl⟩ := Int.eq_ofNat_of_zero_le ha
  obtain ⟨b, rfl⟩ := Int.eq_ofNat_of_zero_le hb
  have e1 : (2 : Nat) ^ (8 * r) = 256 ^ r := by rw [Nat.pow_mul]
  have ha2 : a < 2 ^ (8 * r) := by rw [e1]; exact Int.ofNat_lt.1 (by rw [Int.natCast_pow]; exact ha')
  have hb2 : b * 2 ^ (8 * r) + 2 ^ (8 * r) ≤ 256 * 2 ^ (8 * r) := by
    have := Nat.mul_le_mul_right (2 ^ (8 * r)) (show b + 1 ≤ 256 by omega)
    rw [Nat.add_mul] at this; omega
  have hp : 256 * 2 ^ (8 * r) ≤ 18446744073709551616 := by
    have := Nat.pow_le_pow_right (show 0 < 2 by omega) (show 8 + 8 * r ≤ 64 by omega)
    rw [Nat.pow_add] at this; omega
  have e2 : ((b : Int) * 2 ^ (8 * r)) = ((b * 2 ^ (8 * r) : Nat) : Int) := by rw [Int.natCast_mul, Int.natCast_pow]; rfl
  have e3 : ((b : Int) * 256 ^ r) = ((b * 2 ^ (8 * r) : Nat) : Int) := by rw [e1, Int.natCast_mul, Int.natCast_pow]; rfl
  have hd : 2 ^ (8 * r) ∣ b * 2 ^ (8 * r) := Nat.dvd_mul_left _ _
  rw [e2, e3, wrap_lo]
  have e4 : lo ((b * 2 ^ (8 * r) : Nat) : Int) = ((b * 2 ^ (8 * r) : Nat) : Int) := by
    generalize b * 2 ^ (8 * r) = z at *
    unfold lo; omega
  rw [e4]
  have h1 : b * 2 ^ (8 * r) < 2 ^ 64 := by generalize b * 2 ^ (8 * r) = z at *; omega
  have h2 : a < 2 ^ 64 := by generalize 2 ^ (8 * r) = z at *; omega
  have e5 := or_add _ _ _ hd ha2 h1 h2
  rw [bits_or_u64 _ _ h1 h2] at e5
  rw [bits_or_u64 _ _ h2 h1, Nat.or_comm, e5]
  generalize b * 2 ^ (8 * r) = z at *
  generalize 2 ^ (8 * r) = y at *
  omega

/-- byte j of a number -/
def byteAt (v : Int) (j : Nat) : Int := v / 256 ^ j % 256
def toBytes (v : Int) : List Int := (List.range 32).map (byteAt v)

theorem pow256 (r : Nat) (hr : r < 8) : (256 : Int) ^ r * 256 ^ (8 - r) = 18446744073709551616 := by
  rw [← Int.pow_add, show r + (8 - r) = 8 by omega]; rfl

theorem lo_byte (x : Int) (r : Nat) (hr : r < 8) : lo x / 256 ^ r % 256 = x / 256 ^ r % 256 := by
  have hp : (0 : Int) < 256 ^ r := Int.pow_pos (by omega)
  have e := pow256 r hr
  have e2 : (256 : Int) ^ (8 - r) = 256 * 256 ^ (7 - r) := by rw [show 8 - r = (7 - r) + 1 by omega, Int.pow_succ, Int.mul_comm]
  have h : x / 256 ^ r = lo x / 256 ^ r + 256 * (256 ^ (7 - r) * hi x) := by
    have : x = lo x + 256 ^ r * (256 ^ (8 - r) * hi x) := by
      rw [← Int.mul_assoc, e]; exact lohi x
    conv => lhs; rw [this]
    rw [Int.add_mul_ediv_left _ _ (by omega), e2, Int.mul_assoc]
  rw [h]; omega

theorem byte_words (v : Int) (r : Nat) (hr : r < 8) :
    L0 v / 256 ^ r % 256 = byteAt v r ∧ L1 v / 256 ^ r % 256 = byteAt v (8 + r) ∧ L2 v / 256 ^ r % 256 = byteAt v (16 + r) ∧ L3 v / 256 ^ r % 256 = byteAt v (24 + r) := by
  have hs : ∀ (x : Int) (j : Nat), hi x / 256 ^ j = x / 256 ^ (8 + j) := by
    intro x j
    rw [Int.pow_add, ← Int.ediv_ediv_of_nonneg (by decide)]; rfl
  unfold L0 L1 L2 L3 byteAt
  rw [lo_byte _ _ hr, lo_byte _ _ hr, lo_byte _ _ hr, lo_byte _ _ hr, hs, hs, hs, hs, hs, hs]
  refine ⟨rfl, rfl, ?_, ?_⟩
  · rw [show 8 + (8 + r) = 16 + r by omega]
  · rw [show 8 + (8 + (8 + r)) = 24 + r by omega]

theorem byteAt_bd (v : Int) (j : Nat) : 0 ≤ byteAt v j ∧ byteAt v j ≤ 255 := by unfold byteAt; omega
theorem toBytes_bytes (v : Int) : Bytes (toBytes v) := by
  intro b hb
  obtain ⟨j, _, rfl⟩ := List.mem_map.1 hb
  exact byteAt_bd v j
theorem toBytes_length (v : Int) : (toBytes v).length = 32 := by simp [toBytes]

/-- the first k bytes of a number, then zeros -/
def rowAt (v : Int) (k : Nat) : List Int := (List.range 32).map fun j => if j < k then byteAt v j else 0
theorem rowAt_length (v : Int) (k : Nat) : (rowAt v k).length = 32 := by simp [rowAt]
theorem rowAt_all (v : Int) : rowAt v 32 = toBytes v := by
  unfold rowAt toBytes
  apply List.map_congr_left
  intro j hj
  rw [if_pos (List.mem_range.1 hj)]
theorem rowAt_zero (v : Int) : rowAt v 0 = List.replicate 32 0 := by
  unfold rowAt; simp; rfl
theorem rowAt_succ (v : Int) (k : Nat) (hk : k < 32) : ((rowAt v k).map (Value.int .u8)).toArray.setIfInBounds k (.int .u8 (byteAt v k)) = ((rowAt v (k + 1)).map (Value.int .u8)).toArray := by
  apply Array.ext_getElem?
  intro i
  rw [Array.getElem?_setIfInBounds]
  by_cases h : k = i
  · subst h; simp [rowAt, hk]
  · rw [if_neg h]
    by_cases hi : i < 32
    · simp only [rowAt, List.map_map, List.getElem?_toArray, List.getElem?_map, List.getElem?_range hi, Option.map_some, Function.comp]
      by_cases h2 : i < k
      · rw [if_pos h2, if_pos (by omega)]
      · rw [if_neg h2, if_neg (by omega)]
    · simp [rowAt]
      rw [List.getElem?_eq_none (by simp; omega)]; simp

/-- digits determine a number -/
theorem ofBytes_toBytes_aux (v : Int) (n : Nat) : ofBytes ((List.range n).map (byteAt v)) = v % 256 ^ n := by
  induction n with
  | zero => simp [ofBytes, Int.emod_one]
  | succ n ih =>
    rw [List.range_succ, List.map_append, List.map_singleton, ofBytes_snoc, ih]
    simp only [List.length_map, List.length_range]
    unfold byteAt
    have hp : (0 : Int) < 256 ^ n := Int.pow_pos (by omega)
    rw [Int.pow_succ]
    generalize (256 : Int) ^ n = p at *
    have h1 := Int.emod_add_mul_ediv v p
    have h3 := Int.emod_nonneg v (show p ≠ 0 by omega)
    have h4 := Int.emod_lt_of_pos v hp
    generalize v / p = q at *
    have h2 : p * q = p * (q % 256) + p * 256 * (q / 256) := by
      rw [Int.mul_assoc, ← Int.mul_add]; congr 1; omega
    have h5 : v = v % p + p * (q % 256) + p * 256 * (q / 256) := by omega
    have h6 : p * (q % 256) ≤ p * 255 := Int.mul_le_mul_of_nonneg_left (by omega) (by omega)
    have h7 : 0 ≤ p * (q % 256) := Int.mul_nonneg (by omega) (by omega)
    generalize v % p = z at *
    have key : (z + p * (q % 256) + p * 256 * (q / 256)) % (p * 256) = z + p * (q % 256) := by
      rw [Int.add_mul_emod_self_left, Int.emod_eq_of_lt (by omega) (by omega)]
    rw [← h5] at key
    rw [key, Int.mul_comm p]
end Go.Proofs.Ytefnlmiephombaa
