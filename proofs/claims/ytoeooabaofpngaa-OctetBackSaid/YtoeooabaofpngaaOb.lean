/- Plain numbers as bytes, the lowest first. -/
import Derived.Test.YtoeooabaofpngaaOa
namespace Go.Proofs.Ytoeooabaofpngaa
open Go.RowKit Go.Sort

def ofBytes : List Int → Int
  | [] => 0
  | b :: l => b + 256 * ofBytes l
def Bytes (l : List Int) : Prop := ∀ b ∈ l, 0 ≤ b ∧ b ≤ 255
theorem ofBytes_snoc (l : List Int) (b : Int) : ofBytes (l ++ [b]) = ofBytes l + b * 256 ^ l.length := by
  induction l with
  | nil => simp [ofBytes]
  | cons a l ih =>
    simp only [List.cons_append, ofBytes, ih, List.length_cons, Int.pow_succ, Int.mul_add, Int.add_assoc]
    congr 2
    rw [Int.mul_comm (256 ^ l.length) 256, Int.mul_left_comm]
theorem ofBytes_bd (l : List Int) (h : Bytes l) : 0 ≤ ofBytes l ∧ ofBytes l < 256 ^ l.length := by
  induction l with
  | nil => simp [ofBytes]
  | cons a l ih =>
    have ⟨h1, h2⟩ := h a (by simp)
    have ⟨h3, h4⟩ := ih fun b hb => h b (by simp [hb])
    simp only [ofBytes, List.length_cons, Int.pow_succ]
    omega
theorem Bytes.take {l : List Int} (h : Bytes l) (k : Nat) : Bytes (l.take k) := fun b hb => h b (List.mem_of_mem_take hb)
theorem Bytes.drop {l : List Int} (h : Bytes l) (k : Nat) : Bytes (l.drop k) := fun b hb => h b (List.mem_of_mem_drop hb)
theorem Bytes.append {l m : List Int} (h : Bytes l) (k : Bytes m) : Bytes (l ++ m) := fun b hb => by
  rcases List.mem_append.1 hb with e | e
  · exact h b e
  · exact k b e
theorem Bytes.at {l : List Int} (h : Bytes l) (j : Nat) (hj : j < l.length) : 0 ≤ l[j]?.getD 0 ∧ l[j]?.getD 0 ≤ 255 := by
  rw [List.getElem?_eq_getElem hj]; exact h _ (List.getElem_mem _)
theorem wrap_lo (x : Int) : IntKind.u64.wrap x = x % 18446744073709551616 := by rw [IntKind.wrap_u64]
theorem bits_or_u64 (a b : Nat) (ha : a < 2 ^ 64) (hb : b < 2 ^ 64) : bits .or .u64 (a : Int) (b : Int) = ((a ||| b : Nat) : Int) := by
  have h : a ||| b < 2 ^ 64 := Nat.or_lt_two_pow ha hb
  have e1 : (BitVec.ofInt 64 (a : Int) ||| BitVec.ofInt 64 (b : Int)).toNat = (a ||| b) := by
    rw [BitVec.toNat_or]
    simp only [BitVec.toNat_ofInt]
    congr 1 <;> omega
  have e2 : bits .or .u64 (a : Int) (b : Int) = IntKind.u64.wrap ((BitVec.ofInt 64 (a : Int) ||| BitVec.ofInt 64 (b : Int)).toNat : Nat) := rfl
  rw [e2, e1, wrap_lo]; omega
theorem or_add (a b r : Nat) (hd : 2 ^ r ∣ a) (hb : b < 2 ^ r) (ha' : a < 2 ^ 64) (hb' : b < 2 ^ 64) : bits .or .u64 (a : Int) (b : Int) = ((a + b : Nat) : Int) := by
  rw [bits_or_u64 a b ha' hb']
  obtain ⟨c, rfl⟩ := hd
  rw [Nat.two_pow_add_eq_or_of_lt hb]
/-- a byte put into a word where nothing stands yet -/
theorem or_byte (a b : Int) (r : Nat) (hr : r < 8) (ha : 0 ≤ a) (ha' : a < 256 ^ r) (hb : 0 ≤ b) (hb' : b ≤ 255) :
    bits .or .u64 a (IntKind.u64.wrap (b * 2 ^ (8 * r))) = a + b * 256 ^ r ∧ 0 ≤ b * 256 ^ r ∧ a + b * 256 ^ r ≤ 18446744073709551615 := by
  obtain ⟨a, rfl⟩ := Int.eq_ofNat_of_zero_le ha
  obtain ⟨b, rfl⟩ := Int.eq_ofNat_of_zero_le hb
  have e1 : (2 : Nat) ^ (8 * r) = 256 ^ r := by rw [Nat.pow_mul]
  have ha2 : a < 2 ^ (8 * r) := by rw [e1]; exact Int.ofNat_lt.1 (by rw [Int.natCast_pow]; exact ha')
  have hb2 : b * 2 ^ (8 * r) + 2 ^ (8 * r) ≤ 256 * 2 ^ (8 * r) := by
    have := Nat.mul_le_mul_right (2 ^ (8 * r)) (show b + 1 ≤ 256 by omega)
    rw [Nat.add_mul] at this; omega
  have hp : 256 * 2 ^ (8 * r) ≤ 18446744073709551616 := by
    have := Nat.pow_le_pow_right (show 0 < 2 by omega) (show 8 + 8 * r ≤ 64 by omega)
    rw [Nat.pow_add] at this; omega
  have e2 : ((b : Int) * 2 ^ (8 * r)) = ((b * 2 ^ (8 * r) : Nat) : Int) := by rw [Int.natCast_mul, Int.natCast_pow]; rfl
  have e3 : ((b : Int) * 256 ^ r) = ((b * 2 ^ (8 * r) : Nat) : Int) := by rw [e1, Int.natCast_mul, Int.natCast_pow]; rfl
  have hd : 2 ^ (8 * r) ∣ b * 2 ^ (8 * r) := Nat.dvd_mul_left _ _
  rw [e2, e3, wrap_lo]
  have e4 : ((b * 2 ^ (8 * r) : Nat) : Int) % 18446744073709551616 = ((b * 2 ^ (8 * r) : Nat) : Int) := by
    generalize b * 2 ^ (8 * r) = z at *
    omega
  rw [e4]
  have h1 : b * 2 ^ (8 * r) < 2 ^ 64 := by generalize b * 2 ^ (8 * r) = z at *; omega
  have h2 : a < 2 ^ 64 := by generalize 2 ^ (8 * r) = z at *; omega
  have e5 := or_add _ _ _ hd ha2 h1 h2
  rw [bits_or_u64 _ _ h1 h2] at e5
  rw [bits_or_u64 _ _ h2 h1, Nat.or_comm, e5]
  generalize b * 2 ^ (8 * r) = z at *
  generalize 2 ^ (8 * r) = y at *
  omega

/-- byte j of a number -/
def byteAt (v : Int) (j : Nat) : Int := v / 256 ^ j % 256
/-- the lowest bytes of a number -/
def low (v : Int) (k : Nat) : List Int := (List.range k).map (byteAt v)
theorem byteAt_bd (v : Int) (j : Nat) : 0 ≤ byteAt v j ∧ byteAt v j ≤ 255 := by unfold byteAt; omega
theorem low_length (v : Int) (k : Nat) : (low v k).length = k := by simp [low]
theorem low_bytes (v : Int) (k : Nat) : Bytes (low v k) := by
  intro b hb
  obtain ⟨j, _, rfl⟩ := List.mem_map.1 hb
  exact byteAt_bd v j
theorem low_succ (v : Int) (k : Nat) : low v (k + 1) = low v k ++ [byteAt v k] := by simp [low, List.range_succ]
theorem ofBytes_low (v : Int) (n : Nat) : ofBytes (low v n) = v % 256 ^ n := by
  induction n with
  | zero => simp [ofBytes, low, Int.emod_one]
  | succ n ih =>
    rw [low_succ, ofBytes_snoc, ih, low_length]
    unfold byteAt
    have hp : (0 : Int) < 256 ^ n := Int.pow_pos (by omega)
    rw [Int.pow_succ]
    generalize (256 : Int) ^ n = p at *
    have h1 := Int.emod_add_mul_ediv v p
    have h3 := Int.emod_nonneg v (show p ≠ 0 by omega)
    have h4 := Int.emod_lt_of_pos v hp
    generalize v / p = q at *
    have h2 : p * q = p * (q % 256) + p * 256 * (q / 256) := by
      rw [Int.mul_assoc, ← Int.mul_add]; congr 1; omega
    have h5 : v = v % p + p * (q % 256) + p * 256 * (q / 256) := by omega
    have h6 : p * (q % 256) ≤ p * 255 := Int.mul_le_mul_of_nonneg_left (by omega) (by omega)
    have h7 : 0 ≤ p * (q % 256) := Int.mul_nonneg (by omega) (by omega)
    generalize v % p = z at *
    have key : (z + p * (q % 256) + p * 256 * (q / 256)) % (p * 256) = z + p * (q % 256) := by
      rw [Int.add_mul_emod_self_left, Int.emod_eq_of_lt (by omega) (by omega)]
    rw [← h5] at key
    rw [key, Int.mul_comm p]
/-- a number's bytes are the bytes that it is of -/
theorem low_ofBytes : ∀ l : List Int, Bytes l → low (ofBytes l) l.length = l := by
  intro l
  induction l with
  | nil => intro _; rfl
  | cons a l ih =>
    intro h
    have ⟨h1, h2⟩ := h a (by simp)
    have e := ih fun b hb => h b (by simp [hb])
    unfold low at e ⊢
    rw [List.length_cons, List.range_succ_eq_map, List.map_cons, List.map_map]
    congr 1
    · unfold byteAt; simp only [ofBytes, Int.pow_zero, Int.ediv_one]; omega
    · have e2 : (byteAt (ofBytes (a :: l)) ∘ Nat.succ) = byteAt (ofBytes l) := by
        funext j
        simp only [Function.comp, byteAt, ofBytes]
        rw [show (256 : Int) ^ (Nat.succ j) = 256 * 256 ^ j by rw [Nat.succ_eq_add_one, Int.pow_succ, Int.mul_comm], ← Int.ediv_ediv_of_nonneg (by omega), show (a + 256 * ofBytes l) / 256 = ofBytes l by omega]
      rw [e2, e]

/-- Put -/
def putB (b : List Int) (n s : Int) : List Int := if okz s then b ++ low n s.toNat else b
/-- Take -/
def takeB (b : List Int) (at' s : Int) : Int × Int × Int :=
  if okz s = false ∨ at' < 0 ∨ (b.length : Int) < at' then (0, 0, 1)
  else if (b.length : Int) - at' < s then (0, 0, 5)
  else (ofBytes ((b.drop at'.toNat).take s.toNat), at' + s, 0)
/-- form -/
def formB (n : Int) : Int × Int := if 4294967296 ≤ n then (8, 255) else if 65536 ≤ n then (4, 254) else if 253 ≤ n then (2, 253) else (0, n % 256)
/-- a number's short form -/
def varB (n : Int) : List Int := if n < 253 then low n 1 else if n < 65536 then 253 :: low n 2 else if n < 4294967296 then 254 :: low n 4 else 255 :: low n 8
/-- what follows a first byte that tells a size -/
def tvar2 (b : List Int) (p s : Int) : Int × Int × Int :=
  if (takeB b p s).2.2 ≠ 0 ∨ (formB (takeB b p s).1).1 ≠ s then (0, 0, 5) else ((takeB b p s).1, (takeB b p s).2.1, 0)
/-- TakeVar, of what Take says of the first byte -/
def tvar1 (b : List Int) (r : Int × Int × Int) : Int × Int × Int :=
  if r.2.2 ≠ 0 then (0, 0, r.2.2)
  else if r.1 = 255 then tvar2 b r.2.1 8 else if r.1 = 254 then tvar2 b r.2.1 4 else if r.1 = 253 then tvar2 b r.2.1 2 else (r.1, r.2.1, 0)
/-- TakeVar -/
def tvarB (b : List Int) (at' : Int) : Int × Int × Int := tvar1 b (takeB b at' 1)
/-- Some -/
def someB (b : List Int) (at' n : Int) : List Int × Int × Int :=
  if at' < 0 ∨ (b.length : Int) < at' then ([], 0, 1)
  else if (b.length : Int) - at' < n then ([], 0, 5)
  else ((b.drop at'.toNat).take n.toNat, at' + n, 0)
theorem putB_bytes {b : List Int} (h : Bytes b) (n s : Int) : Bytes (putB b n s) := by
  unfold putB; split
  · exact h.append (low_bytes _ _)
  · exact h
theorem putB_len (b : List Int) (n s : Int) : (putB b n s).length ≤ b.length + 8 := by
  unfold putB; split
  · rename_i h
    rw [okz_iff] at h
    rw [List.length_append, low_length]; omega
  · omega
end Go.Proofs.Ytoeooabaofpngaa
