/- A row of 32 bytes in a block of its own; bits of bytes; the steps of ref02.OfHash, ToHash in plain numbers. -/
import Derived.Test.YtefnlmiephombaaRd
import Derived.Test.YtefnlmiephombaaBigF
namespace Go.Proofs.Ytefnlmiephombaa
open Go.RowKit Go.Sort

/-- block g holds the bytes bs, each a cell -/
def RowU (g : Nat) (bs : List Int) (w : World) : Prop := w.heap[g]? = some (.cells (bs.map (Value.int .u8)).toArray 42 (0, 0))

theorem RowU.lt {g : Nat} {bs : List Int} {w : World} (h : RowU g bs w) : g < w.heap.size := by
  by_cases hlt : g < w.heap.size
  · exact hlt
  · unfold RowU at h
    rw [Array.getElem?_eq_none (by omega)] at h; cases h
theorem RowU.below {B g : Nat} {bs : List Int} {w w' : World} (h : RowU g bs w) (hb : Below B w w') (hg : g < B) : RowU g bs w' := by
  unfold RowU; rw [hb.block g hg]; exact h
theorem RowU.call {g : Nat} {bs : List Int} {w w' : World} (h : RowU g bs w) (hb : Below w.heap.size w w') : RowU g bs w' := h.below hb h.lt
theorem RowU.cell {g : Nat} {bs : List Int} {w : World} (h : RowU g bs w) (j : Nat) (hj : j < bs.length) : w.cell? ⟨g, j, none⟩ = some (.int .u8 (bs[j]?.getD 0)) := by
  unfold RowU at h
  simp [World.cell?, h, hj]
theorem RowU.frozen {g : Nat} {bs : List Int} {w : World} (h : RowU g bs w) (j : Nat) : w.frozen? ⟨g, j, none⟩ = false := by
  unfold RowU at h
  simp [World.frozen?, h]
theorem RowU.set {g : Nat} {bs : List Int} {w : World} (h : RowU g bs w) (j : Nat) (v : Int) : RowU g (bs.set j v) (w.setCell ⟨g, j, none⟩ (.int .u8 v)) := by
  have hl := h.lt
  unfold RowU at h ⊢
  have e : (Array.setIfInBounds (List.map (Value.int .u8) bs).toArray j (.int .u8 v)) = (List.map (Value.int .u8) (bs.set j v)).toArray := by
    rw [List.setIfInBounds_toArray, List.map_set]
  rw [← e]
  have h' : w.heap[g] = .cells (bs.map (Value.int .u8)).toArray 42 (0, 0) := by
    rw [Array.getElem?_eq_getElem hl] at h
    injection h
  simp [World.setCell, hl, Array.getElem_modify_self, h']
theorem RowU.new (w : World) (bs : List Int) : RowU w.heap.size bs (w.alloc (.cells (bs.map (Value.int .u8)).toArray 42)) := heap_alloc_new w _
theorem RowU.set_other {g b o : Nat} {bs : List Int} {w : World} (h : RowU g bs w) (hne : g ≠ b) (x : Value) : RowU g bs (w.setCell ⟨b, o, none⟩ x) := by
  unfold RowU at h ⊢
  rw [← h]
  simp [World.setCell, Array.getElem?_modify, Ne.symm hne]
theorem RowU.drew {g : Nat} {bs : List Int} {w : World} (h : RowU g bs w) : RowU g bs w.drew := h
theorem RowU.alloc {g : Nat} {bs : List Int} {w : World} (h : RowU g bs w) (o : Obj) : RowU g bs (w.alloc o) := by
  have := h.lt
  unfold RowU at h ⊢
  rw [Below.heap_alloc _ _ _ (by omega)]; exact h

theorem and_one_u8 (x : Int) (h0 : 0 ≤ x) (h1 : x ≤ 255) : bits .and .u8 x 1 = x % 2 := by
  have h : ∀ a : Fin 256, bits .and .u8 ((a.val : Nat) : Int) 1 = ((a.val : Nat) : Int) % 2 := by decide +kernel
  obtain ⟨a, rfl⟩ := Int.eq_ofNat_of_zero_le h0
  exact h ⟨a, by omega⟩
theorem or_zero_u8 (x : Int) (h0 : 0 ≤ x) (h1 : x ≤ 255) : bits .or .u8 x 0 = x := by
  have h : ∀ a : Fin 256, bits .or .u8 ((a.val : Nat) : Int) 0 = ((a.val : Nat) : Int) := by decide +kernel
  obtain ⟨a, rfl⟩ := Int.eq_ofNat_of_zero_le h0
  exact h ⟨a, by omega⟩
theorem or_bit_u8 (x : Int) (r : Nat) (hr : r < 8) (h0 : 0 ≤ x) (h1 : x < 2 ^ r) : bits .or .u8 x (2 ^ r) = x + 2 ^ r := by
  have h : ∀ r : Fin 8, ∀ a : Fin 256, a.val < 2 ^ r.val → bits .or .u8 ((a.val : Nat) : Int) (2 ^ r.val) = ((a.val : Nat) : Int) + 2 ^ r.val := by decide +kernel
  obtain ⟨a, rfl⟩ := Int.eq_ofNat_of_zero_le h0
  have h2 : a < 2 ^ r := by exact Int.ofNat_lt.1 (by rw [Int.natCast_pow]; exact h1)
  have h3 : 2 ^ r ≤ 2 ^ 7 := Nat.pow_le_pow_right (by omega) (by omega)
  exact h ⟨r, hr⟩ ⟨a, by omega⟩ h2

theorem byteAt_ofBytes : ∀ (l : List Int), Bytes l → ∀ j, byteAt (ofBytes l) j = l[j]?.getD 0
  | [], _, j => by simp [byteAt, ofBytes]
  | b :: l, h, 0 => by
    have ⟨h1, h2⟩ := h b (by simp)
    simp only [byteAt, ofBytes, Int.pow_zero, Int.ediv_one, List.getElem?_cons_zero, Option.getD_some]
    omega
  | b :: l, h, j + 1 => by
    have ⟨h1, h2⟩ := h b (by simp)
    have ih := byteAt_ofBytes l (fun b hb => h b (by simp [hb])) j
    simp only [List.getElem?_cons_succ]
    rw [← ih]
    unfold byteAt
    simp only [ofBytes]
    rw [show (256 : Int) ^ (j + 1) = 256 * 256 ^ j by rw [Int.pow_succ, Int.mul_comm], ← Int.ediv_ediv_of_nonneg (by omega), show (b + 256 * ofBytes l) / 256 = ofBytes l by omega]
theorem pow_256 (j : Nat) : (256 : Int) ^ j = 2 ^ (8 * j) := by rw [Int.pow_mul]; rfl
theorem low_bit8 (z : Int) (r : Nat) (hr : r < 8) : z % 256 / 2 ^ r % 2 = z / 2 ^ r % 2 := by
  rcases r with _ | _ | _ | _ | _ | _ | _ | _ | r
  · simp only [Int.pow_zero, Int.ediv_one]; omega
  · simp only [show (2 : Int) ^ (0 + 1) = 2 from rfl]; omega
  · simp only [show (2 : Int) ^ (0 + 1 + 1) = 4 from rfl]; omega
  · simp only [show (2 : Int) ^ (0 + 1 + 1 + 1) = 8 from rfl]; omega
  · simp only [show (2 : Int) ^ (0 + 1 + 1 + 1 + 1) = 16 from rfl]; omega
  · simp only [show (2 : Int) ^ (0 + 1 + 1 + 1 + 1 + 1) = 32 from rfl]; omega
  · simp only [show (2 : Int) ^ (0 + 1 + 1 + 1 + 1 + 1 + 1) = 64 from rfl]; omega
  · simp only [show (2 : Int) ^ (0 + 1 + 1 + 1 + 1 + 1 + 1 + 1) = 128 from rfl]; omega
  · omega
theorem bt_byte (v : Int) (j r : Nat) (hr : r < 8) : byteAt v j / 2 ^ r % 2 = bt v (8 * j + r) := by
  unfold byteAt bt
  have hp := pow_pos' (8 * j)
  rw [low_bit8 _ _ hr, pow_256, Int.ediv_ediv_of_nonneg (by omega), ← Int.pow_add]

/-- the bytes of the lowest k bits -/
def rowK (v : Int) (k : Nat) : List Int := toBytes (v % 2 ^ k)
theorem rowK_length (v : Int) (k : Nat) : (rowK v k).length = 32 := toBytes_length _
theorem rowK_get (v : Int) (k j : Nat) (h : j < 32) : (rowK v k)[j]?.getD 0 = byteAt (v % 2 ^ k) j := by simp [rowK, toBytes, h]
theorem low_div (v : Int) (i s : Nat) : v % 2 ^ (i + s) / 2 ^ i = v / 2 ^ i % 2 ^ s := by
  have hp := pow_pos' i
  have hq := pow_pos' s
  rw [Int.pow_add]
  have e1 := Int.mul_ediv_add_emod v (2 ^ i)
  have e2 := Int.mul_ediv_add_emod (v / 2 ^ i) (2 ^ s)
  have a0 := Int.emod_nonneg v (b := 2 ^ i) (by omega)
  have a1 := Int.emod_lt_of_pos v hp
  have b0 := Int.emod_nonneg (v / 2 ^ i) (b := 2 ^ s) (by omega)
  have b1 := Int.emod_lt_of_pos (v / 2 ^ i) hq
  generalize v / 2 ^ i = z at *
  generalize v % 2 ^ i = c at *
  generalize z / 2 ^ s = y at *
  generalize z % 2 ^ s = d at *
  generalize (2 : Int) ^ i = p at *
  generalize (2 : Int) ^ s = q at *
  have e : v = (c + p * d) + p * q * y := by
    rw [← e1, ← e2, Int.mul_add, Int.mul_assoc]; omega
  have h1 : p * d ≤ p * (q - 1) := Int.mul_le_mul_of_nonneg_left (by omega) (by omega)
  have h2 : p * (q - 1) = p * q - p := by rw [Int.mul_sub, Int.mul_one]
  have h3 : 0 ≤ p * d := Int.mul_nonneg (by omega) b0
  rw [e, Int.add_mul_emod_self_left, Int.emod_eq_of_lt (by omega) (by omega), Int.add_mul_ediv_left _ _ (by omega), Int.ediv_eq_zero_of_lt a0 a1]
  omega
theorem byteAt_low (v : Int) (j s : Nat) (hs : s ≤ 8) : byteAt (v % 2 ^ (8 * j + s)) j = v / 256 ^ j % 2 ^ s := by
  unfold byteAt
  rw [pow_256, low_div]
  have hq := pow_pos' s
  have := pow_mono hs
  exact Int.emod_eq_of_lt (Int.emod_nonneg _ (by omega)) (by have := Int.emod_lt_of_pos (v / 2 ^ (8 * j)) hq; omega)
theorem byteAt_high (v : Int) (j s : Nat) (hs : 8 ≤ s) : byteAt (v % 2 ^ (8 * j + s)) j = byteAt v j := by
  unfold byteAt
  rw [pow_256, low_div]
  refine Int.emod_emod_of_dvd _ ⟨2 ^ (s - 8), ?_⟩
  rw [show (256 : Int) = 2 ^ 8 from rfl, ← Int.pow_add]; congr 1; omega
theorem byteAt_none (v : Int) (j n : Nat) (h : n ≤ 8 * j) : byteAt (v % 2 ^ n) j = 0 := by
  unfold byteAt
  have hp := pow_pos' n
  have := pow_mono h
  rw [pow_256, Int.ediv_eq_zero_of_lt (Int.emod_nonneg _ (by omega)) (by have := Int.emod_lt_of_pos v hp; omega)]; rfl
theorem rowK_step (v : Int) (k j r : Nat) (hr : r < 8) (hk : k = 8 * j + r) :
    (rowK v k).set j ((rowK v k)[j]?.getD 0 + bt v k * 2 ^ r) = rowK v (k + 1) := by
  apply List.ext_getElem
  · simp [rowK, toBytes]
  · intro i h1 h2
    have hi : i < 32 := by simpa [rowK, toBytes] using h2
    have hg : ∀ n, (rowK v n)[i]? = some (byteAt (v % 2 ^ n) i) := fun n => by simp [rowK, toBytes, hi]
    have hg2 : ∀ n (h : i < (rowK v n).length), (rowK v n)[i]'h = byteAt (v % 2 ^ n) i := fun n h => by simp [rowK, toBytes]
    simp only [hg2]
    rw [List.getElem_set]
    by_cases e : j = i
    · subst e
      rw [if_pos rfl, hg, Option.getD_some, hk, Nat.add_assoc, byteAt_low _ _ _ (by omega), byteAt_low _ _ _ (by omega), mod_succ]
      congr 2
      unfold bt
      have hp := pow_pos' (8 * j)
      rw [pow_256, Int.ediv_ediv_of_nonneg (by omega), ← Int.pow_add]
    · rw [if_neg e, hg2, hk]
      by_cases hij : i < j
      · rw [show 8 * j + r = 8 * i + (8 * (j - i) + r) by omega, byteAt_high _ _ _ (by omega), Nat.add_assoc, byteAt_high _ _ _ (by omega)]
      · rw [byteAt_none _ _ _ (by omega), byteAt_none _ _ _ (by omega)]
theorem rowK_bd (v : Int) (k j r : Nat) (hr : r < 8) (hk : k = 8 * j + r) (hj : j < 32) : 0 ≤ (rowK v k)[j]?.getD 0 ∧ (rowK v k)[j]?.getD 0 < 2 ^ r := by
  rw [rowK_get _ _ _ hj, hk, byteAt_low _ _ _ (by omega)]
  have hq := pow_pos' r
  exact ⟨Int.emod_nonneg _ (by omega), Int.emod_lt_of_pos _ hq⟩
theorem rowK_all (v : Int) : rowK v 256 = toBytes (m v) := by
  unfold rowK; rw [← M_two]; rfl
theorem rowK_zero (v : Int) : rowK v 0 = List.replicate 32 0 := by
  unfold rowK; simp [Int.emod_one]; decide +kernel
theorem toBytes_ofBytes (bs : List Int) (hl : bs.length = 32) (hbs : Bytes bs) : toBytes (m (ofBytes bs)) = bs := by
  have hb := ofBytes_bd bs hbs
  rw [m_of _ hb.1 (by have := hb.2; rw [hl] at this; have e : (256 : Int) ^ 32 = M := by decide +kernel
                      omega)]
  apply List.ext_getElem
  · simp [toBytes, hl]
  · intro i h1 h2
    simp only [toBytes, List.getElem_map, List.getElem_range]
    rw [byteAt_ofBytes _ hbs, List.getElem?_eq_getElem h2]; rfl
theorem ofBytes_toBytes (v : Int) : ofBytes (toBytes (m v)) = m v := by
  unfold toBytes
  rw [ofBytes_toBytes_aux, show (256 : Int) ^ 32 = M by decide +kernel, show m v % M = m (m v) from rfl, m_m]
end Go.Proofs.Ytefnlmiephombaa
