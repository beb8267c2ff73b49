/- Numbers as rows of bits, the lowest first; the contract of scantlingref02.Bit. -/
import Derived.Test.YtefnlmiephombaaTl
namespace Go.Proofs.Ytefnlmiephombaa
open Go.RowKit Go.Sort

/-- bit j of a number -/
def bt (v : Int) (j : Nat) : Int := v / 2 ^ j % 2
theorem bt_bd (v : Int) (j : Nat) : 0 ≤ bt v j ∧ bt v j ≤ 1 := by unfold bt; omega
/-- the number of some bits -/
def ofBits : List Int → Int
  | [] => 0
  | b :: t => b + 2 * ofBits t
def Bits (l : List Int) : Prop := ∀ b ∈ l, 0 ≤ b ∧ b ≤ 1
def rowB (v : Int) (k : Nat) : List Int := (List.range k).map (bt v)
theorem rowB_length (v : Int) (k : Nat) : (rowB v k).length = k := by simp [rowB]
theorem rowB_succ (v : Int) (k : Nat) : rowB v (k + 1) = rowB v k ++ [bt v k] := by simp [rowB, List.range_succ]
theorem rowB_bits (v : Int) (k : Nat) : Bits (rowB v k) := by
  intro b hb
  obtain ⟨j, _, rfl⟩ := List.mem_map.1 hb
  exact bt_bd v j
theorem ofBits_snoc (l : List Int) (b : Int) : ofBits (l ++ [b]) = ofBits l + b * 2 ^ l.length := by
  induction l with
  | nil => simp [ofBits]
  | cons x t ih =>
    simp only [List.cons_append, ofBits, ih, List.length_cons, Int.pow_succ]
    generalize (2 : Int) ^ t.length = p
    have e : b * (p * 2) = 2 * (b * p) := by rw [← Int.mul_assoc, Int.mul_comm (b * p) 2]
    omega
theorem ofBits_bd (l : List Int) (h : Bits l) : 0 ≤ ofBits l ∧ ofBits l < 2 ^ l.length := by
  induction l with
  | nil => simp [ofBits]
  | cons x t ih =>
    have h1 := ih fun b hb => h b (List.mem_cons_of_mem _ hb)
    have h2 := h x (by simp)
    simp only [ofBits, List.length_cons, Int.pow_succ]
    omega
theorem bits_take (l : List Int) (h : Bits l) (k : Nat) : Bits (l.take k) := fun b hb => h b (List.mem_of_mem_take hb)
theorem ofBits_rowB (v : Int) (k : Nat) : ofBits (rowB v k) = v % 2 ^ k := by
  induction k with
  | zero => simp [rowB, ofBits]
  | succ k ih =>
    rw [rowB_succ, ofBits_snoc, ih, rowB_length, Int.pow_succ]
    have hp := pow_pos' k
    unfold bt
    have h1 := Int.mul_ediv_add_emod v (2 ^ k)
    have h2 := Int.emod_nonneg v (b := 2 ^ k) (by omega)
    have h3 := Int.emod_lt_of_pos v hp
    have h4 := Int.mul_ediv_add_emod (v / 2 ^ k) 2
    generalize hq : v / 2 ^ k = q at *
    generalize hr : v % 2 ^ k = r at *
    have e : v = (r + q % 2 * 2 ^ k) + 2 ^ k * 2 * (q / 2) := by
      have e1 : 2 ^ k * q = 2 ^ k * (2 * (q / 2) + q % 2) := by rw [h4]
      rw [Int.mul_add, ← Int.mul_assoc] at e1
      rw [Int.mul_comm (q % 2)]
      omega
    have hb : q % 2 = 0 ∨ q % 2 = 1 := by omega
    generalize q % 2 = x at *
    have e2 : v % (2 ^ k * 2) = r + x * 2 ^ k := by
      rw [e, Int.add_mul_emod_self_left]
      refine Int.emod_eq_of_lt ?_ ?_
      · rcases hb with hb | hb <;> subst hb <;> omega
      · rcases hb with hb | hb <;> subst hb <;> omega
    omega
theorem M_two : M = 2 ^ 256 := by decide +kernel
theorem ofBits_m (v : Int) : ofBits (rowB v 256) = m v := by rw [ofBits_rowB, ← M_two]; rfl
end Go.Proofs.Ytefnlmiephombaa
