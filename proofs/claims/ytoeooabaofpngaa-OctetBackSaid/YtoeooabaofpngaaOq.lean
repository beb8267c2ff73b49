/- Letters as bytes, read one by one. -/
import Derived.Test.YtoeooabaofpngaaOp
namespace Go.Proofs.Ytoeooabaofpngaa
open Go.RowKit Go.Sort
/-- what is read while half a byte may be open -/
def uhs : List Int → Option (List Int)
  | [] => some []
  | [a] => if halfI a < 0 then none else some [16 * halfI a]
  | a :: b :: l => if halfI a < 0 ∨ halfI b < 0 then none else (uhs l).map fun m => (16 * halfI a + halfI b) :: m
theorem uhs_even : ∀ l : List Int, l.length % 2 = 0 → uhs l = unhexI l
  | [], _ => rfl
  | [_], h => by simp at h
  | a :: b :: l, h => by
    simp only [uhs, unhexI]
    rw [uhs_even l (by simp at h; omega)]
theorem uhs_len : ∀ (l m : List Int), uhs l = some m → m.length = (l.length + 1) / 2
  | [], m, h => by simp only [uhs, Option.some.injEq] at h; subst h; rfl
  | [a], m, h => by
    simp only [uhs] at h
    split at h
    · cases h
    · injection h with h; subst h; simp
  | a :: b :: l, m, h => by
    simp only [uhs] at h
    split at h
    · cases h
    · obtain ⟨m', h1, h2⟩ := Option.map_eq_some_iff.1 h
      subst h2
      have := uhs_len l m' h1
      simp; omega
theorem uhs_open : ∀ (l m : List Int) (c : Int), uhs l = some m → l.length % 2 = 0 → uhs (l ++ [c]) = if halfI c < 0 then none else some (m ++ [16 * halfI c])
  | [], m, c, h, _ => by
    simp only [uhs, Option.some.injEq] at h; subst h
    simp only [List.nil_append, uhs]
  | [a], m, c, h, hl => by simp at hl
  | a :: b :: l, m, c, h, hl => by
    simp only [uhs] at h
    split at h
    · cases h
    · rename_i hn
      obtain ⟨m', h1, h2⟩ := Option.map_eq_some_iff.1 h
      subst h2
      simp only [List.cons_append, uhs]
      rw [if_neg hn, uhs_open l m' c h1 (by simp at hl; omega)]
      split <;> simp
theorem uhs_shut : ∀ (l m : List Int) (c : Int), uhs l = some m → l.length % 2 = 1 →
    (∃ h, 0 ≤ h ∧ h ≤ 15 ∧ m[l.length / 2]?.getD 0 = 16 * h) ∧ uhs (l ++ [c]) = if halfI c < 0 then none else some (m.set (l.length / 2) (m[l.length / 2]?.getD 0 + halfI c))
  | [], m, c, h, hl => by simp at hl
  | [a], m, c, h, hl => by
    simp only [uhs] at h
    split at h
    · cases h
    · rename_i hn
      injection h with h; subst h
      have := halfI_lo a
      refine ⟨⟨halfI a, by omega, by omega, by simp⟩, ?_⟩
      simp only [List.cons_append, List.nil_append, uhs]
      by_cases hc : halfI c < 0
      · rw [if_pos (.inr hc), if_pos hc]
      · rw [if_neg (by omega), if_neg hc]; simp
  | a :: b :: l, m, c, h, hl => by
    simp only [uhs] at h
    split at h
    · cases h
    · rename_i hn
      obtain ⟨m', h1, h2⟩ := Option.map_eq_some_iff.1 h
      subst h2
      obtain ⟨⟨x, x0, x1, x2⟩, e⟩ := uhs_shut l m' c h1 (by simp at hl; omega)
      have e2 : (a :: b :: l).length / 2 = l.length / 2 + 1 := by simp; omega
      rw [e2]
      refine ⟨⟨x, x0, x1, by simpa using x2⟩, ?_⟩
      simp only [List.cons_append, uhs]
      rw [if_neg hn, e]
      split <;> simp
theorem uhs_stop : ∀ (l r : List Int), uhs l = none → uhs (l ++ r) = none
  | [], r, h => by simp [uhs] at h
  | [a], r, h => by
    simp only [uhs] at h
    split at h
    · rename_i ha
      rcases r with _ | ⟨b, r⟩
      · simp [uhs, ha]
      · simp [uhs, ha]
    · cases h
  | a :: b :: l, r, h => by
    simp only [List.cons_append, uhs] at h ⊢
    split
    · rfl
    · rename_i hn
      rw [if_neg hn] at h
      rw [uhs_stop l r (by simpa using h)]; rfl
theorem uhs_none_of (xs : List Int) (k : Nat) (h : uhs (xs.take k) = none) : unhexI xs = none := by
  by_cases hev : xs.length % 2 = 0
  · rw [← uhs_even xs hev, ← List.take_append_drop k xs, uhs_stop _ _ h]
  · exact unhexI_odd xs (by omega)

/-- what Unhex says: the bytes, the error -/
def uhB (l : List Int) : List Int := (unhexI l).getD []
def uhE (l : List Int) : Int := if (unhexI l).isSome then 0 else 5
theorem uh_none {l : List Int} (h : unhexI l = none) : uhB l = [] ∧ uhE l = 5 := by unfold uhB uhE; rw [h]; exact ⟨rfl, rfl⟩
theorem uh_some {l m : List Int} (h : unhexI l = some m) : uhB l = m ∧ uhE l = 0 := by unfold uhB uhE; rw [h]; exact ⟨rfl, rfl⟩

theorem str_ix (s : ByteArray) (k : Nat) (h : k < s.size) (w : World) : (Instr.index 9 (.string s) (.int .i64 (k : Int))).run Try.prog w = .ok (.int .u8 ((numsOf s)[k]?.getD 0)) w := by
  have h2 : k < s.data.toList.length := h
  have e : (numsOf s)[k]?.getD 0 = (s[k].toNat : Int) := by
    unfold numsOf
    rw [List.getElem?_map, List.getElem?_eq_getElem h2]
    rfl
  rw [e]
  simp [go_sem, h]
theorem ix_letters (c : Int) (h0 : 0 ≤ c) (h1 : c ≤ 255) : Lib.indexByte [48, 49, 50, 51, 52, 53, 54, 55, 56, 57, 97, 98, 99, 100, 101, 102] c.toNat.toUInt8 = halfI c := by
  obtain ⟨n, rfl⟩ := Int.eq_ofNat_of_zero_le h0
  have key : ∀ m : Fin 256, Lib.indexByte [48, 49, 50, 51, 52, 53, 54, 55, 56, 57, 97, 98, 99, 100, 101, 102] ((m.val : Nat) : Int).toNat.toUInt8 = halfI ((m.val : Nat) : Int) := by set_option maxRecDepth 100000 in decide
  exact key ⟨n, by omega⟩
end Go.Proofs.Ytoeooabaofpngaa
