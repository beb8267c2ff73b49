/- Plain bytes as letters, letters as bytes. -/
import Derived.Test.YtoeooabaofpngaaDoorTc
import Derived.Laws.BytesArg
namespace Go.Proofs.YtoeooabaofpngaaDoor
open Go.RowKit Go.Sort

/-- half a byte's letter -/
def chrI (x : Int) : Int := if x < 10 then 48 + x else 87 + x
/-- bytes as letters -/
def hexI : List Int → List Int
  | [] => []
  | x :: l => chrI (x / 16) :: chrI (x % 16) :: hexI l
/-- what a letter says; below 0: nothing -/
def halfI (c : Int) : Int := if 48 ≤ c ∧ c ≤ 57 then c - 48 else if 97 ≤ c ∧ c ≤ 102 then c - 87 else -1
/-- letters as bytes -/
def unhexI : List Int → Option (List Int)
  | [] => some []
  | [_] => none
  | a :: b :: l => if halfI a < 0 ∨ halfI b < 0 then none else (unhexI l).map fun m => (16 * halfI a + halfI b) :: m
theorem hexI_append (a b : List Int) : hexI (a ++ b) = hexI a ++ hexI b := by
  induction a with
  | nil => rfl
  | cons x l ih => simp [hexI, ih]
theorem hexI_len (l : List Int) : (hexI l).length = 2 * l.length := by
  induction l with
  | nil => rfl
  | cons x l ih => simp [hexI, ih]; omega
theorem chrI_bd (x : Int) (h0 : 0 ≤ x) (h1 : x ≤ 15) : 48 ≤ chrI x ∧ chrI x ≤ 102 := by unfold chrI; split <;> omega
theorem hexI_bytes (l : List Int) (h : Bytes l) : Bytes (hexI l) := by
  induction l with
  | nil => intro b hb; simp [hexI] at hb
  | cons x l ih =>
    have ⟨h1, h2⟩ := h x (by simp)
    have a1 := chrI_bd (x / 16) (by omega) (by omega)
    have a2 := chrI_bd (x % 16) (by omega) (by omega)
    intro b hb
    simp only [hexI, List.mem_cons] at hb
    rcases hb with rfl | rfl | hb
    · omega
    · omega
    · exact ih (fun b hb => h b (by simp [hb])) b hb
theorem half_chrI (x : Int) (h0 : 0 ≤ x) (h1 : x ≤ 15) : halfI (chrI x) = x := by
  unfold halfI chrI
  by_cases h : x < 10
  · rw [if_pos h, if_pos (by omega)]; omega
  · rw [if_neg h, if_neg (by omega), if_pos (by omega)]; omega
theorem chr_halfI (c : Int) (h : 0 ≤ halfI c) : chrI (halfI c) = c ∧ halfI c ≤ 15 := by
  unfold halfI at h ⊢
  unfold chrI
  split
  · rw [if_pos (by omega)]; omega
  · rename_i h1
    rw [if_neg h1] at h
    split
    · rw [if_neg (by omega)]; omega
    · rename_i h2
      rw [if_neg h2] at h; omega
theorem halfI_lo (c : Int) : -1 ≤ halfI c ∧ halfI c ≤ 15 := by unfold halfI; split; omega; split <;> omega
theorem unhex_hex (l : List Int) (h : Bytes l) : unhexI (hexI l) = some l := by
  induction l with
  | nil => rfl
  | cons x l ih =>
    have ⟨h1, h2⟩ := h x (by simp)
    have a1 := half_chrI (x / 16) (by omega) (by omega)
    have a2 := half_chrI (x % 16) (by omega) (by omega)
    simp only [hexI, unhexI]
    rw [a1, a2, if_neg (by omega), ih fun b hb => h b (by simp [hb])]
    simp; omega
theorem hex_unhex : ∀ (l m : List Int), unhexI l = some m → hexI m = l ∧ Bytes m ∧ l.length = 2 * m.length
  | [], m, h => by
    simp only [unhexI, Option.some.injEq] at h; subst h
    exact ⟨rfl, fun b hb => by simp at hb, rfl⟩
  | [_], m, h => by simp [unhexI] at h
  | a :: b :: l, m, h => by
    simp only [unhexI] at h
    split at h
    · cases h
    · rename_i hn
      obtain ⟨m', h1, h2⟩ := Option.map_eq_some_iff.1 h
      subst h2
      obtain ⟨e1, e2, e3⟩ := hex_unhex l m' h1
      have la := chr_halfI a (by omega)
      have lb := chr_halfI b (by omega)
      have d1 : (16 * halfI a + halfI b) / 16 = halfI a := by omega
      have d2 : (16 * halfI a + halfI b) % 16 = halfI b := by omega
      refine ⟨?_, ?_, ?_⟩
      · simp only [hexI]
        rw [d1, d2, la.1, lb.1, e1]
      · intro x hx
        rcases List.mem_cons.1 hx with rfl | hx
        · omega
        · exact e2 x hx
      · simp; omega
theorem unhexI_odd : ∀ (l : List Int), l.length % 2 = 1 → unhexI l = none
  | [], h => by simp at h
  | [_], _ => rfl
  | a :: b :: l, h => by
    simp only [unhexI]
    split
    · rfl
    · rw [unhexI_odd l (by simp at h; omega)]; rfl
/-- two letters more -/
theorem unhexI_snoc : ∀ (l m : List Int) (a b : Int), unhexI l = some m → unhexI (l ++ [a, b]) = if halfI a < 0 ∨ halfI b < 0 then none else some (m ++ [16 * halfI a + halfI b])
  | [], m, a, b, h => by
    simp only [unhexI, Option.some.injEq] at h; subst h
    simp only [List.nil_append, unhexI]; split <;> simp
  | [_], m, a, b, h => by simp [unhexI] at h
  | x :: y :: l, m, a, b, h => by
    simp only [unhexI] at h
    split at h
    · cases h
    · rename_i hn
      obtain ⟨m', h1, h2⟩ := Option.map_eq_some_iff.1 h
      subst h2
      simp only [List.cons_append, unhexI]
      rw [if_neg hn, unhexI_snoc l m' a b h1]
      split <;> simp
/-- what does not go on does not begin -/
theorem unhexI_bad : ∀ (l r : List Int), l.length % 2 = 0 → unhexI l = none → unhexI (l ++ r) = none
  | [], r, _, h => by simp [unhexI] at h
  | [_], r, h, _ => by simp at h
  | a :: b :: l, r, hl, h => by
    simp only [List.cons_append, unhexI] at h ⊢
    split
    · rfl
    · rename_i hn
      rw [if_neg hn] at h
      rw [unhexI_bad l r (by simp at hl; omega) (by simpa using h)]; rfl
theorem unhexI_letter : ∀ (l : List Int) (i : Nat), i < l.length → halfI (l[i]?.getD 0) < 0 → unhexI l = none
  | [], i, h, _ => by simp at h
  | [_], i, _, _ => rfl
  | a :: b :: l, i, h, hb => by
    simp only [unhexI]
    split
    · rfl
    · rename_i hn
      rcases i with _ | _ | i
      · simp at hb; omega
      · simp at hb; omega
      · rw [unhexI_letter l i (by simp at h; omega) (by simpa using hb)]; rfl

/-- a string's bytes -/
def numsOf (s : ByteArray) : List Int := s.data.toList.map fun b => (b.toNat : Int)
theorem numsOf_len (s : ByteArray) : (numsOf s).length = s.size := by rw [numsOf, List.length_map, Array.length_toList]; rfl
theorem numsOf_bytes (s : ByteArray) : Bytes (numsOf s) := by
  intro b hb
  obtain ⟨x, _, rfl⟩ := List.mem_map.1 hb
  have := x.toNat_lt
  omega
theorem str_nums (s : ByteArray) : strOfNums (numsOf s) = s := by
  unfold strOfNums numsOf
  rw [List.map_map]
  have : ((fun n : Int => UInt8.ofNat n.toNat) ∘ fun b : UInt8 => (b.toNat : Int)) = id := by
    funext b
    show UInt8.ofNat ((b.toNat : Int)).toNat = b
    rw [Int.toNat_natCast]; exact UInt8.ofNat_toNat
  rw [this, List.map_id]
theorem nums_str (l : List Int) (h : Bytes l) : numsOf (strOfNums l) = l := by
  unfold numsOf
  rw [strOfNums_data, List.map_map]
  have : ∀ x ∈ l, ((fun b : UInt8 => (b.toNat : Int)) ∘ fun n : Int => UInt8.ofNat n.toNat) x = x := fun x hx => by
    have := h x hx
    show (((UInt8.ofNat x.toNat).toNat : Nat) : Int) = x
    rw [UInt8.toNat_ofNat']; omega
  rw [List.map_congr_left this, List.map_id']
theorem str_inj {a b : List Int} (ha : Bytes a) (hb : Bytes b) : strOfNums a = strOfNums b ↔ a = b :=
  ⟨fun h => by rw [← nums_str a ha, ← nums_str b hb, h], fun h => by rw [h]⟩
theorem nums_inj {a b : ByteArray} : numsOf a = numsOf b ↔ a = b :=
  ⟨fun h => by rw [← str_nums a, ← str_nums b, h], fun h => by rw [h]⟩
end Go.Proofs.YtoeooabaofpngaaDoor
