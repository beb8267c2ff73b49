/- The plain law of TakeVar: both read the same. -/
import Derived.Test.YtoeooabaofpngaaOi
namespace Go.Proofs.Ytoeooabaofpngaa
open Go.RowKit Go.Sort

/-- the first byte that tells a size -/
def cc (s : Int) : Int := if s = 8 then 255 else if s = 4 then 254 else 253
theorem form_var (n s : Int) (_ : s = 2 ∨ s = 4 ∨ s = 8) : ((varB n).length : Int) = s + 1 ↔ (formB n).1 = s := by
  unfold varB formB
  by_cases h1 : n < 253
  · rw [if_pos h1, if_neg (by omega), if_neg (by omega), if_neg (by omega), low_length]; omega
  by_cases h2 : n < 65536
  · rw [if_neg h1, if_pos h2, if_neg (by omega), if_neg (by omega), if_pos (by omega), List.length_cons, low_length]; omega
  by_cases h3 : n < 4294967296
  · rw [if_neg h1, if_neg h2, if_pos h3, if_neg (by omega), if_pos (by omega), List.length_cons, low_length]; omega
  · rw [if_neg h1, if_neg h2, if_neg h3, if_pos (by omega), List.length_cons, low_length]; omega
theorem var_form (n s : Int) (h0 : 0 ≤ n) (hs : s = 2 ∨ s = 4 ∨ s = 8) (h : (formB n).1 = s) : varB n = cc s :: low n s.toNat := by
  unfold formB at h
  unfold varB cc
  by_cases h1 : 4294967296 ≤ n
  · rw [if_pos h1] at h
    simp only at h
    subst h
    rw [if_neg (by omega), if_neg (by omega), if_neg (by omega)]; rfl
  rw [if_neg h1] at h
  by_cases h2 : 65536 ≤ n
  · rw [if_pos h2] at h
    simp only at h
    subst h
    rw [if_neg (by omega), if_neg (by omega), if_pos (by omega)]; rfl
  rw [if_neg h2] at h
  by_cases h3 : 253 ≤ n
  · rw [if_pos h3] at h
    simp only at h
    subst h
    rw [if_neg (by omega), if_pos (by omega)]; rfl
  rw [if_neg h3] at h
  simp only at h
  omega
theorem take_one (xs : List Int) (j : Nat) (h : j < xs.length) : takeB xs j 1 = (xs[j]?.getD 0, (j : Int) + 1, 0) := by
  rw [takeB_ok (by simp [okz]; omega) (by omega)]
  have := cut_cons xs j 0 h
  rw [List.take_zero] at this
  show (ofBytes ((xs.drop ((j : Int)).toNat).take (0 + 1)), _) = _
  rw [Int.toNat_natCast, this]
  simp [ofBytes]
theorem isB_one (xs : List Int) (j : Nat) (h : j < xs.length) (hb : Bytes xs) : isB xs j 1 = decide (xs[j]?.getD 0 < 253) := by
  have hx := hb.at j h
  have hc := cut_cons xs j 0 h
  rw [List.take_zero, Nat.zero_add] at hc
  unfold isB
  have hf : fromB (j : Int) 1 = j := rfl
  have hm : minB (j : Int) xs.length = j := by unfold minB; rw [if_neg (by omega)]
  rw [hf, hm, take_one xs j h]
  generalize xs[j]?.getD 0 = x at *
  simp only [Int.toNat_natCast]
  by_cases hlt : x < 253
  · have hv : varB x = [x] := by unfold varB; rw [if_pos hlt, low_one]; congr 1; omega
    rw [hv, decide_eq_true hlt]
    unfold startsB
    rw [List.length_singleton, hc, decide_eq_true (show (1 : Nat) ≤ xs.length - j ∧ [x] = [x] from ⟨by omega, rfl⟩), decide_eq_true (show ((1 : Nat) : Int) = 1 + (j : Int) - j by omega)]
    rfl
  · rw [decide_eq_false hlt]
    have hl : ¬ ((varB x).length : Int) = 1 + (j : Int) - j := by
      unfold varB; rw [if_neg hlt, if_pos (by omega), List.length_cons, low_length]; omega
    rw [decide_eq_false hl]
    simp
theorem isB_big (xs : List Int) (j : Nat) (s : Int) (h : j < xs.length) (hb : Bytes xs) (hs : s = 2 ∨ s = 4 ∨ s = 8) :
    isB xs j s = (decide (xs[j]?.getD 0 = cc s) && decide ((takeB xs (j + 1) s).2.2 = 0 ∧ (formB (takeB xs (j + 1) s).1).1 = s)) := by
  have hl : fromB (j : Int) s = j + 1 := by unfold fromB; rw [if_pos (by omega)]
  have hm : minB ((j : Int) + 1) xs.length = j + 1 := by unfold minB; rw [if_neg (by omega)]
  have hz : okz s = true := by rw [okz_iff]; omega
  unfold isB
  rw [hl, hm]
  by_cases h2 : (xs.length : Int) - (j + 1) < s
  · rw [takeB_bytes (by rw [hz]; simp; omega) h2]; simp
  rw [takeB_ok (by rw [hz]; simp; omega) h2]
  simp only [decide_true, Bool.true_and, true_and, Int.toNat_natCast]
  have hlen : ((xs.drop ((j : Int) + 1).toNat).take s.toNat).length = s.toNat := by rw [List.length_take, List.length_drop]; omega
  have hby : Bytes ((xs.drop ((j : Int) + 1).toNat).take s.toNat) := (hb.drop _).take _
  have hlow := low_ofBytes _ hby
  rw [hlen] at hlow
  have h0 := (ofBytes_bd _ hby).1
  have hcut := cut_cons xs j s.toNat h
  rw [show ((j : Int) + 1).toNat = j + 1 by omega] at *
  generalize (xs.drop (j + 1)).take s.toNat = part at *
  generalize ofBytes part = n at *
  have e1 : decide (((varB n).length : Int) = s + ((j : Int) + 1) - j) = decide ((formB n).1 = s) := by
    rw [show s + ((j : Int) + 1) - j = s + 1 by omega]
    exact decide_eq_decide.2 (form_var n s hs)
  rw [e1]
  by_cases hf : (formB n).1 = s
  · rw [decide_eq_true hf, Bool.and_true, Bool.and_true, var_form n s h0 hs hf, hlow]
    unfold startsB
    rw [List.length_cons, hlen, hcut]
    refine decide_eq_decide.2 ⟨fun e => ?_, fun e => ⟨by omega, by rw [e]⟩⟩
    have := e.2
    injection this
  · rw [decide_eq_false hf, Bool.and_false, Bool.and_false]

theorem rtvar_eq (xs : List Int) (i : Int) (hb : Bytes xs) : rtvarB xs i = tvarB xs i := by
  unfold rtvarB tvarB
  by_cases h : i < 0 ∨ (xs.length : Int) < i
  · rw [if_pos h, takeB_arg (.inr h)]; rfl
  rw [if_neg h]
  obtain ⟨j, rfl⟩ := Int.eq_ofNat_of_zero_le (show 0 ≤ i by omega)
  by_cases hj : j < xs.length
  case neg =>
    have hx : (j : Int) = xs.length := by omega
    have no : ∀ s : Int, s = 1 ∨ s = 2 ∨ s = 4 ∨ s = 8 → isB xs j s = false := by
      intro s hs
      unfold isB
      have hm : minB (fromB (j : Int) s) xs.length = j := by unfold minB fromB; split <;> split <;> omega
      rw [hm, takeB_bytes (by have hz : okz s = true := (by rw [okz_iff]; exact hs); rw [hz]; simp; omega) (by omega)]
      simp
    rw [takeB_bytes (by simp [okz]; omega) (by omega)]
    simp only [rtv]
    rw [no 1 (by omega), no (2 * 1) (by omega), no (2 * (2 * 1)) (by omega), no (2 * (2 * (2 * 1))) (by omega)]
    rfl
  rw [take_one xs j hj]
  have hx := hb.at j hj
  have i1 := isB_one xs j hj hb
  have i2 := isB_big xs j 2 hj hb (by omega)
  have i4 := isB_big xs j 4 hj hb (by omega)
  have i8 := isB_big xs j 8 hj hb (by omega)
  have mm : ∀ s : Int, s = 2 ∨ s = 4 ∨ s = 8 → minB (fromB (j : Int) s) xs.length = j + 1 := fun s hs => by unfold minB fromB; rw [if_pos (show 1 < s by omega)]; split <;> omega
  have m1 : minB (fromB (j : Int) 1) xs.length = j := by unfold minB fromB; rw [if_neg (show ¬ (1 : Int) < 1 by omega)]; split <;> omega
  have ff : ∀ s : Int, s = 2 ∨ s = 4 ∨ s = 8 → fromB (j : Int) s = j + 1 := fun s hs => by unfold fromB; rw [if_pos (show 1 < s by omega)]
  have f1 : fromB (j : Int) 1 = j := rfl
  have t1 := take_one xs j hj
  simp only [rtv, show (2 : Int) * 1 = 2 by rfl, show (2 : Int) * 2 = 4 by rfl, show (2 : Int) * 4 = 8 by rfl]
  rw [i1, i2, i4, i8, m1, mm 2 (by omega), mm 4 (by omega), mm 8 (by omega), f1, ff 2 (by omega), ff 4 (by omega), ff 8 (by omega), t1]
  generalize xs[j]?.getD 0 = x at *
  have c2 : cc 2 = 253 := rfl
  have c4 : cc 4 = 254 := rfl
  have c8 : cc 8 = 255 := rfl
  rw [c2, c4, c8]
  have adv : ∀ s : Int, (takeB xs ((j : Int) + 1) s).2.2 = 0 → (takeB xs ((j : Int) + 1) s).2.1 = (j : Int) + 1 + s := by
    intro s
    unfold takeB
    split
    · simp
    split
    · simp
    · simp
  have two : ∀ s : Int, (if decide ((takeB xs ((j : Int) + 1) s).2.2 = 0 ∧ (formB (takeB xs ((j : Int) + 1) s).1).1 = s) = true then ((takeB xs ((j : Int) + 1) s).1, (j : Int) + 1 + s, (0 : Int)) else (0, 0, 5)) = tvar2 xs ((j : Int) + 1) s := by
    intro s
    unfold tvar2
    by_cases he : (takeB xs ((j : Int) + 1) s).2.2 = 0 ∧ (formB (takeB xs ((j : Int) + 1) s).1).1 = s
    · rw [if_pos (decide_eq_true he), if_neg (by simp [he.1, he.2]), adv s he.1]
    · rw [if_neg (by simpa using he), if_pos (by by_cases h1 : (takeB xs ((j : Int) + 1) s).2.2 = 0
                                                 · exact .inr fun h2 => he ⟨h1, h2⟩
                                                 · exact .inl h1)]
  unfold tvar1
  simp only
  rw [if_neg (show ¬ ((0 : Int) ≠ 0) by simp)]
  by_cases h1 : x < 253
  · rw [decide_eq_true h1, if_pos rfl, if_neg (by omega), if_neg (by omega), if_neg (by omega)]
  rw [decide_eq_false h1, if_neg (show ¬ (false = true) by simp)]
  rcases (show x = 253 ∨ x = 254 ∨ x = 255 by omega) with rfl | rfl | rfl
  · rw [if_neg (show ¬ (253 : Int) = 255 by omega), if_neg (show ¬ (253 : Int) = 254 by omega), if_pos rfl, ← two 2]
    simp
  · rw [if_neg (show ¬ (254 : Int) = 255 by omega), if_pos rfl, ← two 4]
    simp
  · rw [if_pos rfl, ← two 8]
    simp
end Go.Proofs.Ytoeooabaofpngaa
