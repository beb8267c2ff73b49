/- The plain law of OctetBack. -/
import Derived.Test.YtoeooabaofpngaaOj
namespace Go.Proofs.Ytoeooabaofpngaa
open Go.RowKit Go.Sort

/-- bytes that stand behind others are taken -/
theorem takeB_mid (a b c : List Int) (s : Int) (hs : okz s = true) (hb : (b.length : Int) = s) : takeB (a ++ (b ++ c)) a.length s = (ofBytes b, a.length + s, 0) := by
  have hs2 : 1 ≤ s := by rw [okz_iff] at hs; omega
  rw [takeB_ok (by rw [hs]; simp; omega) (by simp only [List.length_append]; omega)]
  rw [Int.toNat_natCast, List.drop_left, show s.toNat = b.length by omega, List.take_left]
theorem back_take (head tail : List Int) (n : Int) (k : Nat) (hk : okz k = true) : takeB (putB head n k ++ tail) head.length k = (n % 256 ^ k, ((head.length : Nat) : Int) + k, 0) := by
  unfold putB
  rw [if_pos hk, List.append_assoc, Int.toNat_natCast, takeB_mid _ _ _ _ hk (by rw [low_length]), ofBytes_low]
theorem back_get (a b : List Int) (x : Int) : (a ++ (x :: b))[a.length]?.getD 0 = x := by simp
theorem back_var (head tail : List Int) (n : Int) (h0 : 0 ≤ n) (h1 : n ≤ 18446744073709551615) : tvarB (head ++ varB n ++ tail) head.length = (n, ((head.length : Nat) : Int) + ((varB n).length : Nat), 0) := by
  unfold tvarB
  rw [List.append_assoc]
  have hl := (varB_len n).1
  rw [take_one _ head.length (by simp only [List.length_append]; omega)]
  have two : ∀ (c s : Int), okz s = true → 2 ≤ s → (formB n).1 = s → n < 256 ^ s.toNat → tvar2 (head ++ (c :: low n s.toNat ++ tail)) ((head.length : Int) + 1) s = (n, ((head.length : Nat) : Int) + (1 + s), 0) := by
    intro c s hz hs hf hn
    have e : head ++ (c :: low n s.toNat ++ tail) = (head ++ [c]) ++ (low n s.toNat ++ tail) := by simp
    have e2 : (head.length : Int) + 1 = ((head ++ [c]).length : Nat) := by simp
    unfold tvar2
    rw [e, e2, takeB_mid _ _ _ _ hz (by rw [low_length]; omega), ofBytes_low, Int.emod_eq_of_lt h0 hn, if_neg (by simp [hf])]
    simp; omega
  by_cases a1 : n < 253
  · have hv : varB n = [n] := by unfold varB; rw [if_pos a1, low_one]; congr 1; omega
    rw [hv, List.singleton_append, back_get]
    unfold tvar1
    simp only
    rw [if_neg (by simp), if_neg (by omega), if_neg (by omega), if_neg (by omega)]
    simp
  by_cases a2 : n < 65536
  · have hv : varB n = 253 :: low n 2 := by unfold varB; rw [if_neg a1, if_pos a2]
    have hf : (formB n).1 = 2 := by unfold formB; rw [if_neg (by omega), if_neg (by omega), if_pos (by omega)]
    have h2 : tvar2 (head ++ (253 :: low n 2 ++ tail)) ((head.length : Int) + 1) 2 = (n, ((head.length : Nat) : Int) + (1 + 2), 0) := two 253 2 rfl (by omega) hf a2
    rw [hv, List.cons_append, back_get]
    unfold tvar1
    simp only
    rw [if_neg (by simp), if_neg (by omega), if_neg (by omega), if_pos trivial]
    rw [List.cons_append] at h2
    rw [h2, List.length_cons, low_length]
    simp; try omega
  by_cases a3 : n < 4294967296
  · have hv : varB n = 254 :: low n 4 := by unfold varB; rw [if_neg a1, if_neg a2, if_pos a3]
    have hf : (formB n).1 = 4 := by unfold formB; rw [if_neg (by omega), if_pos (by omega)]
    have h2 : tvar2 (head ++ (254 :: low n 4 ++ tail)) ((head.length : Int) + 1) 4 = (n, ((head.length : Nat) : Int) + (1 + 4), 0) := two 254 4 rfl (by omega) hf a3
    rw [hv, List.cons_append, back_get]
    unfold tvar1
    simp only
    rw [if_neg (by simp), if_neg (by omega), if_pos trivial]
    rw [List.cons_append] at h2
    rw [h2, List.length_cons, low_length]
    simp; try omega
  · have hv : varB n = 255 :: low n 8 := by unfold varB; rw [if_neg a1, if_neg a2, if_neg a3]
    have hf : (formB n).1 = 8 := by unfold formB; rw [if_pos (by omega)]
    have h2 : tvar2 (head ++ (255 :: low n 8 ++ tail)) ((head.length : Int) + 1) 8 = (n, ((head.length : Nat) : Int) + (1 + 8), 0) := two 255 8 rfl (by omega) hf (by show n < 18446744073709551616; omega)
    rw [hv, List.cons_append, back_get]
    unfold tvar1
    simp only
    rw [if_neg (by simp), if_pos trivial]
    rw [List.cons_append] at h2
    rw [h2, List.length_cons, low_length]
    simp; try omega
/-- what stands at the front, as it stood there -/
theorem back_front (tail : List Int) (hb : Bytes tail) : ((tvarB tail 0).2.2 = 5 ∧ (tvarB tail 0).1 = 0 ∧ (tvarB tail 0).2.1 = 0) ∨
    ((tvarB tail 0).2.2 = 0 ∧ ∃ e : Nat, (tvarB tail 0).2.1 = e ∧ 0 < e ∧ e ≤ tail.length ∧ varB (tvarB tail 0).1 = tail.take e) := by
  rw [← rtvar_eq tail 0 hb]
  unfold rtvarB
  rw [if_neg (by omega)]
  have key : ∀ (k : Nat) (s : Int), 1 ≤ s → ((rtv tail 0 k s).2.2 = 5 ∧ (rtv tail 0 k s).1 = 0 ∧ (rtv tail 0 k s).2.1 = 0) ∨
      ((rtv tail 0 k s).2.2 = 0 ∧ ∃ e : Nat, (rtv tail 0 k s).2.1 = e ∧ 0 < e ∧ e ≤ tail.length ∧ varB (rtv tail 0 k s).1 = tail.take e) := by
    intro k
    induction k with
    | zero => intro s _; exact .inl ⟨rfl, rfl, rfl⟩
    | succ k ih =>
      intro s hs
      rw [rtv]
      by_cases h : isB tail 0 s = true
      · rw [if_pos h]
        right
        unfold isB at h
        simp only [Bool.and_eq_true, decide_eq_true_eq, startsB] at h
        obtain ⟨-, ⟨h1, h2⟩, h3⟩ := h
        have hl := varB_len (takeB tail (minB (fromB 0 s) tail.length) s).1
        refine ⟨rfl, (varB (takeB tail (minB (fromB 0 s) tail.length) s).1).length, ?_, by omega, by simpa using h1, ?_⟩
        · simp only; omega
        · simp only; simpa using h2.symm
      · rw [if_neg h]
        exact ih (2 * s) (by omega)
  exact key 4 1 (by omega)
end Go.Proofs.Ytoeooabaofpngaa
