/- The document's disk: what is done to bytes. -/
import Derived.Test.YtfohemgfiidokaaEu
import Derived.Deep.QuietTactic
import Derived.BigQuiet
import Derived.StillTailTactics
namespace Go.Proofs.Ytfohemgfiidokaa
open Go.RowKit Go.Sort diskKeeps

/-- the cells of a change -/
def rcell : Chg → List Value
  | .wr b => [.bool false, .string (strOfNums b), .int .i64 0]
  | .ct n => [.bool true, .string (strOfNums []), .int .i64 n]
def rcells : List Chg → List Value
  | [] => []
  | c :: t => rcell c ++ rcells t
theorem rcell_len (c : Chg) : (rcell c).length = 3 := by cases c <;> rfl
theorem rcells_len : ∀ l : List Chg, (rcells l).length = l.length * 3
  | [] => rfl
  | c :: t => by simp only [rcells, List.length_append, rcell_len, rcells_len t, List.length_cons]; omega
theorem rcells_app (a b : List Chg) : rcells (a ++ b) = rcells a ++ rcells b := by
  induction a with
  | nil => rfl
  | cons c t ih => simp only [List.cons_append, rcells, ih, List.append_assoc]
theorem rcells_get : ∀ (l : List Chg) (j : Nat) (h : j < l.length) (k : Nat), k < 3 → (rcells l)[j * 3 + k]? = (rcell l[j])[k]?
  | c :: t, 0, _, k, hk => by
    simp only [rcells, Nat.zero_mul, Nat.zero_add, List.getElem_cons_zero]
    rw [List.getElem?_append_left (by rw [rcell_len]; exact hk)]
  | c :: t, j + 1, h, k, hk => by
    simp only [rcells, List.getElem_cons_succ]
    rw [List.getElem?_append_right (by rw [rcell_len]; omega), rcell_len, show (j + 1) * 3 + k - 3 = j * 3 + k by omega]
    exact rcells_get t j (by simpa using h) k hk
def NonNeg (l : List Chg) : Prop := ∀ n, Chg.ct n ∈ l → 0 ≤ n
/-- a row of changes that may be read -/
def RLoose (w : World) (v : Value) (l : List Chg) : Prop :=
  ∃ p cap, v = .slice p l.length cap ∧ NonNeg l ∧ ∀ j (h : j < l.length), ∃ g, p = some ⟨g, 0, none⟩ ∧ ∀ k, k < 3 → w.cell? ⟨g, j * 3 + k, none⟩ = (rcell l[j])[k]?
def Chg.used (u : Int) : Chg → Int
  | .wr b => min u b.length
  | .ct _ => 1
def refF (b : List Int) (u : Int) : List Chg → List Int
  | [] => b
  | c :: t => if u ≤ 0 then b else refF (c.done b u) (u - c.used u) t
theorem keptF_stop (l : List Chg) (b : List Int) (u : Int) (h : u ≤ 0) : keptF b u l = b ∧ refF b u l = b := by
  cases l with
  | nil => exact ⟨rfl, rfl⟩
  | cons c t => simp only [keptF, refF]; rw [if_pos h, if_pos h]; exact ⟨rfl, rfl⟩
theorem refF_kept : ∀ (l : List Chg) (b : List Int) (u : Int), refF b u l = keptF b u l
  | [], _, _ => rfl
  | c :: t, b, u => by
    simp only [refF, keptF]
    split
    · rfl
    · rw [refF_kept t]
      cases c with
      | ct n => rfl
      | wr x =>
        simp only [Chg.used, Chg.units]
        by_cases h : u ≤ x.length
        · rw [Int.min_eq_left h, (keptF_stop t _ (u - u) (by omega)).1, (keptF_stop t _ (u - x.length) (by omega)).1]
        · rw [Int.min_eq_right (by omega)]

set_option maxRecDepth 100000 in
set_option maxHeartbeats 1600000 in
theorem done_c (s : List Int) (v : Value) (l : List Chg) (u : Int) (w : World) (hl : RLoose w v l) (hL : s.length + sizes l ≤ 1000000000) (hn : l.length ≤ 1000000000) (hu : -9223372036854775808 ≤ u) (hu' : u ≤ 9223372036854775807) :
    Calls Try.prog 42 #[.string (strOfNums s), v, .int .i64 u] w fun e w' => e = .returned (.string (strOfNums (refF s u l))) ∧ w' = w := by
  obtain ⟨p, cap, rfl, hnn, hel⟩ := hl
  have HE := Lib.hid (And.intro hnn hel)
  clear hnn hel
  go_enter Try.func42, Try.ntmps42
  go_wp2_with fail
  go_loop [0, 2, 7] (fun sv uv iv => ∃ (k : Nat) (b : List Int) (u' : Int), k ≤ l.length ∧ iv = .int .i64 k ∧ uv = .int .i64 u' ∧ sv = .string (strOfNums b) ∧ refF b u' (l.drop k) = refF s u l ∧ b.length + sizes (l.drop k) ≤ 1000000000 ∧ -9223372036854775808 ≤ u' ∧ u' ≤ 9223372036854775807) (fun _ _ i => l.length - (intOf i).toNat)
  case atStart => exact ⟨0, s, u, by omega, rfl, rfl, rfl, rfl, hL, hu, hu'⟩
  case round =>
    clear hu hu' hL
    obtain ⟨k, b, u', hk, rfl, rfl, rfl, hkf, hsz, hu0, hu1⟩ := hrel
    have hk0 : (0 : Int) ≤ k := by omega
    by_cases hlt : k < l.length
    · have hkl : (k : Int) < l.length := by omega
      have hdr : l.drop k = l[k] :: l.drop (k + 1) := List.drop_eq_getElem_cons hlt
      obtain ⟨g, rfl, hcell⟩ := HE.out.2 k hlt
      have hck0 := HE.out.1
      have hmem : l[k] ∈ l := List.getElem_mem hlt
      rw [hdr] at hkf hsz
      generalize l[k] = c at hkf hsz hcell hmem
      simp only [sizes] at hsz
      simp only [refF] at hkf
      have c0 := hcell 0 (by omega)
      have c1 := hcell 1 (by omega)
      have c2 := hcell 2 (by omega)
      rw [Nat.add_zero] at c0
      by_cases hu2 : u' ≤ 0
      · rw [if_pos hu2] at hkf
        have HK := Lib.hid hkf
        clear hkf hdr hcell hck0 hmem c0 c1 c2
        go_wp2_with fail
        go_ret
        refine ⟨?_, rfl⟩
        rw [← HK.out]
        rfl
      · have hu3 : 0 < u' := by omega
        rw [if_neg hu2] at hkf
        have HK := Lib.hid hkf
        clear hkf hdr hcell hu2
        cases c with
        | ct n =>
          have n0 : 0 ≤ n := hck0 n hmem
          simp only [rcell, List.getElem?_cons_zero, List.getElem?_cons_succ] at c0 c1 c2
          have hsb := strOfNums_size b
          have hsz' : b.length ≤ 1000000000 := by omega
          clear hck0 hmem
          by_cases hnb : n ≤ (b.length : Int)
          · obtain ⟨m, rfl⟩ : ∃ m : Nat, n = m := ⟨n.toNat, by omega⟩
            have hex := str_cut b m
            go_wp2_with fail
            go_round
            case rel => exact ⟨k + 1, b.take m, u' - 1, by omega, by go_num, rfl, by first | rfl | rw [str_cut], HK.out, by (rw [List.length_take]; simp only [Chg.size] at hsz; omega), by omega, by omega⟩
            case measure => simp [intOf]; omega
          · have hex := str_cut b b.length
            rw [List.take_length] at hex
            go_wp2_with fail
            go_round
            case rel => exact ⟨k + 1, b, u' - 1, by omega, by go_num, rfl, rfl, by (have := HK.out; simp only [Chg.done, Chg.used] at this; rw [List.take_of_length_le (by omega)] at this; exact this), by (simp only [Chg.size] at hsz; omega), by omega, by omega⟩
            case measure => simp [intOf]; omega
        | wr x =>
          simp only [rcell, List.getElem?_cons_zero, List.getElem?_cons_succ] at c0 c1 c2
          have hsx := strOfNums_size x
          have hsz' : b.length + (x.length + sizes (l.drop (k + 1))) ≤ 1000000000 := hsz
          clear hck0 hmem c2
          have hsb := strOfNums_size b
          have hbx : ¬ 9223372036854775807 < b.length + x.length := by omega
          by_cases hxu : u' ≤ (x.length : Int)
          · obtain ⟨m, rfl⟩ : ∃ m : Nat, u' = m := ⟨u'.toNat, by omega⟩
            have hex := str_cut x m
            have had := str_add b (x.take m) (by rw [List.length_take]; omega)
            go_wp2_with fail
            go_round
            case rel => exact ⟨k + 1, b ++ x.take m, m - m, by omega, by go_num, by first | rfl | simp, rfl, by (have := HK.out; simp only [Chg.done, Chg.used, Int.toNat_natCast] at this; rw [Int.min_eq_left (by omega)] at this; exact this), by (rw [List.length_append, List.length_take]; omega), by omega, by omega⟩
            case measure => simp [intOf]; omega
          · have hex := str_cut x x.length
            rw [List.take_length] at hex
            have had := str_add b x (by omega)
            have x0 : (0 : Int) ≤ x.length := by omega
            go_wp2_with fail
            go_round
            case rel => exact ⟨k + 1, b ++ x, u' - x.length, by omega, by go_num, rfl, rfl, by (have := HK.out; simp only [Chg.done, Chg.used] at this; rw [Int.min_eq_right (by omega), List.take_of_length_le (by omega)] at this; exact this), by (rw [List.length_append]; omega), by omega, by omega⟩
            case measure => simp [intOf]; omega
    · have hkk : k = l.length := by omega
      subst hkk
      rw [List.drop_length] at hkf
      have HK := Lib.hid hkf
      clear hkf
      go_wp2_with fail
      go_ret
      refine ⟨?_, rfl⟩
      rw [← HK.out]
      rfl
end Go.Proofs.Ytfohemgfiidokaa
