/- The document's digits. -/
import Derived.Test.YtoeooabaofpngaaDoorVa
namespace Go.Proofs.YtoeooabaofpngaaDoor
open Go.RowKit Go.Sort
attribute [local go_sem ↓] Go.wp_at_zero Go.wp_at_succ

theorem rd_text {w : World} {v : Value} {xs : List Int} (h : RdB w v xs) : (convert 31 9 v).run Tryd.prog w = .ok (.string (strOfNums xs)) w := by
  rcases h with ⟨h1, h2⟩ | ⟨a, g, o, cap, h1, h2, h3, h4⟩
  · subst h2
    rw [h1]
    exact run_convert_bytes_nil w 31 5 Tryd.underlying31 Tryd.underlying5 0 0 9 Tryd.underlying9
  · rw [h1]
    by_cases h0 : 0 < xs.length
    · rw [h3 h0]
      exact run_convert_bytes_arg w 31 5 Tryd.underlying31 Tryd.underlying5 g o xs.length cap xs rfl (fun i hi => by rw [h4 i hi]; simp) 9 Tryd.underlying9
    · obtain ⟨g2, o2, sp⟩ := a
      have hx : xs = [] := List.length_eq_zero_iff.1 (by omega)
      subst hx
      rcases sp with _ | sp
      · exact run_convert_bytes_arg w 31 5 Tryd.underlying31 Tryd.underlying5 g2 o2 0 cap [] rfl (fun i hi => by omega) 9 Tryd.underlying9
      · rw [run_convert_bytes_string w 31 9 5 _ _ _ Tryd.underlying31 Tryd.underlying5 Tryd.underlying9]
        simp [Conv.bytesToString, loadCells, strOfNums]
        rfl
/-- a numeral's last digit is laid, and is a text -/
theorem dig_text (w : World) (x : Int) : (convert 31 9 (.slice (some ⟨w.heap.size, 0, none⟩) 1 1)).run Tryd.prog (w.alloc (.cells #[.int .u8 x] 5)) = .ok (.string (strOfNums [x])) (w.alloc (.cells #[.int .u8 x] 5)) := rd_text (rdb_one w x)
theorem str_add (A B : List Int) (h : A.length + B.length ≤ 9223372036854775807) (w : World) : (Op.stringOp .add (strOfNums A) (strOfNums B)).run Tryd.prog w = .ok (.string (strOfNums (A ++ B))) w := by
  rw [run_string_add_if, if_neg (by rw [strOfNums_size, strOfNums_size]; omega), str_app]
set_option maxRecDepth 100000 in
theorem digits1_c (u : Nat) (h : u < 10) (w : World) : Calls Tryd.prog 19 #[.int .i64 u] w fun e w' => e = .returned (.string (strOfNums (itoI u))) ∧ Below w.heap.size w w' := by
  have hd := dig_text w (48 + (u : Int))
  have hi : itoI (u : Int) = [48 + (u : Int)] := by rw [itoI_pos _ (by omega), Int.toNat_natCast, decI_small u h]
  rw [hi]
  have h0 : ¬ (u : Int) < 0 := by omega
  have hB := Lib.hid (bel_alloc (Below.refl _ w) (.cells #[.int .u8 (48 + (u : Int))] 5))
  have hq : (u : Int) / 10 = 0 := by omega
  have hr : (u : Int) % 10 = u := by omega
  clear hi
  go_enter Tryd.func19, Tryd.ntmps19
  go_wp2_with fail
  go_ret
  exact ⟨rfl, hB.out⟩
set_option maxRecDepth 100000 in
theorem digits2_c (u : Nat) (h : ¬ u < 10) (hu : u ≤ 9223372036854775807) (w : World) (k : ∀ W, Calls Tryd.prog 19 #[.int .i64 ((u : Int) / 10)] W fun e w' => e = .returned (.string (strOfNums (itoI ((u : Int) / 10)))) ∧ Below W.heap.size W w') :
    Calls Tryd.prog 19 #[.int .i64 u] w fun e w' => e = .returned (.string (strOfNums (itoI u))) ∧ Below w.heap.size w w' := by
  have hd := dig_text w (48 + (u : Int) % 10)
  have hi : itoI (u : Int) = itoI ((u : Int) / 10) ++ [48 + (u : Int) % 10] := by
    rw [itoI_pos _ (by omega), itoI_pos _ (by omega), Int.toNat_natCast, decI_big u h, show ((u : Int) / 10).toNat = u / 10 by omega]
    simp
  have hl := itoI_len ((u : Int) / 10) (by omega) (by omega)
  have ha := str_add (itoI ((u : Int) / 10)) [48 + (u : Int) % 10] (by simp; omega)
  rw [← hi] at ha
  have hB := Lib.hid (bel_alloc (Below.refl _ w) (.cells #[.int .u8 (48 + (u : Int) % 10)] 5))
  have h0 : ¬ (u : Int) < 0 := by omega
  have hb1 : (u : Int) ≤ 9223372036854775807 := by omega
  have hq : ¬ (u : Int) / 10 = 0 := by omega
  obtain ⟨q, hqe⟩ : ∃ q, itoI ((u : Int) / 10) = q := ⟨_, rfl⟩
  rw [hqe] at ha k
  have hm0 : 0 ≤ (u : Int) % 10 := by omega
  have hm1 : (u : Int) % 10 ≤ 9 := by omega
  clear hi hl hqe
  go_enter Tryd.func19, Tryd.ntmps19
  go_wp2_with (go_at_call 19; (with_reducible refine (k _).mono ?_); rintro e w2 ⟨rfl, hb2⟩)
  go_ret
  exact ⟨rfl, bel_call hB.out hb2⟩
set_option maxRecDepth 100000 in
theorem digits3_c (u : Nat) (h : u < 10) (h1 : 0 < u) (w : World) : Calls Tryd.prog 19 #[.int .i64 (-(u : Int))] w fun e w' => e = .returned (.string (strOfNums (itoI (-(u : Int))))) ∧ Below w.heap.size w w' := by
  have hi : itoI (-(u : Int)) = [45] ++ itoI (u : Int) := by
    rw [itoI_neg _ (by omega), itoI_pos _ (by omega), Int.natAbs_neg, Int.natAbs_natCast, Int.toNat_natCast]; rfl
  have hl := itoI_len (u : Int) (by omega) (by omega)
  have ha := str_add [45] (itoI (u : Int)) (by simp; omega)
  rw [← hi] at ha
  have k := digits1_c u h w
  obtain ⟨q, hqe⟩ : ∃ q, itoI (u : Int) = q := ⟨_, rfl⟩
  rw [hqe] at ha k
  clear hi hl hqe
  have ha2 : ∀ w, (Op.stringOp .add { data := #[45] } (strOfNums q)).run Tryd.prog w = .ok (.string (strOfNums (itoI (-(u : Int))))) w := ha
  clear ha
  have h0 : -(u : Int) < 0 := by omega
  have hq : (-(u : Int)).tdiv 10 = 0 := by
    rw [Int.neg_tdiv, Int.tdiv_eq_ediv_of_nonneg (by omega)]; omega
  have hw : IntKind.i64.wrap (u : Int) = (u : Int) := by rw [IntKind.wrap_i64]; omega
  go_enter Tryd.func19, Tryd.ntmps19
  go_wp2_with (go_at_call 19; (with_reducible refine k.mono ?_); rintro e w2 ⟨rfl, hb2⟩)
  go_ret
  exact ⟨rfl, hb2⟩
set_option maxRecDepth 100000 in
theorem digits4_c (u : Nat) (h : ¬ u < 10) (hu : u ≤ 9223372036854775808) (w : World) (k : ∀ W, Calls Tryd.prog 19 #[.int .i64 (-((u / 10 : Nat) : Int))] W fun e w' => e = .returned (.string (strOfNums (itoI (-((u / 10 : Nat) : Int))))) ∧ Below W.heap.size W w') :
    Calls Tryd.prog 19 #[.int .i64 (-(u : Int))] w fun e w' => e = .returned (.string (strOfNums (itoI (-(u : Int))))) ∧ Below w.heap.size w w' := by
  obtain ⟨r, hr⟩ : ∃ r : Nat, u % 10 = r := ⟨_, rfl⟩
  obtain ⟨z, hz⟩ : ∃ z : Nat, u / 10 = z := ⟨_, rfl⟩
  have hd := dig_text w (48 + (r : Int))
  have hi : itoI (-(u : Int)) = itoI (-(z : Int)) ++ [48 + (r : Int)] := by
    rw [itoI_neg _ (by omega), itoI_neg _ (by omega), Int.natAbs_neg, Int.natAbs_neg, Int.natAbs_natCast, Int.natAbs_natCast, decI_big u h, hr, hz]; rfl
  have hl := itoI_len (-(z : Int)) (by omega) (by omega)
  have ha := str_add (itoI (-(z : Int))) [48 + (r : Int)] (by simp; omega)
  rw [← hi] at ha
  rw [hz] at k
  have hB := Lib.hid (bel_alloc (Below.refl _ w) (.cells #[.int .u8 (48 + (r : Int))] 5))
  have hq : (-(u : Int)).tdiv 10 = -(z : Int) := by
    rw [Int.neg_tdiv, Int.tdiv_eq_ediv_of_nonneg (by omega)]; omega
  have hm : (-(u : Int)).tmod 10 = -(r : Int) := by
    rw [Int.neg_tmod, Int.tmod_eq_emod_of_nonneg (by omega)]; omega
  have hz0 : 0 < z := by omega
  have hz1 : (z : Int) ≤ 922337203685477580 := by omega
  have hr1 : (r : Int) ≤ 9 := by omega
  have h0 : -(u : Int) < 0 := by omega
  have hzn : ¬ -(z : Int) = 0 := by omega
  obtain ⟨q, hqe⟩ : ∃ q, itoI (-(z : Int)) = q := ⟨_, rfl⟩
  rw [hqe] at ha k
  obtain ⟨n, hn⟩ : ∃ n : Int, -(u : Int) = n := ⟨_, rfl⟩
  rw [hn] at hq hm h0 ha ⊢
  have hn1 : -9223372036854775808 ≤ n := by omega
  clear hi hl hqe hr hz h hu hn
  go_enter Tryd.func19, Tryd.ntmps19
  go_wp2_with (go_at_call 19; (with_reducible refine (k _).mono ?_); rintro e w2 ⟨rfl, hb2⟩)
  go_ret
  exact ⟨rfl, bel_call hB.out hb2⟩
/-- the document's digits -/
theorem digits_c (n : Int) (h0 : -9223372036854775808 ≤ n) (h1 : n ≤ 9223372036854775807) : ∀ w, Calls Tryd.prog 19 #[.int .i64 n] w fun e w' => e = .returned (.string (strOfNums (itoI n))) ∧ Below w.heap.size w w' := by
  have hp : ∀ u : Nat, u ≤ 9223372036854775807 → ∀ w, Calls Tryd.prog 19 #[.int .i64 u] w fun e w' => e = .returned (.string (strOfNums (itoI u))) ∧ Below w.heap.size w w' := by
    intro u
    induction u using Nat.strongRecOn with
    | _ u ih =>
      intro hu w
      by_cases h : u < 10
      · exact digits1_c u h w
      · refine digits2_c u h hu w fun W => ?_
        have := ih (u / 10) (by omega) (by omega) W
        rwa [show ((u / 10 : Nat) : Int) = (u : Int) / 10 by omega] at this
  have hn : ∀ u : Nat, 0 < u → u ≤ 9223372036854775808 → ∀ w, Calls Tryd.prog 19 #[.int .i64 (-(u : Int))] w fun e w' => e = .returned (.string (strOfNums (itoI (-(u : Int))))) ∧ Below w.heap.size w w' := by
    intro u
    induction u using Nat.strongRecOn with
    | _ u ih =>
      intro h0 hu w
      by_cases h : u < 10
      · exact digits3_c u h h0 w
      · exact digits4_c u h hu w fun W => ih (u / 10) (by omega) (by omega) (by omega) W
  intro w
  by_cases hs : 0 ≤ n
  · obtain ⟨u, rfl⟩ := Int.eq_ofNat_of_zero_le hs
    exact hp u (by omega) w
  · have := hn n.natAbs (by omega) (by omega) w
    rwa [show -((n.natAbs : Nat) : Int) = n by omega] at this
end Go.Proofs.YtoeooabaofpngaaDoor
