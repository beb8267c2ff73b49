/- The reference's half and Unhex. -/
import Derived.Test.YtoeooabaofpngaaOq
namespace Go.Proofs.Ytoeooabaofpngaa
open Go.RowKit Go.Sort
theorem ret2_eq {v : Value} {a b : Int} (h : a = b) : Ending.returned (.tuple #[v, .int .i64 a]) = .returned (.tuple #[v, .int .i64 b]) := by rw [h]
set_option maxRecDepth 100000 in
theorem half_c (c : Int) (w : World) :
    Calls Try.prog 35 #[.int .u8 c] w fun e w' => e = .returned (.tuple #[.int .u8 (if halfI c < 0 then 0 else halfI c), .bool (!decide (halfI c < 0))]) ∧ w = w' := by
  generalize hE : (Value.tuple #[.int .u8 (if halfI c < 0 then 0 else halfI c), .bool (!decide (halfI c < 0))]) = E
  have HE := Lib.hid hE
  clear hE
  go_enter Try.func35, Try.ntmps35
  go_wp2
  go_loopw [4] (fun i wr => ∃ k : Nat, k ≤ 16 ∧ i = .int .u8 k ∧ wr = w ∧ Hid (∀ j : Nat, j < k → chrI j ≠ c)) (fun i _ => 16 - (intOf i).toNat)
  case atStart => exact ⟨0, by omega, rfl, rfl, Lib.hid (fun j hj => by omega)⟩
  case round =>
    obtain ⟨k, hk, rfl, rfl, hno⟩ := hrel
    by_cases hlt : k < 16
    · have kl := letter_c k wr (by omega) (by omega)
      by_cases he : chrI k = c
      · have hh : halfI c = k := by rw [← he]; exact half_chrI k (by omega) (by omega)
        have hE := HE.out
        rw [hh, if_neg (by omega), decide_eq_false (by omega)] at hE
        have HE2 := Lib.hid hE
        clear hE hh
        rw [he] at kl
        clear he
        go_wp2_with (go_at_call 39; with_reducible refine kl.mono ?_; rintro e w1 ⟨rfl, rfl⟩)
        go_ret2
        exact ⟨by rw [← HE2.out]; rfl, rfl⟩
      · have hno2 := Lib.hid (show ∀ j : Nat, j < k + 1 → chrI j ≠ c from fun j hj => by
          by_cases hjk : j = k
          · subst hjk; exact he
          · exact hno.out j (by omega))
        have hd : (chrI (k : Int) == c) = false := by simpa using he
        clear he
        generalize chrI (k : Int) = x at *
        go_wp2_with (go_at_call 39; with_reducible refine kl.mono ?_; rintro e w1 ⟨rfl, rfl⟩)
        go_roundw
        case rel => exact ⟨k + 1, by omega, by go_num, trivial, hno2⟩
        case measure => simp [intOf]; omega
    · have hh : halfI c < 0 := by
        by_cases h : halfI c < 0
        · exact h
        · have := chr_halfI c (by omega)
          have h2 := hno.out (halfI c).toNat (by omega)
          rw [Int.toNat_of_nonneg (by omega)] at h2
          exact absurd this.1 h2
      have hE := HE.out
      rw [if_pos hh, decide_eq_true hh] at hE
      have HE2 := Lib.hid hE
      clear hE hh
      obtain rfl : k = 16 := by omega
      go_wp2
      go_ret2
      exact ⟨by rw [← HE2.out]; rfl, rfl⟩

theorem two_pairs (xs : List Int) (k : Nat) (h : k + 1 < xs.length) : xs.take (k + 2) = xs.take k ++ [xs[k]?.getD 0, xs[k + 1]?.getD 0] := by
  rw [show k + 2 = k + 1 + 1 by omega, List.take_succ_eq_append_getElem h, List.take_succ_eq_append_getElem (by omega), List.getElem?_eq_getElem h, List.getElem?_eq_getElem (by omega), List.append_assoc]
  rfl
set_option maxRecDepth 100000 in
set_option maxHeartbeats 1000000 in
theorem runhex_c (s : ByteArray) (w : World) (hl : s.size ≤ 1000000) :
    Calls Try.prog 17 #[.string s] w fun e w' => ∃ v', e = .returned (.tuple #[v', .int .i64 (uhE (numsOf s))]) ∧ RowO w' w.heap.size v' (uhB (numsOf s)) ∧ Below w.heap.size w w' := by
  obtain ⟨i0, hi, hz0, hz1, hz2⟩ := info_parts Try.info5
  have hlen := numsOf_len s
  have hbs := numsOf_bytes s
  have hix := str_ix s
  generalize numsOf s = xs at *
  have HIX := Lib.hid hix
  clear hix
  by_cases hodd : xs.length % 2 = 1
  · obtain ⟨e1, e2⟩ := uh_none (unhexI_odd xs hodd)
    rw [e1, e2]
    have hm : (s.size : Int) % 2 = 1 := by omega
    go_enter Try.func17, Try.ntmps17
    go_wp2
    go_ret2
    exact ⟨_, rfl, World.ownsRow_nil _ _ _ _, Below.refl _ _⟩
  have hm : (s.size : Int) % 2 = 0 := by omega
  have HM := Lib.hid hm
  have HLN := Lib.hid hlen
  clear hlen
  go_enter Try.func17, Try.ntmps17
  go_wp2
  clear hm
  go_loopw [4, 5] (fun l i wr => ∃ (k : Nat) (ys : List Int), k ≤ s.size ∧ k % 2 = 0 ∧ i = .int .i64 k ∧ RowO wr w.heap.size l ys ∧ Below w.heap.size w wr ∧ Hid (unhexI (xs.take k) = some ys)) (fun _ i _ => s.size - (intOf i).toNat)
  case atStart => exact ⟨0, [], by omega, rfl, rfl, World.ownsRow_nil _ _ _ _, Below.refl _ _, Lib.hid rfl⟩
  case round =>
    obtain ⟨k, ys, hk, hk2, rfl, hown, hB, hun⟩ := hrel
    have HB := hB.size
    by_cases hlt : k < s.size
    · have hlt2 : k + 1 < s.size := by have := HM.out; omega
      have hx1 := HIX.out k hlt
      have hx2 := HIX.out (k + 1) hlt2
      rw [Int.natCast_add, Int.natCast_one] at hx2
      have hpr := two_pairs xs k (by rw [HLN.out]; exact hlt2)
      have hb1 := hbs.at k (by rw [HLN.out]; exact hlt)
      have hb2 := hbs.at (k + 1) (by rw [HLN.out]; exact hlt2)
      generalize xs[k]?.getD 0 = p at *
      generalize xs[k + 1]?.getD 0 = q at *
      have hsn := unhexI_snoc _ _ p q hun.out
      rw [← hpr] at hsn
      have kh1 := half_c p wr
      have kh2 := half_c q wr
      have hlen : ys.length ≤ 1000000 := by
        have := (hex_unhex _ _ hun.out).2.2
        have h2 := List.length_take_le k xs
        omega
      by_cases hp : halfI p < 0
      · rw [if_pos (.inl hp)] at hsn
        obtain ⟨e1, e2⟩ := uh_none (show unhexI xs = none by
          have hev : (xs.take (k + 2)).length % 2 = 0 := by rw [List.length_take]; have := HLN.out; omega
          have := unhexI_bad (xs.take (k + 2)) (xs.drop (k + 2)) hev hsn
          rwa [List.take_append_drop] at this)
        have E1 := Lib.hid e1
        have E2 := Lib.hid e2
        rw [if_pos hp, decide_eq_true hp, Bool.not_true] at kh1
        clear hsn hpr e1 e2
        by_cases hq : halfI q < 0
        · rw [if_pos hq, decide_eq_true hq, Bool.not_true] at kh2
          clear hp hq
          go_wp2_with (first | (go_at_call 35; with_reducible refine kh1.mono ?_; rintro e w1 ⟨rfl, rfl⟩) | (go_at_call 35; with_reducible refine kh2.mono ?_; rintro e w1 ⟨rfl, rfl⟩))
          go_ret2
          exact ⟨_, ret2_eq E2.out.symm, by rw [E1.out]; exact World.ownsRow_nil _ _ _ _, hB⟩
        · rw [if_neg hq, decide_eq_false hq, Bool.not_false] at kh2
          clear hp hq
          go_wp2_with (first | (go_at_call 35; with_reducible refine kh1.mono ?_; rintro e w1 ⟨rfl, rfl⟩) | (go_at_call 35; with_reducible refine kh2.mono ?_; rintro e w1 ⟨rfl, rfl⟩))
          go_ret2
          exact ⟨_, ret2_eq E2.out.symm, by rw [E1.out]; exact World.ownsRow_nil _ _ _ _, hB⟩
      · have hpl := halfI_lo p
        have hql := halfI_lo q
        rw [if_neg hp, decide_eq_false hp, Bool.not_false] at kh1
        by_cases hq : halfI q < 0
        · rw [if_pos (.inr hq)] at hsn
          obtain ⟨e1, e2⟩ := uh_none (show unhexI xs = none by
            have hev : (xs.take (k + 2)).length % 2 = 0 := by rw [List.length_take]; have := HLN.out; omega
            have := unhexI_bad (xs.take (k + 2)) (xs.drop (k + 2)) hev hsn
            rwa [List.take_append_drop] at this)
          have E1 := Lib.hid e1
          have E2 := Lib.hid e2
          rw [if_pos hq, decide_eq_true hq, Bool.not_true] at kh2
          clear hp hq hsn hpr e1 e2
          go_wp2_with (first | (go_at_call 35; with_reducible refine kh1.mono ?_; rintro e w1 ⟨rfl, rfl⟩) | (go_at_call 35; with_reducible refine kh2.mono ?_; rintro e w1 ⟨rfl, rfl⟩))
          go_ret2
          exact ⟨_, ret2_eq E2.out.symm, by rw [E1.out]; exact World.ownsRow_nil _ _ _ _, hB⟩
        · rw [if_neg (by omega)] at hsn
          rw [if_neg hq, decide_eq_false hq, Bool.not_false] at kh2
          unfold RowO at hown
          have HS := Lib.hid hsn
          generalize halfI p = a at *
          generalize halfI q = b at *
          have hab : 0 ≤ 16 * a + b ∧ 16 * a + b ≤ 255 := by omega
          clear hp hq hsn hpr
          go_wp2_with (first | (go_at_call 35; with_reducible refine kh1.mono ?_; rintro e w1 ⟨rfl, rfl⟩) | (go_at_call 35; with_reducible refine kh2.mono ?_; rintro e w1 ⟨rfl, rfl⟩) | (at_builtin; go_loud (refine wpList_append_own _ rfl _ _ 22 rfl w.heap.size 5 i0 (.int .u8 0) 1 1 Try.underlying22 hi hz0 hz1 hz2 rfl (by decide) _ _ _ rfl (ownsRow_alloc hown _) ⟨wr.heap.size, 0, none⟩ 1 1 [.int .u8 (16 * a + b)] rfl rfl ?c1 ?c2 ?c3 ?c4 ?c5 ?_)))
          try case c1 => (intro j u hj; rcases j with _ | j <;> simp at hj; subst hj; simp [Addr.add])
          try case c2 => (intro u hu; simp at hu; subst hu; rfl)
          try case c3 => unfold maxLen; omega
          try case c4 => omega
          try case c5 => simp; omega
          intro v' w1 hown' hgrow _
          have hB2 := grown_below (ownsRow_alloc hown _) (Below.alloc hB (by omega) _) (by simp; omega) hgrow
          rw [u8s_snoc, show ys.length + 1 = (ys ++ [16 * a + b]).length by simp] at hown'
          clear hgrow
          go_wp2
          go_roundw
          case rel => exact ⟨k + 2, _, by omega, by omega, by go_num, hown', hB2, HS⟩
          case measure => simp [intOf]; omega
    · obtain rfl : k = s.size := by omega
      have hun2 := hun.out
      rw [← HLN.out, List.take_length] at hun2
      obtain ⟨e1, e2⟩ := uh_some hun2
      have E1 := Lib.hid e1
      have E2 := Lib.hid e2
      clear e1 e2 hun2
      go_wp2
      go_ret2
      exact ⟨_, ret2_eq E2.out.symm, by rw [E1.out]; exact hown, hB⟩
end Go.Proofs.Ytoeooabaofpngaa
