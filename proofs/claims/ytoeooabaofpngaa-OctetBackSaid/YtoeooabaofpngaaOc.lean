/- Put and Low. -/
import Derived.Test.YtoeooabaofpngaaOb
namespace Go.Proofs.Ytoeooabaofpngaa
open Go.RowKit Go.Sort

theorem div256 (n : Int) (k : Nat) : n / 256 ^ k / 256 = n / 256 ^ (k + 1) := by
  rw [Int.ediv_ediv_of_nonneg (Int.le_of_lt (Int.pow_pos (by omega))), Int.pow_succ]
theorem u8s_append (a b : List Int) : u8s a ++ u8s b = u8s (a ++ b) := by simp [u8s]
theorem u8s_snoc (a : List Int) (b : Int) : u8s a ++ [.int .u8 b] = u8s (a ++ [b]) := by simp [u8s]
theorem div_bd (n : Int) (k : Nat) (h0 : 0 ≤ n) (h1 : n ≤ 18446744073709551615) : 0 ≤ n / 256 ^ k ∧ n / 256 ^ k ≤ 18446744073709551615 :=
  ⟨Int.ediv_nonneg h0 (Int.le_of_lt (Int.pow_pos (by omega))), Int.le_trans (Int.ediv_le_self _ h0) h1⟩

set_option maxRecDepth 100000 in
theorem put_c (v : Value) (xs : List Int) (n s : Int) (w : World) (h : RdB w v xs) (hl : xs.length ≤ 100000000) (h0 : 0 ≤ n) (h1 : n ≤ 18446744073709551615) :
    Calls Try.prog 10 #[v, .int .u64 n, .int .i64 s] w fun e w' => ∃ v', e = .returned v' ∧ RowO w' w.heap.size v' (putB xs n s) ∧ Below w.heap.size w w' := by
  obtain ⟨i0, hi, hz0, hz1, hz2⟩ := info_parts Try.info5
  have kc := clone_c v xs w h (by omega)
  unfold putB
  by_cases hs : okz s = true
  · rw [if_pos hs]
    have hs8 : 1 ≤ s ∧ s ≤ 8 := by rw [okz_iff] at hs; omega
    go_enter Try.func10, Try.ntmps10
    go_upto_region 4 with first | (go_at_call 30; with_reducible refine kc.mono ?_; rintro e w1 ⟨vc, rfl, hr, hb⟩; have HB := hb.size; have HS := right_c s w1) | (go_at_call 31; with_reducible refine HS.mono ?_; rintro e w1' ⟨rfl, rfl⟩; rw [hs])
    go_wp2
    go_loopw [1, 7, 15] (fun m l i wr => ∃ k : Nat, (k : Int) ≤ s ∧ i = .int .i64 k ∧ m = .int .u64 (n / 256 ^ k) ∧ RowO wr w.heap.size l (xs ++ low n k) ∧ Below w.heap.size w wr) (fun _ _ i _ => s.toNat - (intOf i).toNat)
    case atStart => exact ⟨0, by omega, rfl, by simp, by simpa [low] using hr, hb⟩
    case round =>
      obtain ⟨k, hk, rfl, rfl, hown, hB⟩ := hrel
      have hBs := hB.size
      by_cases hlt : (k : Int) < s
      · have hd := div_bd n k h0 h1
        have hq := div256 n k
        have hbyte : n / 256 ^ k % 256 = byteAt n k := rfl
        generalize n / 256 ^ k = q at *
        have hlow := low_succ n k
        have hlen : (xs ++ low n k).length ≤ 100000008 := by rw [List.length_append, low_length]; omega
        have hass : xs ++ low n (k + 1) = (xs ++ low n k) ++ [byteAt n k] := by rw [hlow, List.append_assoc]
        unfold RowO at hown
        generalize xs ++ low n k = zs at *
        have HA := Lib.hid hass; have HY := Lib.hid hbyte; have HQ := Lib.hid hq; have HL := Lib.hid hlow
        clear hass hbyte hq hlow
        go_wp2_with (at_builtin; refine wpList_append_own _ rfl _ _ 22 rfl w.heap.size 5 i0 (.int .u8 0) 1 1 Try.underlying22 hi hz0 hz1 hz2 rfl (by decide) _ _ _ rfl (ownsRow_alloc hown _) ⟨wr.heap.size, 0, none⟩ 1 1 [.int .u8 (q % 256)] rfl rfl ?c1 ?c2 ?c3 ?c4 ?c5 ?_)
        try case c1 => (intro j u hj; rcases j with _ | j <;> simp at hj; subst hj; simp [Addr.add])
        case c2 => first | (intro u hu; simp at hu; subst hu; rfl) | rfl
        case c3 => unfold maxLen; omega
        case c4 => omega
        case c5 => simp; omega
        intro v' w1 hown' hgrow _
        have hB2 := grown_below (ownsRow_alloc hown _) (Below.alloc hB (by omega) _) (by simp; omega) hgrow
        rw [u8s_snoc, HY.out, show zs.length + 1 = (zs ++ [byteAt n k]).length by simp, ← HA.out] at hown'
        clear hgrow
        go_wp2
        go_roundw
        case rel => exact ⟨k + 1, by omega, by go_num, by rw [← HQ.out], hown', hB2⟩
        case measure => simp [intOf]; omega
      · have : s = k := by omega
        subst this
        go_wp2
        go_ret
        exact ⟨_, rfl, hown, hB⟩
  · have hf : okz s = false := by simpa using hs
    rw [if_neg hs]
    go_enter Try.func10, Try.ntmps10
    go_wp2_with first | (go_at_call 30; with_reducible refine kc.mono ?_; rintro e w1 ⟨vc, rfl, hr, hb⟩; have HB := hb.size; have HS := right_c s w1) | (go_at_call 31; with_reducible refine HS.mono ?_; rintro e w1' ⟨rfl, rfl⟩; rw [hf])
    go_ret
    exact ⟨_, rfl, hr, hb⟩
end Go.Proofs.Ytoeooabaofpngaa
