/- Take and form. -/
import Derived.Test.YtoeooabaofpngaaOd
import Derived.OwnWalk
namespace Go.Proofs.Ytoeooabaofpngaa
open Go.RowKit Go.Sort

/-- a number, a place and an error -/
def tri (r : Int × Int × Int) : Value := .tuple #[.int .u64 r.1, .int .i64 r.2.1, .int .i64 r.2.2]
def I64 (x : Int) : Prop := -9223372036854775808 ≤ x ∧ x ≤ 9223372036854775807

set_option maxRecDepth 100000 in
theorem form_c (n : Int) (w : World) : Calls Try.prog 41 #[.int .u64 n] w fun e w' => e = .returned (.tuple #[.int .i64 (formB n).1, .int .u8 (formB n).2]) ∧ w' = w := by
  unfold formB
  by_cases h1 : 4294967296 ≤ n
  · rw [if_pos h1]
    go_enter Try.func41, Try.ntmps41
    go_wp2
    go_ret2
    exact ⟨rfl, rfl⟩
  rw [if_neg h1]
  by_cases h2 : 65536 ≤ n
  · rw [if_pos h2]
    go_enter Try.func41, Try.ntmps41
    go_wp2
    go_ret2
    exact ⟨rfl, rfl⟩
  rw [if_neg h2]
  by_cases h3 : 253 ≤ n
  · rw [if_pos h3]
    go_enter Try.func41, Try.ntmps41
    go_wp2
    go_ret2
    exact ⟨rfl, rfl⟩
  rw [if_neg h3]
  go_enter Try.func41, Try.ntmps41
  go_wp2
  go_ret2
  exact ⟨rfl, rfl⟩

theorem takeB_arg {b : List Int} {i s : Int} (h : okz s = false ∨ i < 0 ∨ (b.length : Int) < i) : takeB b i s = (0, 0, 1) := by unfold takeB; rw [if_pos h]
theorem takeB_bytes {b : List Int} {i s : Int} (h : ¬ (okz s = false ∨ i < 0 ∨ (b.length : Int) < i)) (h2 : (b.length : Int) - i < s) : takeB b i s = (0, 0, 5) := by unfold takeB; rw [if_neg h, if_pos h2]
theorem takeB_ok {b : List Int} {i s : Int} (h : ¬ (okz s = false ∨ i < 0 ∨ (b.length : Int) < i)) (h2 : ¬ (b.length : Int) - i < s) : takeB b i s = (ofBytes ((b.drop i.toNat).take s.toNat), i + s, 0) := by unfold takeB; rw [if_neg h, if_neg h2]

theorem cut_succ (xs : List Int) (i k : Nat) (h : i + k < xs.length) : (xs.drop i).take (k + 1) = (xs.drop i).take k ++ [xs[i + k]?.getD 0] := by
  rw [List.take_succ_eq_append_getElem (by rw [List.length_drop]; omega), List.getElem_drop, List.getElem?_eq_getElem h]
  rfl

set_option maxRecDepth 100000 in
theorem take_c (v : Value) (xs : List Int) (i s : Int) (w : World) (h : RdB w v xs) (hb : Bytes xs) (hl : xs.length ≤ 100000000) (hi : I64 i) (hs : I64 s) :
    Calls Try.prog 11 #[v, .int .i64 i, .int .i64 s] w fun e w' => e = .returned (tri (takeB xs i s)) ∧ w' = w := by
  have HS := right_c s w
  obtain ⟨hi1, hi2⟩ := hi
  have hv : ∃ a cap, v = .slice a xs.length cap ∧ xs.length ≤ cap := by
    rcases h with ⟨rfl, rfl⟩ | ⟨a, g, o, cap, rfl, hc, ha, hcell⟩
    · exact ⟨_, _, rfl, Nat.le_refl _⟩
    · exact ⟨_, _, rfl, hc⟩
  by_cases hz : okz s = true
  case neg =>
    have hf : okz s = false := by simpa using hz
    rw [takeB_arg (.inl hf)]
    obtain ⟨a, cap, rfl, hc⟩ := hv
    go_enter Try.func11, Try.ntmps11
    go_wp2_with (go_at_call 31; with_reducible refine HS.mono ?_; rintro e w1 ⟨rfl, rfl⟩; rw [hf])
    go_ret3
    exact ⟨rfl, rfl⟩
  by_cases h1 : i < 0
  · rw [takeB_arg (.inr (.inl h1))]
    obtain ⟨a, cap, rfl, hc⟩ := hv
    go_enter Try.func11, Try.ntmps11
    go_wp2_with (go_at_call 31; with_reducible refine HS.mono ?_; rintro e w1 ⟨rfl, rfl⟩; rw [hz])
    go_ret3
    exact ⟨rfl, rfl⟩
  by_cases h2 : (xs.length : Int) < i
  · rw [takeB_arg (.inr (.inr h2))]
    obtain ⟨a, cap, rfl, hc⟩ := hv
    go_enter Try.func11, Try.ntmps11
    go_wp2_with (go_at_call 31; with_reducible refine HS.mono ?_; rintro e w1 ⟨rfl, rfl⟩; rw [hz])
    go_ret3
    exact ⟨rfl, rfl⟩
  have hno : ¬ (okz s = false ∨ i < 0 ∨ (xs.length : Int) < i) := by simp [hz]; omega
  have g0 : IntKind.i64.wrap ((xs.length : Int) - i) = (xs.length : Int) - i := by rw [IntKind.wrap_i64]; omega
  by_cases h3 : (xs.length : Int) - i < s
  · rw [takeB_bytes hno h3]
    obtain ⟨a, cap, rfl, hc⟩ := hv
    go_enter Try.func11, Try.ntmps11
    go_wp2_with (go_at_call 31; with_reducible refine HS.mono ?_; rintro e w1 ⟨rfl, rfl⟩; rw [hz])
    go_ret3
    exact ⟨rfl, rfl⟩
  have hs8 : 1 ≤ s ∧ s ≤ 8 := by rw [okz_iff] at hz; omega
  rw [takeB_ok hno h3]
  clear hv hno
  rcases h with ⟨rfl, rfl⟩ | ⟨a, g, o, cap, rfl, hc, ha, hcell⟩
  · simp at h2 h3; omega
  obtain rfl := ha (by omega)
  obtain ⟨j, rfl⟩ := Int.eq_ofNat_of_zero_le (show 0 ≤ i by omega)
  obtain ⟨z, rfl⟩ := Int.eq_ofNat_of_zero_le (show 0 ≤ s by omega)
  have g1 : IntKind.i64.wrap ((j : Int) + z) = (j : Int) + z := by rw [IntKind.wrap_i64]; omega
  have HC := Lib.hid hcell
  clear hcell ha
  go_enter Try.func11, Try.ntmps11
  go_wp2_with (go_at_call 31; with_reducible refine HS.mono ?_; rintro e w1 ⟨rfl, rfl⟩; rw [hz])
  go_loopw [6, 35] (fun m i wr => ∃ k : Nat, k ≤ z ∧ i = .int .i64 k ∧ m = .int .u64 (ofBytes ((xs.drop j).take k)) ∧ wr = w1) (fun _ i _ => z - (intOf i).toNat)
  case atStart => exact ⟨0, by omega, rfl, by simp [ofBytes], rfl⟩
  case round =>
    obtain ⟨k, hk, rfl, rfl, rfl⟩ := hrel
    by_cases hlt : k < z
    · have hcell := HC.out (j + k) (by omega)
      rw [show o + (j + k) = o + j + k by omega] at hcell
      have hcut := cut_succ xs j k (by omega)
      have hbd := hb.at (j + k) (by omega)
      have hlen : ((xs.drop j).take k).length = k := by rw [List.length_take, List.length_drop]; omega
      have hbb := ofBytes_bd _ ((hb.drop j).take k)
      have hsn := ofBytes_snoc ((xs.drop j).take k) (xs[j + k]?.getD 0)
      rw [← hcut, hlen] at hsn
      rw [hlen] at hbb
      have hor := (or_byte _ (xs[j + k]?.getD 0) k (by omega) hbb.1 hbb.2 hbd.1 hbd.2).1
      rw [← hsn] at hor
      generalize ofBytes ((xs.drop j).take k) = acc at *
      generalize xs[j + k]?.getD 0 = x at *
      have hw8 : IntKind.i64.wrap (8 * (k : Int)) = 8 * (k : Int) := by rw [IntKind.wrap_i64]; omega
      have HR := Lib.hid hor
      clear hor hsn hcut hbb hlen
      go_wp2
      exact ⟨⟨k + 1, by omega, by go_num, by rw [HR.out], trivial⟩, by simp [intOf]; omega⟩
    · have : z = k := by omega
      subst this
      go_wp2
      go_ret3
      exact ⟨rfl, rfl⟩
theorem cut_cons (xs : List Int) (i k : Nat) (h : i < xs.length) : (xs.drop i).take (k + 1) = xs[i]?.getD 0 :: (xs.drop (i + 1)).take k := by
  rw [List.drop_eq_getElem_cons h, List.take_succ_cons, List.getElem?_eq_getElem h]
  rfl

set_option maxRecDepth 100000 in
theorem rtake_c (v : Value) (xs : List Int) (i s : Int) (w : World) (h : RdB w v xs) (hb : Bytes xs) (hl : xs.length ≤ 100000000) (hi : I64 i) (hs : I64 s) :
    Calls Try.prog 13 #[v, .int .i64 i, .int .i64 s] w fun e w' => e = .returned (tri (takeB xs i s)) ∧ Below w.heap.size w w' := by
  have HS := size_c s w
  obtain ⟨hi1, hi2⟩ := hi
  have hv : ∃ a cap, v = .slice a xs.length cap ∧ xs.length ≤ cap := by
    rcases h with ⟨rfl, rfl⟩ | ⟨a, g, o, cap, rfl, hc, ha, hcell⟩
    · exact ⟨_, _, rfl, Nat.le_refl _⟩
    · exact ⟨_, _, rfl, hc⟩
  by_cases hz : okz s = true
  case neg =>
    have hf : okz s = false := by simpa using hz
    rw [takeB_arg (.inl hf)]
    obtain ⟨a, cap, rfl, hc⟩ := hv
    go_enter Try.func13, Try.ntmps13
    go_wp2_with (go_at_call 32; with_reducible refine HS.mono ?_; rintro e w1 ⟨rfl, rfl⟩; rw [hf])
    go_ret3
    exact ⟨rfl, Below.refl _ _⟩
  by_cases h1 : i < 0
  · rw [takeB_arg (.inr (.inl h1))]
    obtain ⟨a, cap, rfl, hc⟩ := hv
    go_enter Try.func13, Try.ntmps13
    go_wp2_with (go_at_call 32; with_reducible refine HS.mono ?_; rintro e w1 ⟨rfl, rfl⟩; rw [hz])
    go_ret3
    exact ⟨rfl, Below.refl _ _⟩
  by_cases h2 : (xs.length : Int) < i
  · rw [takeB_arg (.inr (.inr h2))]
    obtain ⟨a, cap, rfl, hc⟩ := hv
    go_enter Try.func13, Try.ntmps13
    go_wp2_with (go_at_call 32; with_reducible refine HS.mono ?_; rintro e w1 ⟨rfl, rfl⟩; rw [hz])
    go_ret3
    exact ⟨rfl, Below.refl _ _⟩
  have hno : ¬ (okz s = false ∨ i < 0 ∨ (xs.length : Int) < i) := by simp [hz]; omega
  have g0 : IntKind.i64.wrap ((xs.length : Int) - i) = (xs.length : Int) - i := by rw [IntKind.wrap_i64]; omega
  by_cases h3 : (xs.length : Int) - i < s
  · rw [takeB_bytes hno h3]
    obtain ⟨a, cap, rfl, hc⟩ := hv
    go_enter Try.func13, Try.ntmps13
    go_wp2_with (go_at_call 32; with_reducible refine HS.mono ?_; rintro e w1 ⟨rfl, rfl⟩; rw [hz])
    go_ret3
    exact ⟨rfl, Below.refl _ _⟩
  have hs8 : 1 ≤ s ∧ s ≤ 8 := by rw [okz_iff] at hz; omega
  rw [takeB_ok hno h3]
  clear hv hno
  rcases h with ⟨rfl, rfl⟩ | ⟨a, g, o, cap, rfl, hc, ha, hcell⟩
  · simp at h2 h3; omega
  obtain rfl := ha (by omega)
  obtain ⟨j, rfl⟩ := Int.eq_ofNat_of_zero_le (show 0 ≤ i by omega)
  obtain ⟨z, rfl⟩ := Int.eq_ofNat_of_zero_le (show 0 ≤ s by omega)
  have g1 : IntKind.i64.wrap ((j : Int) + z) = (j : Int) + z := by rw [IntKind.wrap_i64]; omega
  have HC := Lib.hid hcell
  clear hcell ha
  go_enter Try.func13, Try.ntmps13
  go_wp2_with (go_at_call 32; with_reducible refine HS.mono ?_; rintro e w1 ⟨rfl, rfl⟩; rw [hz])
  go_loopw [9, 10] (fun m i wr => ∃ k : Nat, k ≤ z ∧ i = .int .i64 ((z : Int) - 1 - k) ∧ m = .int .u64 (ofBytes ((xs.drop (j + (z - k))).take k)) ∧ Below w1.heap.size w1 wr) (fun _ i _ => (intOf i + 1).toNat)
  case atStart => exact ⟨0, by omega, by go_num, by simp [ofBytes], Below.refl _ _⟩
  case round =>
    obtain ⟨k, hk, rfl, rfl, hB⟩ := hrel
    by_cases hlt : k < z
    · have hcell := HC.out (j + (z - 1 - k)) (by omega)
      rw [← hB.cell (block_lt_of_cell hcell)] at hcell
      have hcut := cut_cons xs (j + (z - 1 - k)) k (by omega)
      rw [show j + (z - 1 - k) + 1 = j + (z - k) by omega] at hcut
      have hbd := hb.at (j + (z - 1 - k)) (by omega)
      have hbb := ofBytes_bd _ ((hb.drop (j + (z - k))).take k)
      have hlen : ((xs.drop (j + (z - k))).take k).length = k := by rw [List.length_take, List.length_drop]; omega
      rw [hlen] at hbb
      have hpw : (256 : Int) ^ k ≤ 256 ^ 7 := by
        have := Nat.pow_le_pow_right (show 0 < 256 by omega) (show k ≤ 7 by omega)
        exact_mod_cast this
      rw [show (256 : Int) ^ 7 = 72057594037927936 by rfl] at hpw
      have hsn : ofBytes ((xs.drop (j + (z - 1 - k))).take (k + 1)) = xs[j + (z - 1 - k)]?.getD 0 + 256 * ofBytes ((xs.drop (j + (z - k))).take k) := by rw [hcut]; rfl
      rw [show j + (z - 1 - k) = j + (z - (k + 1)) by omega] at hsn hcell hbd
      generalize ofBytes ((xs.drop (j + (z - k))).take k) = acc at *
      generalize xs[j + (z - (k + 1))]?.getD 0 = x at *
      generalize (256 : Int) ^ k = pw at *
      have hx1 : 0 ≤ acc ∧ acc ≤ 72057594037927935 := by omega
      have hq : ((j : Int) + ((z : Int) - 1 - k)) = ((j + (z - (k + 1)) : Nat) : Int) := by omega
      have hq2 : IntKind.i64.wrap ((j : Int) + ((z : Int) - 1 - k)) = ((j + (z - (k + 1)) : Nat) : Int) := by rw [IntKind.wrap_i64]; omega
      have hq3 : j + (z - (k + 1)) < xs.length := by omega
      have HR := Lib.hid hsn
      clear hsn hcut hbb hlen hpw
      go_wp2
      exact ⟨⟨k + 1, by omega, by go_num, by rw [HR.out, Int.add_comm x], hB⟩, by simp [intOf]; omega⟩
    · have : z = k := by omega
      subst this
      go_wp2
      go_ret3
      exact ⟨by simp [tri], hB⟩
end Go.Proofs.Ytoeooabaofpngaa
