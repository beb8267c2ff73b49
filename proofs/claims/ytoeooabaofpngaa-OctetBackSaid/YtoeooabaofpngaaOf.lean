/- PutVar, TakeVar and Some. -/
import Derived.Test.YtoeooabaofpngaaOe
namespace Go.Proofs.Ytoeooabaofpngaa
open Go.RowKit Go.Sort

theorem RowO.down {w : World} {B C : Nat} {v : Value} {xs : List Int} (h : RowO w B v xs) (hc : C ≤ B) : RowO w C v xs := by
  obtain ⟨h1, h2⟩ := h
  refine ⟨h1, ?_⟩
  rcases h2 with h2 | ⟨g, cap, cur, e1, e2, e3⟩
  · exact .inl h2
  · exact .inr ⟨g, cap, cur, e1, by omega, e3⟩
theorem low_one (n : Int) : low n 1 = [n % 256] := by simp [low, byteAt]
theorem put_form (xs : List Int) (n : Int) (h0 : 0 ≤ n) : putB (xs ++ [(formB n).2]) n (formB n).1 = xs ++ varB n := by
  unfold putB formB varB
  have k8 : okz 8 = true := rfl
  have k4 : okz 4 = true := rfl
  have k2 : okz 2 = true := rfl
  have k0 : okz 0 = false := rfl
  by_cases h1 : 4294967296 ≤ n
  · have a1 : ¬ n < 253 := by omega
    have a2 : ¬ n < 65536 := by omega
    have a3 : ¬ n < 4294967296 := by omega
    simp only [if_pos h1, k8, if_true, if_neg a1, if_neg a2, if_neg a3]; simp
  by_cases h2 : 65536 ≤ n
  · have a1 : ¬ n < 253 := by omega
    have a2 : ¬ n < 65536 := by omega
    have a3 : n < 4294967296 := by omega
    simp only [if_neg h1, if_pos h2, k4, if_true, if_neg a1, if_neg a2, if_pos a3]; simp
  by_cases h3 : 253 ≤ n
  · have a1 : ¬ n < 253 := by omega
    have a2 : n < 65536 := by omega
    simp only [if_neg h1, if_neg h2, if_pos h3, k2, if_true, if_neg a1, if_pos a2]; simp
  have a1 : n < 253 := by omega
  simp only [if_neg h1, if_neg h2, if_neg h3, k0, if_pos a1, low_one]; simp
theorem formB_bd (n : Int) : 0 ≤ (formB n).1 ∧ (formB n).1 ≤ 8 ∧ 0 ≤ (formB n).2 ∧ (formB n).2 ≤ 255 := by
  unfold formB
  split
  · simp
  split
  · simp
  split
  · simp
  · simp only; omega

set_option maxRecDepth 100000 in
theorem putvar_c (v : Value) (xs : List Int) (n : Int) (w : World) (h : RdB w v xs) (hl : xs.length ≤ 10000000) (h0 : 0 ≤ n) (h1 : n ≤ 18446744073709551615) :
    Calls Try.prog 24 #[v, .int .u64 n] w fun e w' => ∃ v', e = .returned v' ∧ RowO w' w.heap.size v' (xs ++ varB n) ∧ Below w.heap.size w w' := by
  obtain ⟨i0, hi, hz0, hz1, hz2⟩ := info_parts Try.info5
  have kf := form_c n w
  have kc := clone_c v xs w h (by omega)
  have hbd := formB_bd n
  rw [← put_form xs n h0]
  generalize formB n = f at *
  obtain ⟨s, y⟩ := f
  simp only at kf hbd ⊢
  have HL := Lib.hid hl
  go_enter Try.func24, Try.ntmps24
  go_wp2_with first
    | (go_at_call 41; with_reducible refine kf.mono ?_; rintro e w1 ⟨rfl, rfl⟩)
    | (go_at_call 30; with_reducible refine kc.mono ?_; rintro e w2 ⟨vc, rfl, hr, hb⟩; have HB := hb.size; unfold RowO at hr)
    | (at_builtin; refine wpList_append_own _ rfl _ _ 22 rfl _ 5 i0 (.int .u8 0) 1 1 Try.underlying22 hi hz0 hz1 hz2 rfl (by decide) _ _ _ rfl (ownsRow_alloc hr _) ⟨w2.heap.size, 0, none⟩ 1 1 [.int .u8 y] rfl rfl ?c1 ?c2 ?c3 ?c4 ?c5 ?_)
  try case c1 => (intro j u hj; rcases j with _ | j <;> simp at hj; subst hj; simp [Addr.add])
  try case c2 => first | (intro u hu; simp at hu; subst hu; rfl) | rfl
  try case c3 => unfold maxLen; omega
  try case c4 => omega
  try case c5 => (simp; omega)
  intro v' w3 hown' hgrow _
  have hb3 := grown_below (ownsRow_alloc hr _) (Below.alloc hb HB _) (by simp; omega) hgrow
  clear hgrow
  rw [u8s_snoc, show xs.length + 1 = (xs ++ [y]).length by simp] at hown'
  have HB3 := hb3.size
  have kp := put_c v' (xs ++ [y]) n s w3 (RowO.rd hown') (by (have := HL.out; simp; omega)) h0 h1
  go_wp2_with (go_at_call 10; with_reducible refine kp.mono ?_; rintro e w4 ⟨vf, rfl, hr4, hb4⟩)
  go_ret
  exact ⟨_, rfl, hr4.down HB3, hb3.trans (hb4.mono HB3)⟩

set_option maxRecDepth 100000 in
theorem takeB_bd {xs : List Int} {i s : Int} (hb : Bytes xs) (hl : xs.length ≤ 100000000) : 0 ≤ (takeB xs i s).1 ∧ (takeB xs i s).1 ≤ 18446744073709551615 ∧ 0 ≤ (takeB xs i s).2.1 ∧ (takeB xs i s).2.1 ≤ 100000000 ∧ ((takeB xs i s).2.2 = 0 ∨ (takeB xs i s).2.2 = 1 ∨ (takeB xs i s).2.2 = 5) := by
  unfold takeB
  split
  · simp
  split
  · simp
  · rename_i h1 h2
    simp only [not_or] at h1
    have hz : okz s = true := by simpa using h1.1
    rw [okz_iff] at hz
    have := ofBytes_bd _ ((hb.drop i.toNat).take s.toNat)
    have hlen : ((xs.drop i.toNat).take s.toNat).length ≤ 8 := by rw [List.length_take]; omega
    have hpw : (256 : Int) ^ ((xs.drop i.toNat).take s.toNat).length ≤ 256 ^ 8 := by
      have := Nat.pow_le_pow_right (show 0 < 256 by omega) hlen
      exact_mod_cast this
    rw [show (256 : Int) ^ 8 = 18446744073709551616 by rfl] at hpw
    simp only
    refine ⟨this.1, by omega, by omega, by omega, .inl trivial⟩

set_option maxRecDepth 100000 in
theorem takevar_c (v : Value) (xs : List Int) (i : Int) (w : World) (h : RdB w v xs) (hb : Bytes xs) (hl : xs.length ≤ 100000000) (hi : I64 i) :
    Calls Try.prog 25 #[v, .int .i64 i] w fun e w' => e = .returned (tri (tvarB xs i)) ∧ w' = w := by
  have k1 := take_c v xs i 1 w h hb hl hi ⟨by omega, by omega⟩
  have b1 := takeB_bd (i := i) (s := 1) hb hl
  unfold tvarB tvar1
  generalize takeB xs i 1 = r at *
  obtain ⟨n1, p1, e1⟩ := r
  simp only at b1 ⊢
  unfold tri at k1
  simp only at k1
  by_cases he : e1 = 0
  case neg =>
    rw [if_pos he]
    have hd : (e1 != 0) = true := by simpa using he
    go_enter Try.func25, Try.ntmps25
    go_wp2_with (go_at_call 11; with_reducible refine k1.mono ?_; rintro e w1 ⟨rfl, rfl⟩)
    go_ret3
    exact ⟨rfl, rfl⟩
  subst he
  rw [if_neg (by simp)]
  by_cases h5 : n1 = 255 ∨ n1 = 254 ∨ n1 = 253
  case neg =>
    have a1 : ¬ n1 = 255 := by omega
    have a2 : ¬ n1 = 254 := by omega
    have a3 : ¬ n1 = 253 := by omega
    simp only [if_neg a1, if_neg a2, if_neg a3]
    go_enter Try.func25, Try.ntmps25
    go_wp2_with (go_at_call 11; with_reducible refine k1.mono ?_; rintro e w1 ⟨rfl, rfl⟩)
    go_ret3
    exact ⟨rfl, rfl⟩
  have go : ∀ s : Int, (s = 8 ∨ s = 4 ∨ s = 2) → Calls Try.prog 11 #[v, .int .i64 p1, .int .i64 s] w (fun e w' => e = .returned (tri (takeB xs p1 s)) ∧ w' = w) := fun s hs => take_c v xs p1 s w h hb hl ⟨by omega, by omega⟩ ⟨by omega, by omega⟩
  rcases h5 with rfl | rfl | rfl
  · have k2 := go 8 (by omega)
    have b2 := takeB_bd (i := p1) (s := 8) hb hl
    rw [if_pos rfl]
    unfold tvar2
    generalize takeB xs p1 8 = q at *
    obtain ⟨n2, p2, e2⟩ := q
    unfold tri at k2
    simp only at k2 b2 ⊢
    have kf := form_c n2 w
    generalize (formB n2).1 = fs at *
    generalize (formB n2).2 = fb at *
    clear go
    by_cases he : e2 = 0
    · subst he
      by_cases hf : fs = 8
      · subst hf
        rw [if_neg (by simp)]
        go_enter Try.func25, Try.ntmps25
        go_wp2_with first
          | (go_at_call_of 11 (Value.int .i64 1); with_reducible refine k1.mono ?_; rintro e w1 ⟨rfl, rfl⟩)
          | (go_at_call 11; with_reducible refine k2.mono ?_; rintro e w1 ⟨rfl, rfl⟩)
          | (go_at_call 41; with_reducible refine kf.mono ?_; rintro e w1 ⟨rfl, rfl⟩)
        go_ret3
        exact ⟨rfl, rfl⟩
      · rw [if_pos (.inr hf)]
        have hd : (fs != 8) = true := by simpa using hf
        go_enter Try.func25, Try.ntmps25
        go_wp2_with first
          | (go_at_call_of 11 (Value.int .i64 1); with_reducible refine k1.mono ?_; rintro e w1 ⟨rfl, rfl⟩)
          | (go_at_call 11; with_reducible refine k2.mono ?_; rintro e w1 ⟨rfl, rfl⟩)
          | (go_at_call 41; with_reducible refine kf.mono ?_; rintro e w1 ⟨rfl, rfl⟩)
        go_ret3
        exact ⟨rfl, rfl⟩
    · rw [if_pos (.inl he)]
      have hd : (e2 != 0) = true := by simpa using he
      go_enter Try.func25, Try.ntmps25
      go_wp2_with first
        | (go_at_call_of 11 (Value.int .i64 1); with_reducible refine k1.mono ?_; rintro e w1 ⟨rfl, rfl⟩)
        | (go_at_call 11; with_reducible refine k2.mono ?_; rintro e w1 ⟨rfl, rfl⟩)
        | (go_at_call 41; with_reducible refine kf.mono ?_; rintro e w1 ⟨rfl, rfl⟩)
      go_ret3
      exact ⟨rfl, rfl⟩
  · have k2 := go 4 (by omega)
    have b2 := takeB_bd (i := p1) (s := 4) hb hl
    rw [if_neg (by omega), if_pos rfl]
    unfold tvar2
    generalize takeB xs p1 4 = q at *
    obtain ⟨n2, p2, e2⟩ := q
    unfold tri at k2
    simp only at k2 b2 ⊢
    have kf := form_c n2 w
    generalize (formB n2).1 = fs at *
    generalize (formB n2).2 = fb at *
    clear go
    by_cases he : e2 = 0
    · subst he
      by_cases hf : fs = 4
      · subst hf
        rw [if_neg (by simp)]
        go_enter Try.func25, Try.ntmps25
        go_wp2_with first
          | (go_at_call_of 11 (Value.int .i64 1); with_reducible refine k1.mono ?_; rintro e w1 ⟨rfl, rfl⟩)
          | (go_at_call 11; with_reducible refine k2.mono ?_; rintro e w1 ⟨rfl, rfl⟩)
          | (go_at_call 41; with_reducible refine kf.mono ?_; rintro e w1 ⟨rfl, rfl⟩)
        go_ret3
        exact ⟨rfl, rfl⟩
      · rw [if_pos (.inr hf)]
        have hd : (fs != 4) = true := by simpa using hf
        go_enter Try.func25, Try.ntmps25
        go_wp2_with first
          | (go_at_call_of 11 (Value.int .i64 1); with_reducible refine k1.mono ?_; rintro e w1 ⟨rfl, rfl⟩)
          | (go_at_call 11; with_reducible refine k2.mono ?_; rintro e w1 ⟨rfl, rfl⟩)
          | (go_at_call 41; with_reducible refine kf.mono ?_; rintro e w1 ⟨rfl, rfl⟩)
        go_ret3
        exact ⟨rfl, rfl⟩
    · rw [if_pos (.inl he)]
      have hd : (e2 != 0) = true := by simpa using he
      go_enter Try.func25, Try.ntmps25
      go_wp2_with first
        | (go_at_call_of 11 (Value.int .i64 1); with_reducible refine k1.mono ?_; rintro e w1 ⟨rfl, rfl⟩)
        | (go_at_call 11; with_reducible refine k2.mono ?_; rintro e w1 ⟨rfl, rfl⟩)
        | (go_at_call 41; with_reducible refine kf.mono ?_; rintro e w1 ⟨rfl, rfl⟩)
      go_ret3
      exact ⟨rfl, rfl⟩
  · have k2 := go 2 (by omega)
    have b2 := takeB_bd (i := p1) (s := 2) hb hl
    rw [if_neg (by omega), if_neg (by omega), if_pos rfl]
    unfold tvar2
    generalize takeB xs p1 2 = q at *
    obtain ⟨n2, p2, e2⟩ := q
    unfold tri at k2
    simp only at k2 b2 ⊢
    have kf := form_c n2 w
    generalize (formB n2).1 = fs at *
    generalize (formB n2).2 = fb at *
    clear go
    by_cases he : e2 = 0
    · subst he
      by_cases hf : fs = 2
      · subst hf
        rw [if_neg (by simp)]
        go_enter Try.func25, Try.ntmps25
        go_wp2_with first
          | (go_at_call_of 11 (Value.int .i64 1); with_reducible refine k1.mono ?_; rintro e w1 ⟨rfl, rfl⟩)
          | (go_at_call 11; with_reducible refine k2.mono ?_; rintro e w1 ⟨rfl, rfl⟩)
          | (go_at_call 41; with_reducible refine kf.mono ?_; rintro e w1 ⟨rfl, rfl⟩)
        go_ret3
        exact ⟨rfl, rfl⟩
      · rw [if_pos (.inr hf)]
        have hd : (fs != 2) = true := by simpa using hf
        go_enter Try.func25, Try.ntmps25
        go_wp2_with first
          | (go_at_call_of 11 (Value.int .i64 1); with_reducible refine k1.mono ?_; rintro e w1 ⟨rfl, rfl⟩)
          | (go_at_call 11; with_reducible refine k2.mono ?_; rintro e w1 ⟨rfl, rfl⟩)
          | (go_at_call 41; with_reducible refine kf.mono ?_; rintro e w1 ⟨rfl, rfl⟩)
        go_ret3
        exact ⟨rfl, rfl⟩
    · rw [if_pos (.inl he)]
      have hd : (e2 != 0) = true := by simpa using he
      go_enter Try.func25, Try.ntmps25
      go_wp2_with first
        | (go_at_call_of 11 (Value.int .i64 1); with_reducible refine k1.mono ?_; rintro e w1 ⟨rfl, rfl⟩)
        | (go_at_call 11; with_reducible refine k2.mono ?_; rintro e w1 ⟨rfl, rfl⟩)
        | (go_at_call 41; with_reducible refine kf.mono ?_; rintro e w1 ⟨rfl, rfl⟩)
      go_ret3
      exact ⟨rfl, rfl⟩
end Go.Proofs.Ytoeooabaofpngaa
