/- Some; the reference's Some, Var and starts. -/
import Derived.Test.YtoeooabaofpngaaOf
namespace Go.Proofs.Ytoeooabaofpngaa
open Go.RowKit Go.Sort

theorem someB_arg {b : List Int} {i n : Int} (h : i < 0 ∨ (b.length : Int) < i) : someB b i n = ([], 0, 1) := by unfold someB; rw [if_pos h]
theorem someB_bytes {b : List Int} {i n : Int} (h : ¬ (i < 0 ∨ (b.length : Int) < i)) (h2 : (b.length : Int) - i < n) : someB b i n = ([], 0, 5) := by unfold someB; rw [if_neg h, if_pos h2]
theorem someB_ok {b : List Int} {i n : Int} (h : ¬ (i < 0 ∨ (b.length : Int) < i)) (h2 : ¬ (b.length : Int) - i < n) : someB b i n = ((b.drop i.toNat).take n.toNat, i + n, 0) := by unfold someB; rw [if_neg h, if_neg h2]
/-- a part of a row that may be read -/
theorem rd_part {w : World} {g o j z cap : Nat} {xs : List Int} (h : ∀ q, q < xs.length → w.cell? ⟨g, o + q, none⟩ = some (.int .u8 (xs[q]?.getD 0))) (hj : j + z ≤ xs.length) (hc : z ≤ cap) : RdB w (.slice (some ⟨g, o + j, none⟩) z cap) ((xs.drop j).take z) := by
  have hlen : ((xs.drop j).take z).length = z := by rw [List.length_take, List.length_drop]; omega
  refine .inr ⟨_, g, o + j, cap, by rw [hlen], by omega, fun _ => rfl, fun q hq => ?_⟩
  rw [hlen] at hq
  rw [show o + j + q = o + (j + q) by omega, h (j + q) (by omega), List.getElem?_take, if_pos hq, List.getElem?_drop]

set_option maxRecDepth 100000 in
theorem some_c (v : Value) (xs : List Int) (i n : Int) (w : World) (h : RdB w v xs) (hl : xs.length ≤ 100000000) (hi : I64 i) (h0 : 0 ≤ n) (hn : n ≤ 18446744073709551615) :
    Calls Try.prog 28 #[v, .int .i64 i, .int .u64 n] w fun e w' => ∃ v', e = .returned (.tuple #[v', .int .i64 (someB xs i n).2.1, .int .i64 (someB xs i n).2.2]) ∧ RowO w' w.heap.size v' (someB xs i n).1 ∧ Below w.heap.size w w' := by
  obtain ⟨hi1, hi2⟩ := hi
  have hv : ∃ a cap, v = .slice a xs.length cap ∧ xs.length ≤ cap := by
    rcases h with ⟨rfl, rfl⟩ | ⟨a, g, o, cap, rfl, hc, ha, hcell⟩
    · exact ⟨_, _, rfl, Nat.le_refl _⟩
    · exact ⟨_, _, rfl, hc⟩
  by_cases h1 : i < 0
  · rw [someB_arg (.inl h1)]
    obtain ⟨a, cap, rfl, hc⟩ := hv
    go_enter Try.func28, Try.ntmps28
    go_wp2
    go_ret3
    exact ⟨_, rfl, World.ownsRow_nil _ _ _ _, Below.refl _ _⟩
  by_cases h2 : (xs.length : Int) < i
  · rw [someB_arg (.inr h2)]
    obtain ⟨a, cap, rfl, hc⟩ := hv
    go_enter Try.func28, Try.ntmps28
    go_wp2
    go_ret3
    exact ⟨_, rfl, World.ownsRow_nil _ _ _ _, Below.refl _ _⟩
  have hno : ¬ (i < 0 ∨ (xs.length : Int) < i) := by omega
  have g0 : IntKind.i64.wrap ((xs.length : Int) - i) = (xs.length : Int) - i := by rw [IntKind.wrap_i64]; omega
  have g1 : IntKind.u64.wrap ((xs.length : Int) - i) = (xs.length : Int) - i := by rw [IntKind.wrap_u64]; omega
  by_cases h3 : (xs.length : Int) - i < n
  · rw [someB_bytes hno h3]
    obtain ⟨a, cap, rfl, hc⟩ := hv
    go_enter Try.func28, Try.ntmps28
    go_wp2
    go_ret3
    exact ⟨_, rfl, World.ownsRow_nil _ _ _ _, Below.refl _ _⟩
  rw [someB_ok hno h3]
  clear hv hno
  obtain ⟨j, rfl⟩ := Int.eq_ofNat_of_zero_le (show 0 ≤ i by omega)
  obtain ⟨z, rfl⟩ := Int.eq_ofNat_of_zero_le h0
  have g2 : IntKind.i64.wrap (z : Int) = (z : Int) := by rw [IntKind.wrap_i64]; omega
  have g3 : IntKind.i64.wrap ((j : Int) + z) = (j : Int) + z := by rw [IntKind.wrap_i64]; omega
  simp only [Int.toNat_natCast]
  by_cases hx : xs.length = 0
  · obtain rfl := List.length_eq_zero_iff.1 hx
    have hj : j = 0 := by simp at h2; omega
    have hz : z = 0 := by simp at h3; omega
    subst hj; subst hz
    have kc := clone_c (.slice none 0 0) [] w (.inl ⟨rfl, rfl⟩) (by simp)
    rcases h with ⟨rfl, -⟩ | ⟨a, g, o, cap, rfl, hc, ha, hcell⟩
    · go_enter Try.func28, Try.ntmps28
      go_wp2_with (go_at_call 30; with_reducible refine kc.mono ?_; rintro e w1 ⟨vf, rfl, hr, hb⟩)
      go_ret3
      exact ⟨_, rfl, hr, hb⟩
    · have kc2 : ∀ a', Calls Try.prog 30 #[.slice (some a') 0 cap] w _ := fun a' => clone_c (.slice (some a') 0 cap) [] w (.inr ⟨a', 0, 0, cap, rfl, by omega, fun e => absurd e (by simp), fun j hj => absurd hj (by simp)⟩) (by simp)
      go_enter Try.func28, Try.ntmps28
      go_wp2_with (go_at_call 30; with_reducible refine (kc2 _).mono ?_; rintro e w1 ⟨vf, rfl, hr, hb⟩)
      go_ret3
      exact ⟨_, rfl, hr, hb⟩
  rcases h with ⟨rfl, rfl⟩ | ⟨a, g, o, cap, rfl, hc, ha, hcell⟩
  · simp at hx
  obtain rfl := ha (by omega)
  by_cases hcj : cap = j
  · have hz : z = 0 := by omega
    subst hz; subst hcj
    have kc2 := clone_c (.slice (some ⟨g, o, none⟩) 0 0) [] w (.inr ⟨_, 0, 0, 0, rfl, by simp, fun e => absurd e (by simp), fun j hj => absurd hj (by simp)⟩) (by simp)
    rw [List.take_zero]
    clear hcell ha
    go_enter Try.func28, Try.ntmps28
    go_wp2_with (go_at_call 30; with_reducible refine kc2.mono ?_; rintro e w1 ⟨vf, rfl, hr, hb⟩)
    go_ret3
    exact ⟨_, rfl, hr, hb⟩
  have hlz : ((xs.drop j).take z).length ≤ 1000000000 := by rw [List.length_take]; omega
  have kc := clone_c _ _ w (rd_part (cap := cap - j) hcell (show j + z ≤ xs.length by omega) (by omega)) hlz
  generalize (xs.drop j).take z = ys at *
  have HC := Lib.hid hcell
  clear hcell ha
  go_enter Try.func28, Try.ntmps28
  go_wp2_with (go_at_call 30; with_reducible refine kc.mono ?_; rintro e w1 ⟨vf, rfl, hr, hb⟩)
  go_ret3
  exact ⟨_, rfl, hr, hb⟩
theorem varB_len (n : Int) : 1 ≤ (varB n).length ∧ (varB n).length ≤ 9 := by
  unfold varB
  split
  · simp [low_length]
  split
  · simp [low_length]
  split
  · simp [low_length]
  · simp [low_length]
theorem varB_bytes (n : Int) : Bytes (varB n) := by
  have c : ∀ (x : Int) (l : List Int), 0 ≤ x → x ≤ 255 → Bytes l → Bytes (x :: l) := by
    intro x l h0 h1 h b hb
    rcases List.mem_cons.1 hb with rfl | hb
    · exact ⟨h0, h1⟩
    · exact h b hb
  unfold varB
  split
  · exact low_bytes _ _
  split
  · exact c _ _ (by omega) (by omega) (low_bytes _ _)
  split
  · exact c _ _ (by omega) (by omega) (low_bytes _ _)
  · exact c _ _ (by omega) (by omega) (low_bytes _ _)

set_option maxRecDepth 100000 in
theorem var_c (n : Int) (w : World) (h0 : 0 ≤ n) (hn : n ≤ 18446744073709551615) :
    Calls Try.prog 27 #[.int .u64 n] w fun e w' => ∃ v', e = .returned v' ∧ RowO w' w.heap.size v' (varB n) ∧ Below w.heap.size w w' := by
  obtain ⟨i0, hi, hz0, hz1, hz2⟩ := info_parts Try.info5
  have own1 : ∀ y : Int, (w.alloc (.cells #[.int .u8 y] 5)).ownsRow w.heap.size 5 1 (.slice (some ⟨w.heap.size, 0, none⟩) 1 1) 1 (u8s [y]) := fun y => ⟨rfl, .inr ⟨_, 1, #[.int .u8 y], rfl, Nat.le_refl _, heap_alloc_new _ _, Nat.le_refl _, by unfold maxLen; omega, rfl, rfl⟩⟩
  have hb1 : ∀ o : Obj, Below w.heap.size w (w.alloc o) := fun o => bel_alloc (Below.refl _ w) o
  unfold varB
  by_cases h1 : n < 253
  · rw [if_pos h1]
    have kl : Calls Try.prog 33 #[.int .u64 n, .int .i64 1] w _ := low_c n 1 w (by omega) h0 hn
    go_enter Try.func27, Try.ntmps27
    go_wp2_with (go_at_call 33; with_reducible refine kl.mono ?_; rintro e w1 ⟨vf, rfl, hr, hb⟩)
    go_ret
    exact ⟨_, rfl, hr, hb⟩
  rw [if_neg h1]
  by_cases h2 : n < 65536
  · rw [if_pos h2]
    have o1 := own1 253
    have kl : Calls Try.prog 33 #[.int .u64 n, .int .i64 2] (w.alloc (.cells #[.int .u8 253] 5)) _ := low_c n 2 (w.alloc (.cells #[.int .u8 253] 5)) (by omega) h0 hn
    have hlen : 0 < (low n 2).length ∧ (low n 2).length ≤ 9 := by rw [low_length]; omega
    obtain ⟨zs, hzs⟩ : ∃ zs, zs = low n 2 := ⟨_, rfl⟩
    rw [← hzs] at kl hlen ⊢
    clear hzs
    go_enter Try.func27, Try.ntmps27
    go_wp2_with first
      | (go_at_call 33; with_reducible refine kl.mono ?_; rintro e w1 ⟨vl, rfl, hr, hb⟩; obtain ⟨al, capl, rfl, hcl, hcells⟩ := hr.rd.some' (by omega); have HB := hb.size; have o2 := ownsRow_keep o1 hb; have HN := Lib.hid hcells; clear hcells hr; have hb2 := (hb1 (.cells #[.int .u8 253] 5)).trans (hb.mono (hb1 _).size); have HB2 := hb2.size)
      | (at_builtin; refine wpList_append_own _ rfl _ _ 22 rfl w.heap.size 5 i0 (.int .u8 0) 1 1 Try.underlying22 hi hz0 hz1 hz2 rfl (by decide) _ _ _ rfl o2 al zs.length capl (u8s zs) rfl (by simp [u8s]) HN.out (u8s_one zs) ?c3 ?c4 ?c5 ?_)
    try case c3 => unfold maxLen; omega
    try case c4 => omega
    try case c5 => first | omega | (simp; omega)
    intro vf w3 hown3 hgrow _
    have hb3 := grown_below o2 hb2 HB2 hgrow
    clear hgrow
    rw [u8s_append, show 1 + zs.length = (253 :: zs).length by simp; omega] at hown3
    go_wp2
    go_ret
    exact ⟨_, rfl, hown3, hb3⟩
  rw [if_neg h2]
  by_cases h3 : n < 4294967296
  · rw [if_pos h3]
    have o1 := own1 254
    have kl : Calls Try.prog 33 #[.int .u64 n, .int .i64 4] (w.alloc (.cells #[.int .u8 254] 5)) _ := low_c n 4 (w.alloc (.cells #[.int .u8 254] 5)) (by omega) h0 hn
    have hlen : 0 < (low n 4).length ∧ (low n 4).length ≤ 9 := by rw [low_length]; omega
    obtain ⟨zs, hzs⟩ : ∃ zs, zs = low n 4 := ⟨_, rfl⟩
    rw [← hzs] at kl hlen ⊢
    clear hzs
    go_enter Try.func27, Try.ntmps27
    go_wp2_with first
      | (go_at_call 33; with_reducible refine kl.mono ?_; rintro e w1 ⟨vl, rfl, hr, hb⟩; obtain ⟨al, capl, rfl, hcl, hcells⟩ := hr.rd.some' (by omega); have HB := hb.size; have o2 := ownsRow_keep o1 hb; have HN := Lib.hid hcells; clear hcells hr; have hb2 := (hb1 (.cells #[.int .u8 254] 5)).trans (hb.mono (hb1 _).size); have HB2 := hb2.size)
      | (at_builtin; refine wpList_append_own _ rfl _ _ 22 rfl w.heap.size 5 i0 (.int .u8 0) 1 1 Try.underlying22 hi hz0 hz1 hz2 rfl (by decide) _ _ _ rfl o2 al zs.length capl (u8s zs) rfl (by simp [u8s]) HN.out (u8s_one zs) ?c3 ?c4 ?c5 ?_)
    try case c3 => unfold maxLen; omega
    try case c4 => omega
    try case c5 => first | omega | (simp; omega)
    intro vf w3 hown3 hgrow _
    have hb3 := grown_below o2 hb2 HB2 hgrow
    clear hgrow
    rw [u8s_append, show 1 + zs.length = (254 :: zs).length by simp; omega] at hown3
    go_wp2
    go_ret
    exact ⟨_, rfl, hown3, hb3⟩
  rw [if_neg h3]
  have hlast : ¬ n < 4294967296 := h3
  have o1 := own1 255
  have kl : Calls Try.prog 33 #[.int .u64 n, .int .i64 8] (w.alloc (.cells #[.int .u8 255] 5)) _ := low_c n 8 (w.alloc (.cells #[.int .u8 255] 5)) (by omega) h0 hn
  have hlen : 0 < (low n 8).length ∧ (low n 8).length ≤ 9 := by rw [low_length]; omega
  obtain ⟨zs, hzs⟩ : ∃ zs, zs = low n 8 := ⟨_, rfl⟩
  rw [← hzs] at kl hlen ⊢
  clear hzs
  go_enter Try.func27, Try.ntmps27
  go_wp2_with first
    | (go_at_call 33; with_reducible refine kl.mono ?_; rintro e w1 ⟨vl, rfl, hr, hb⟩; obtain ⟨al, capl, rfl, hcl, hcells⟩ := hr.rd.some' (by omega); have HB := hb.size; have o2 := ownsRow_keep o1 hb; have HN := Lib.hid hcells; clear hcells hr; have hb2 := (hb1 (.cells #[.int .u8 255] 5)).trans (hb.mono (hb1 _).size); have HB2 := hb2.size)
    | (at_builtin; refine wpList_append_own _ rfl _ _ 22 rfl w.heap.size 5 i0 (.int .u8 0) 1 1 Try.underlying22 hi hz0 hz1 hz2 rfl (by decide) _ _ _ rfl o2 al zs.length capl (u8s zs) rfl (by simp [u8s]) HN.out (u8s_one zs) ?c3 ?c4 ?c5 ?_)
  try case c3 => unfold maxLen; omega
  try case c4 => omega
  try case c5 => first | omega | (simp; omega)
  intro vf w3 hown3 hgrow _
  have hb3 := grown_below o2 hb2 HB2 hgrow
  clear hgrow
  rw [u8s_append, show 1 + zs.length = (255 :: zs).length by simp; omega] at hown3
  go_wp2
  go_ret
  exact ⟨_, rfl, hown3, hb3⟩

end Go.Proofs.Ytoeooabaofpngaa
