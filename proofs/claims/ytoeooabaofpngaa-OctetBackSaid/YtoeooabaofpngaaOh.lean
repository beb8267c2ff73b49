/- The reference's Some. -/
import Derived.Test.YtoeooabaofpngaaOg
namespace Go.Proofs.Ytoeooabaofpngaa
open Go.RowKit Go.Sort

set_option maxRecDepth 100000 in
theorem rsome_c (v : Value) (xs : List Int) (i n : Int) (w : World) (h : RdB w v xs) (hl : xs.length ≤ 100000000) (hi : I64 i) (h0 : 0 ≤ n) (hn : n ≤ 18446744073709551615) :
    Calls Try.prog 29 #[v, .int .i64 i, .int .u64 n] w fun e w' => ∃ v', e = .returned (.tuple #[v', .int .i64 (someB xs i n).2.1, .int .i64 (someB xs i n).2.2]) ∧ RowO w' w.heap.size v' (someB xs i n).1 ∧ Below w.heap.size w w' := by
  obtain ⟨hi1, hi2⟩ := hi
  have hv : ∃ a cap, v = .slice a xs.length cap ∧ xs.length ≤ cap := by
    rcases h with ⟨rfl, rfl⟩ | ⟨a, g, o, cap, rfl, hc, ha, hcell⟩
    · exact ⟨_, _, rfl, Nat.le_refl _⟩
    · exact ⟨_, _, rfl, hc⟩
  by_cases h1 : i < 0
  · rw [someB_arg (.inl h1)]
    obtain ⟨a, cap, rfl, hc⟩ := hv
    go_enter Try.func29, Try.ntmps29
    go_wp2
    go_ret3
    exact ⟨_, rfl, World.ownsRow_nil _ _ _ _, Below.refl _ _⟩
  by_cases h2 : (xs.length : Int) < i
  · rw [someB_arg (.inr h2)]
    obtain ⟨a, cap, rfl, hc⟩ := hv
    go_enter Try.func29, Try.ntmps29
    go_wp2
    go_ret3
    exact ⟨_, rfl, World.ownsRow_nil _ _ _ _, Below.refl _ _⟩
  have hno : ¬ (i < 0 ∨ (xs.length : Int) < i) := by omega
  have g0 : IntKind.i64.wrap ((xs.length : Int) - i) = (xs.length : Int) - i := by rw [IntKind.wrap_i64]; omega
  have g1 : IntKind.u64.wrap ((xs.length : Int) - i) = (xs.length : Int) - i := by rw [IntKind.wrap_u64]; omega
  by_cases h3 : (xs.length : Int) - i < n
  · rw [someB_bytes hno h3]
    obtain ⟨a, cap, rfl, hc⟩ := hv
    go_enter Try.func29, Try.ntmps29
    go_wp2
    go_ret3
    exact ⟨_, rfl, World.ownsRow_nil _ _ _ _, Below.refl _ _⟩
  rw [someB_ok hno h3]
  clear hv hno
  obtain ⟨j, rfl⟩ := Int.eq_ofNat_of_zero_le (show 0 ≤ i by omega)
  obtain ⟨z, rfl⟩ := Int.eq_ofNat_of_zero_le h0
  have g2 : IntKind.i64.wrap (z : Int) = (z : Int) := by rw [IntKind.wrap_i64]; omega
  have g3 : IntKind.i64.wrap ((j : Int) + z) = (j : Int) + z := by rw [IntKind.wrap_i64]; omega
  simp only [Int.toNat_natCast]
  obtain ⟨i0, hi', hz0, hz1, hz2⟩ := info_parts Try.info5
  have hown0 : (w.alloc (.cells #[] 5)).ownsRow w.heap.size 5 1 (.slice (some ⟨w.heap.size, 0, none⟩) 0 0) 0 [] := ⟨rfl, .inr ⟨_, 0, #[], rfl, Nat.le_refl _, heap_alloc_new _ _, Nat.le_refl _, by unfold maxLen; omega, rfl, rfl⟩⟩
  by_cases hx : xs.length = 0
  · obtain rfl := List.length_eq_zero_iff.1 hx
    have hj : j = 0 := by simp at h2; omega
    have hz : z = 0 := by simp at h3; omega
    subst hj; subst hz
    rcases h with ⟨rfl, -⟩ | ⟨a, g, o, cap, rfl, hc, ha, hcell⟩
    · go_enter Try.func29, Try.ntmps29
      go_wp2
      go_ret3
      exact ⟨_, rfl, hown0, bel_alloc (Below.refl _ w) _⟩
    · go_enter Try.func29, Try.ntmps29
      go_wp2_with (at_builtin; refine wpList_append_own _ rfl _ _ 22 rfl w.heap.size 5 i0 (.int .u8 0) 1 1 Try.underlying22 hi' hz0 hz1 hz2 rfl (by decide) _ _ _ rfl hown0 (_) 0 cap (u8s []) rfl (by simp [u8s]) (by intro j u hu; simp [u8s] at hu) (u8s_one []) ?c3 ?c4 ?c5 ?_)
      try case c3 => unfold maxLen; omega
      try case c4 => omega
      try case c5 => first | omega | simp
      intro v' w1 hown' hgrow _
      have hb0 := grown_below hown0 (bel_alloc (Below.refl _ w) _) (by simp) hgrow
      clear hgrow hown0
      go_wp2
      go_ret3
      exact ⟨_, rfl, hown', hb0⟩
  rcases h with ⟨rfl, rfl⟩ | ⟨a, g, o, cap, rfl, hc, ha, hcell⟩
  · simp at hx
  obtain rfl := ha (by omega)
  by_cases hcj : cap = j
  · have hz : z = 0 := by omega
    subst hz; subst hcj
    rw [List.take_zero]
    clear hcell ha
    go_enter Try.func29, Try.ntmps29
    go_wp2_with (at_builtin; refine wpList_append_own _ rfl _ _ 22 rfl w.heap.size 5 i0 (.int .u8 0) 1 1 Try.underlying22 hi' hz0 hz1 hz2 rfl (by decide) _ _ _ rfl hown0 (_) 0 0 (u8s []) rfl (by simp [u8s]) (by intro j u hu; simp [u8s] at hu) (u8s_one []) ?c3 ?c4 ?c5 ?_)
    try case c3 => unfold maxLen; omega
    try case c4 => omega
    try case c5 => first | omega | simp
    intro v' w1 hown' hgrow _
    have hb0 := grown_below hown0 (bel_alloc (Below.refl _ w) _) (by simp) hgrow
    clear hgrow hown0
    go_wp2
    go_ret3
    exact ⟨_, rfl, hown', hb0⟩
  have hrd := rd_part (cap := cap - j) hcell (show j + z ≤ xs.length by omega) (by omega)
  have hlz : ((xs.drop j).take z).length = z := by rw [List.length_take, List.length_drop]; omega
  by_cases hz : z = 0
  · subst hz
    rw [List.take_zero]
    clear hrd hcell ha
    go_enter Try.func29, Try.ntmps29
    go_wp2_with (at_builtin; refine wpList_append_own _ rfl _ _ 22 rfl w.heap.size 5 i0 (.int .u8 0) 1 1 Try.underlying22 hi' hz0 hz1 hz2 rfl (by decide) _ _ _ rfl hown0 (_) 0 (cap - j) (u8s []) rfl (by simp [u8s]) (by intro j u hu; simp [u8s] at hu) (u8s_one []) ?c3 ?c4 ?c5 ?_)
    try case c3 => unfold maxLen; omega
    try case c4 => omega
    try case c5 => first | omega | simp
    intro v' w1 hown' hgrow _
    have hb0 := grown_below hown0 (bel_alloc (Below.refl _ w) _) (by simp) hgrow
    clear hgrow hown0
    go_wp2
    go_ret3
    exact ⟨_, rfl, hown', hb0⟩
  have hnew : ∀ q u, (u8s ((xs.drop j).take z))[q]? = some u → (w.alloc (.cells #[] 5)).cell? (Addr.add ⟨g, o + j, none⟩ q) = some u := by
    obtain ⟨a', c', e1, e2, e3⟩ := (hrd.keep (bel_alloc (Below.refl _ w) (.cells #[] 5))).some' (by omega)
    injection e1 with e1 _ _
    injection e1 with e1
    subst e1
    exact e3
  have HL := Lib.hid hlz
  generalize (xs.drop j).take z = ys at *
  have HN := Lib.hid hnew
  have HC := Lib.hid hcell
  have hyl : (u8s ys).length = z := by simp [u8s, HL.out]
  have HY := Lib.hid hyl
  clear hcell ha hnew hrd hlz hyl
  go_enter Try.func29, Try.ntmps29
  go_wp2_with (at_builtin; refine wpList_append_own _ rfl _ _ 22 rfl w.heap.size 5 i0 (.int .u8 0) 1 1 Try.underlying22 hi' hz0 hz1 hz2 rfl (by decide) _ _ _ rfl hown0 (⟨g, o + j, none⟩) _ (cap - j) (u8s ys) rfl ?dl ?dn (u8s_one ys) ?d3 ?d4 ?d5 ?_)
  try case dl => first | exact HY.out | (rw [Nat.mul_one, HY.out]; omega)
  try case dn => first | exact HN.out | (intro q u hu; have := HN.out q u hu; rw [Addr.add_lit] at this; exact this)
  try case d3 => unfold maxLen; omega
  try case d4 => omega
  try case d5 => first | omega | simp
  intro v' w1 hown' hgrow _
  have hb0 := grown_below hown0 (bel_alloc (Below.refl _ w) _) (by simp) hgrow
  clear hgrow hown0
  have e : z = ys.length := HL.out.symm
  have hr : RowO w1 w.heap.size v' ys := by unfold RowO; rw [← e]; exact hown'
  clear e
  go_wp2
  go_ret3
  exact ⟨_, rfl, hr, hb0⟩

/-- do bytes begin with others, from a place on? -/
def startsB (xs : List Int) (j : Nat) (ys : List Int) : Bool := decide (ys.length ≤ xs.length - j ∧ (xs.drop j).take ys.length = ys)

set_option maxRecDepth 100000 in
theorem starts_c (v u : Value) (xs ys : List Int) (j : Nat) (w : World) (hx : RdB w v xs) (hy : RdB w u ys) (hl : xs.length ≤ 100000000) (hj : j ≤ xs.length) (hl2 : ys.length ≤ 1000) (hl3 : 0 < ys.length) :
    Calls Try.prog 42 #[v, .int .i64 j, u] w fun e w' => e = .returned (.bool (startsB xs j ys)) ∧ Below w.heap.size w w' := by
  have g0 : IntKind.i64.wrap ((xs.length : Int) - j) = (xs.length : Int) - j := by rw [IntKind.wrap_i64]; omega
  unfold startsB
  rcases hy with ⟨-, rfl⟩ | ⟨a', g', o', cap', rfl, hc', ha', hcell'⟩
  · simp at hl3
  obtain rfl := ha' hl3
  by_cases hlen : ys.length ≤ xs.length - j
  case neg =>
    rw [decide_eq_false (fun e => hlen e.1)]
    have hv : ∃ a cap, v = .slice a xs.length cap ∧ xs.length ≤ cap := by
      rcases hx with ⟨rfl, rfl⟩ | ⟨a, g, o, cap, rfl, hc, ha, hcell⟩
      · exact ⟨_, _, rfl, Nat.le_refl _⟩
      · exact ⟨_, _, rfl, hc⟩
    obtain ⟨a, cap, rfl, hc⟩ := hv
    clear hcell' ha'
    have hd : decide ((xs.length : Int) - j < ys.length) = true := decide_eq_true (by omega)
    go_enter Try.func42, Try.ntmps42
    go_wp2
    go_ret
    exact ⟨rfl, Below.refl _ _⟩
  rcases hx with ⟨rfl, rfl⟩ | ⟨a, g, o, cap, rfl, hc, ha, hcell⟩
  · rw [List.length_nil] at hlen; omega
  obtain rfl := ha (by omega)
  have HC := Lib.hid hcell; have HC' := Lib.hid hcell'
  clear hcell hcell' ha ha'
  go_enter Try.func42, Try.ntmps42
  go_wp2
  go_loopw [7] (fun i wr => ∃ k : Nat, k ≤ ys.length ∧ i = .int .i64 k ∧ Below w.heap.size w wr ∧ (xs.drop j).take k = ys.take k) (fun i _ => ys.length - (intOf i).toNat)
  case atStart => exact ⟨0, by omega, rfl, Below.refl _ _, by simp⟩
  case round =>
    obtain ⟨k, hk, rfl, hb, heq⟩ := hrel
    by_cases hlt : k < ys.length
    · have c1 := HC.out (j + k) (by omega)
      rw [← hb.cell (block_lt_of_cell c1)] at c1
      have c2 := HC'.out k (by omega)
      rw [← hb.cell (block_lt_of_cell c2)] at c2
      rw [List.getElem?_eq_getElem hlt, Option.getD_some] at c2
      have hx1 := cut_succ xs j k (by omega)
      have hy1 := List.take_succ_eq_append_getElem hlt
      generalize xs[j + k]?.getD 0 = p at *
      generalize ys[k] = q at *
      have gk : IntKind.i64.wrap ((j : Int) + k) = ((j + k : Nat) : Int) := by rw [IntKind.wrap_i64]; omega
      have hjk : j + k < xs.length := by omega
      by_cases hpq : p = q
      · subst hpq
        have HX := Lib.hid hx1; have HY := Lib.hid hy1; have HE := Lib.hid heq
        clear hx1 hy1 heq
        go_wp2_with fail
        go_quiet (fail)
        go_wp2_with fail
        go_roundw
        case rel => exact ⟨k + 1, by omega, by go_num, bel_call hb (below_drewN wr nq), by rw [HX.out, HY.out, HE.out]⟩
        case measure => simp [intOf]; omega
      · have hne : ¬ (ys.length ≤ xs.length - j ∧ (xs.drop j).take ys.length = ys) := fun e => by
          have e2 := congrArg (List.take (k + 1)) e.2
          rw [List.take_take, Nat.min_eq_left (by omega), hx1, hy1] at e2
          have := List.append_inj_right' e2 rfl
          simp at this; exact hpq this
        have hd := decide_eq_false hne
        clear hx1 hy1 heq hne
        go_wp2_with fail
        go_quiet (fail)
        go_wp2_with fail
        go_ret
        exact ⟨by rw [hd]; rfl, bel_call hb (below_drewN wr nq)⟩
    · have hk : k = ys.length := by omega
      subst hk
      rw [List.take_length] at heq
      have hd := decide_eq_true (p := ys.length ≤ xs.length - j ∧ (xs.drop j).take ys.length = ys) ⟨hlen, heq⟩
      clear heq
      go_wp2
      go_ret
      exact ⟨by rw [hd]; rfl, hb⟩
end Go.Proofs.Ytoeooabaofpngaa
