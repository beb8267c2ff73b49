/- The reference's Low and Put. -/
import Derived.Test.YtoeooabaofpngaaOc
namespace Go.Proofs.Ytoeooabaofpngaa
open Go.RowKit Go.Sort

theorem RdB.some' {w : World} {v : Value} {xs : List Int} (h : RdB w v xs) (hn : 0 < xs.length) : ∃ a cap, v = .slice (some a) xs.length cap ∧ xs.length ≤ cap ∧ ∀ j u, (u8s xs)[j]? = some u → w.cell? (a.add j) = some u := by
  rcases h with ⟨-, rfl⟩ | ⟨a, g, o, cap, rfl, hc, ha, hcell⟩
  · simp at hn
  · have := rd_cell ha hcell xs.length
    rw [List.take_length] at this
    exact ⟨a, cap, rfl, hc, this⟩

set_option maxRecDepth 100000 in
theorem low_c (n : Int) (s : Nat) (w : World) (hs : s ≤ 8) (h0 : 0 ≤ n) (h1 : n ≤ 18446744073709551615) :
    Calls Try.prog 33 #[.int .u64 n, .int .i64 s] w fun e w' => ∃ v', e = .returned v' ∧ RowO w' w.heap.size v' (low n s) ∧ Below w.heap.size w w' := by
  obtain ⟨i0, hi, hz0, hz1, hz2⟩ := info_parts Try.info5
  go_enter Try.func33, Try.ntmps33
  go_wp2
  go_loopw [0, 5, 6] (fun m l i wr => ∃ k : Nat, k ≤ s ∧ i = .int .i64 k ∧ m = .int .u64 (n / 256 ^ k) ∧ RowO wr w.heap.size l (low n k) ∧ Below w.heap.size w wr) (fun _ _ i _ => s - (intOf i).toNat)
  case atStart => exact ⟨0, by omega, rfl, by simp, World.ownsRow_nil _ _ _ _, Below.refl _ _⟩
  case round =>
    obtain ⟨k, hk, rfl, rfl, hown, hB⟩ := hrel
    have hBs := hB.size
    by_cases hlt : k < s
    · have hd := div_bd n k h0 h1
      have hq := div256 n k
      have hbyte : n / 256 ^ k % 256 = byteAt n k := rfl
      generalize n / 256 ^ k = q at *
      have hlow := low_succ n k
      have hbd := byteAt_bd n k
      have hlen : (low n k).length ≤ 8 := by rw [low_length]; omega
      unfold RowO at hown
      generalize low n k = zs at *
      generalize byteAt n k = y at *
      have hy : IntKind.u8.wrap y = y := by rw [IntKind.wrap_u8]; omega
      have HY := Lib.hid hbyte; have HQ := Lib.hid hq; have HL := Lib.hid hlow
      clear hq hlow
      go_wp2_with (at_builtin; refine wpList_append_own _ rfl _ _ 22 rfl w.heap.size 5 i0 (.int .u8 0) 1 1 Try.underlying22 hi hz0 hz1 hz2 rfl (by decide) _ _ _ rfl (ownsRow_alloc hown _) ⟨wr.heap.size, 0, none⟩ 1 1 [.int .u8 y] rfl rfl ?c1 ?c2 ?c3 ?c4 ?c5 ?_)
      try case c1 => (intro j u hj; rcases j with _ | j <;> simp at hj; subst hj; simp [Addr.add])
      case c2 => first | (intro u hu; simp at hu; subst hu; rfl) | rfl
      case c3 => unfold maxLen; omega
      case c4 => omega
      case c5 => simp; omega
      intro v' w1 hown' hgrow _
      have hB2 := grown_below (ownsRow_alloc hown _) (Below.alloc hB (by omega) _) (by simp; omega) hgrow
      rw [u8s_snoc, show zs.length + 1 = (zs ++ [y]).length by simp, ← HL.out] at hown'
      clear hgrow
      go_wp2
      go_roundw
      case rel => exact ⟨k + 1, by omega, by go_num, by rw [← HQ.out], hown', hB2⟩
      case measure => simp [intOf]; omega
    · have : s = k := by omega
      subst this
      go_wp2
      go_ret
      exact ⟨_, rfl, hown, hB⟩

set_option maxRecDepth 100000 in
theorem rput_c (v : Value) (xs : List Int) (n s : Int) (w : World) (h : RdB w v xs) (hl : xs.length ≤ 100000000) (h0 : 0 ≤ n) (h1 : n ≤ 18446744073709551615) :
    Calls Try.prog 15 #[v, .int .u64 n, .int .i64 s] w fun e w' => ∃ v', e = .returned v' ∧ RowO w' w.heap.size v' (putB xs n s) ∧ Below w.heap.size w w' := by
  obtain ⟨i0, hi, hz0, hz1, hz2⟩ := info_parts Try.info5
  have hown0 : (w.alloc (.cells #[] 5)).ownsRow w.heap.size 5 1 (.slice (some ⟨w.heap.size, 0, none⟩) 0 0) 0 [] := ⟨rfl, .inr ⟨_, 0, #[], rfl, Nat.le_refl _, heap_alloc_new _ _, Nat.le_refl _, by unfold maxLen; omega, rfl, rfl⟩⟩
  unfold putB
  go_enter Try.func15, Try.ntmps15
  rcases h with ⟨rfl, rfl⟩ | ⟨a, g, o, cap, rfl, hc, ha, hcell⟩
  case' inl =>
    go_upto_region 2 with fail
    refine wp_gen (fun W => RowO W w.heap.size (.slice (some ⟨w.heap.size, 0, none⟩) 0 0) [] ∧ Below w.heap.size w W) ⟨hown0, bel_alloc (Below.refl _ w) _⟩ ?_
    generalize (Value.slice (some ⟨w.heap.size, 0, none⟩) 0 0) = vo
    generalize hxs : ([] : List Int) = xs at *
    clear hown0
    rintro w1 ⟨hr, hb⟩
  case' inr =>
    have hnew := rd_cell (w := w.alloc (.cells #[] 5)) (xs := xs) ha (fun j hj => by rw [(bel_alloc (Below.refl _ w) _).cell (block_lt_of_cell (hcell j hj))]; exact hcell j hj) xs.length
    rw [List.take_length] at hnew
    have HN := Lib.hid hnew
    clear hnew hcell ha
    go_upto_region 2 with (at_builtin; refine wpList_append_own _ rfl _ _ 22 rfl w.heap.size 5 i0 (.int .u8 0) 1 1 Try.underlying22 hi hz0 hz1 hz2 rfl (by decide) _ _ _ rfl hown0 a xs.length cap (u8s xs) rfl (by simp [u8s]) HN.out (u8s_one xs) ?c3 ?c4 ?c5 ?_)
    case c3 => unfold maxLen; omega
    case c4 => omega
    try case c5 => simp
    intro vo w1 hown' hgrow _
    have hb0 := grown_below hown0 (bel_alloc (Below.refl _ w) _) (by simp) hgrow
    clear hgrow hown0 HN
    go_upto_region 2 with fail
    have hr : RowO w1 w.heap.size vo xs := hown'
    have hb := hb0
    clear hown' hb0
  all_goals
    have HB := hb.size
    have HS := size_c s w1
    by_cases hs : okz s = true
    · have hs8 : 1 ≤ s ∧ s ≤ 8 := by rw [okz_iff] at hs; omega
      have kl := low_c n s.toNat w1 (by omega) h0 h1
      rw [Int.toNat_of_nonneg (by omega)] at kl
      have hlz : 0 < (low n s.toNat).length := by rw [low_length]; omega
      have hlm : (low n s.toNat).length ≤ 8 := by rw [low_length]; omega
      obtain ⟨zs, hzs⟩ : ∃ zs, zs = low n s.toNat := ⟨_, rfl⟩
      rw [← hzs] at kl hlz hlm
      have HZ := Lib.hid hzs
      clear hzs
      go_wp2_with first
        | (go_at_call 32; with_reducible refine HS.mono ?_; rintro e w2 ⟨rfl, rfl⟩; rw [hs])
        | (go_at_call 33; with_reducible refine kl.mono ?_; rintro e w2 ⟨vl, rfl, hrl, hbl⟩; obtain ⟨al, capl, rfl, hcl, hcells⟩ := hrl.rd.some' hlz; have hr2 := hr.keep hbl; unfold RowO at hr2; have HN := Lib.hid hcells; clear hcells hrl; have hb2 := hb.trans (hbl.mono HB); have HB2 := hb2.size)
        | (at_builtin; refine wpList_append_own _ rfl _ _ 22 rfl w.heap.size 5 i0 (.int .u8 0) 1 1 Try.underlying22 hi hz0 hz1 hz2 rfl (by decide) _ _ _ rfl hr2 al zs.length capl (u8s zs) rfl (by simp [u8s]) HN.out (u8s_one zs) ?c3 ?c4 ?c5 ?_)
      try case c3 => unfold maxLen; omega
      try case c4 => omega
      try case c5 => first | omega | (simp; omega)
      intro vf w3 hown3 hgrow _
      have hb3 := grown_below hr2 hb2 HB2 hgrow
      clear hgrow
      rw [u8s_append, show xs.length + zs.length = (xs ++ zs).length by simp] at hown3
      go_wp2
      go_ret
      exact ⟨_, rfl, by (have e := HZ.out; subst e; first | exact hown3 | (subst hxs; exact hown3)), hb3⟩
    · have hf : okz s = false := by simpa using hs
      go_wp2_with (go_at_call 32; with_reducible refine HS.mono ?_; rintro e w2 ⟨rfl, rfl⟩; rw [hf])
      go_ret
      exact ⟨_, rfl, by first | exact hr | (subst hxs; exact hr), hb⟩
end Go.Proofs.Ytoeooabaofpngaa
