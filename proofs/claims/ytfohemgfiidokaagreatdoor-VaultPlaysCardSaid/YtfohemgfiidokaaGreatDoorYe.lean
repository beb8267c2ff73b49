/- slices.Grow of no bytes, slices.Concat of bytes; vault's framed. -/
import Derived.Test.YtfohemgfiidokaaGreatDoorMe
namespace Go.Proofs.YtfohemgfiidokaaGreatDoor
open Go.RowKit Go.Sort

/-- rows of bytes that may be read -/
def RdL (w : World) (v : Value) (ls : List (List Int)) : Prop :=
  (v = .slice none 0 0 ∧ ls = []) ∨ ∃ a g o cap, v = .slice (some a) ls.length cap ∧ ls.length ≤ cap ∧ (0 < ls.length → a = ⟨g, o, none⟩) ∧ ∀ j, j < ls.length → ∃ u, w.cell? ⟨g, o + j, none⟩ = some u ∧ RdB w u (ls[j]?.getD [])
theorem RdL.keep {w w' : World} {v : Value} {ls : List (List Int)} (h : RdL w v ls) (hb : Below w.heap.size w w') : RdL w' v ls := by
  rcases h with h | ⟨a, g, o, cap, h1, h2, h3, h4⟩
  · exact .inl h
  · refine .inr ⟨a, g, o, cap, h1, h2, h3, fun j hj => ?_⟩
    obtain ⟨u, h5, h6⟩ := h4 j hj
    exact ⟨u, by rw [hb.cell (block_lt_of_cell h5)]; exact h5, h6.keep hb⟩
theorem RdL.shape {w : World} {v : Value} {ls : List (List Int)} (h : RdL w v ls) : ∃ a cap, v = .slice a ls.length cap ∧ ls.length ≤ cap ∧ ∀ j, j < ls.length → ∃ g o u, a = some ⟨g, o, none⟩ ∧ w.cell? ⟨g, o + j, none⟩ = some u ∧ RdB w u (ls[j]?.getD []) := by
  rcases h with ⟨rfl, rfl⟩ | ⟨a, g, o, cap, h1, h2, h3, h4⟩
  · exact ⟨_, _, rfl, Nat.le_refl _, fun j hj => by simp at hj⟩
  · refine ⟨_, _, h1, h2, fun j hj => ?_⟩
    obtain ⟨u, h5, h6⟩ := h4 j hj
    exact ⟨g, o, u, by rw [h3 (by omega)], h5, h6⟩

set_option maxRecDepth 100000 in
theorem grow_c (n : Int) (w : World) (h0 : 0 ≤ n) (h1 : n ≤ 1000000000) :
    Calls Tryz.prog 101 #[.slice none 0 0, .int .i64 n] w fun e w' => ∃ v, e = .returned v ∧ RowO w' w.heap.size v [] ∧ Below w.heap.size w w' := by
  obtain ⟨i0, hi, hz0, hz1, hz2⟩ := info_parts Tryz.info5
  have hw : IntKind.i64.wrap n = n := by rw [IntKind.wrap_i64]; omega
  by_cases hz : n = 0
  · subst hz
    go_enter Tryz.func101, Tryz.ntmps101
    go_wp2
    go_ret
    exact ⟨.slice none 0 0, rfl, World.ownsRow_nil _ _ _ _, Below.refl _ _⟩
  · obtain ⟨k, rfl⟩ := Int.eq_ofNat_of_zero_le h0
    have hk0 : 0 < k := by omega
    have hr := Lib.run_append_nil_zeros (P := Tryz.prog) w 40 3 40 5 i0 (.int .u8 0) .i64 .i64 Tryz.underlying40 Tryz.underlying3 hi hz0 k hk0 (by rw [hz1]; decide) (by omega) (by rw [hz2]; omega)
    have hkn : ¬ (k : Int) < 0 := by omega
    have hkp : (0 : Int) < k := by omega
    go_enter Tryz.func101, Tryz.ntmps101
    go_upto_region 5 with fail
    go_wp2_with (at_builtin; refine Lib.wpList_append_run _ rfl _ _ _ _ rfl _ _ rfl rfl _ _ hr ?_)
    go_ret
    have hge := grownCap_ge w k 0 5
    refine ⟨.slice (some ⟨w.heap.size, 0, none⟩) 0 (grownCap w k 0 5), rfl, ⟨rfl, .inr ⟨_, _, _, rfl, Nat.le_refl _, heap_alloc_new _ _, Nat.zero_le _, grownCap_le_maxLen _ _ _ _ (by unfold maxLen; omega), ?_, rfl⟩⟩, bel_alloc (Below.refl _ _).drew _⟩
    rw [Array.size_append, size_zeroCells, size_zeroCells]
    show k * 1 + (_ - k) * 1 = _ * 1
    omega

theorem flat_take (ls : List (List Int)) (k : Nat) (h : k < ls.length) : (ls.take (k + 1)).flatten = (ls.take k).flatten ++ ls[k]?.getD [] := by
  rw [List.take_succ_eq_append_getElem h, List.flatten_append, List.getElem?_eq_getElem h]
  simp
theorem flat_le (ls : List (List Int)) (k : Nat) : (ls.take k).flatten.length ≤ ls.flatten.length := by
  have := congrArg (fun l => (List.flatten l).length) (List.take_append_drop k ls)
  simp only [List.flatten_append, List.length_append] at this
  omega

set_option maxRecDepth 100000 in
theorem concat_c (v : Value) (ls : List (List Int)) (w : World) (hv : RdL w v ls) (hn : ls.length ≤ 1000000) (hl : ls.flatten.length ≤ 1000000000) :
    Calls Tryz.prog 98 #[v] w fun e w' => ∃ v', e = .returned v' ∧ RowO w' w.heap.size v' ls.flatten ∧ Below w.heap.size w w' := by
  have HG := Lib.hid (fun n h0 h1 => grow_c n w h0 h1)
  have hvk := fun W (hb : Below w.heap.size w W) => (hv.keep hb).shape
  obtain ⟨a, cap, rfl, hcap, hel⟩ := hv.shape
  have HE := Lib.hid (fun W (hb : Below w.heap.size w W) => show ∀ j, j < ls.length → ∃ g o u, a = some ⟨g, o, none⟩ ∧ W.cell? ⟨g, o + j, none⟩ = some u ∧ RdB W u (ls[j]?.getD []) from by
    obtain ⟨a', cap', e, -, h⟩ := hvk W hb
    cases e
    exact h)
  clear hvk hel hv
  go_enter Tryz.func98, Tryz.ntmps98
  go_upto_region 3 with fail
  go_loopw [3, 11] (fun m i wr => ∃ k : Nat, k ≤ ls.length ∧ i = .int .i64 k ∧ m = .int .i64 (((ls.take k).flatten.length : Nat) : Int) ∧ w = wr) (fun _ i _ => ls.length - (intOf i).toNat)
  case atStart => exact ⟨0, by omega, rfl, rfl, rfl⟩
  case round =>
    obtain ⟨k, hk, rfl, rfl, rfl⟩ := hrel
    by_cases hlt : k < ls.length
    · obtain ⟨g, o, u, rfl, hcell, hrd⟩ := HE.out w (Below.refl _ _) k hlt
      have hft := flat_take ls k hlt
      have hfl := flat_le ls (k + 1)
      rw [hft, List.length_append] at hfl
      obtain ⟨p, cp, rfl, hcp⟩ := RdB.shape hrd
      have hlen : (ls.take (k + 1)).flatten.length = (ls.take k).flatten.length + (ls[k]?.getD []).length := by rw [hft, List.length_append]
      have hkl : (k : Int) < ls.length := by omega
      generalize (ls[k]?.getD []) = x at *
      generalize (ls.take k).flatten.length = acc at *
      have hnn : ¬ (acc : Int) + (x.length : Int) < 0 := by omega
      have HL := Lib.hid hlen
      clear hft hlen hrd
      go_wp2
      exact ⟨⟨k + 1, by omega, by go_num, by rw [HL.out]; go_num, trivial⟩, by simp [intOf]; omega⟩
    · have hkk : k = ls.length := by omega
      have hkl : ¬ (k : Int) < ls.length := by omega
      have hf : (ls.take k).flatten.length = ls.flatten.length := by rw [hkk, List.take_length]
      rw [hf]
      have hgr := HG.out (ls.flatten.length : Nat) (by omega) (by omega)
      have hfle := flat_le ls
      generalize ls.flatten.length = L at *
      go_upto_region 11 with (go_at_call 101; with_reducible refine hgr.mono ?_; rintro e w1 ⟨v1, rfl, hr1, hb1⟩)
      go_loopw [6, 27] (fun b i W => ∃ q : Nat, q ≤ ls.length ∧ i = .int .i64 q ∧ RowO W w.heap.size b (ls.take q).flatten ∧ Below w.heap.size w W) (fun _ i _ => ls.length - (intOf i).toNat)
      case atStart => exact ⟨0, by omega, rfl, by simpa using hr1, hb1⟩
      case round =>
        clear hr1 hb1
        obtain ⟨q, hq, rfl, hr, hb⟩ := hrel
        by_cases hlq : q < ls.length
        · obtain ⟨g, o, u, rfl, hcell, hrd⟩ := HE.out _ hb q hlq
          have hft := flat_take ls q hlq
          have hfl := hfle (q + 1)
          rw [hft, List.length_append] at hfl
          have hlen2 : (ls.take q).flatten.length + (ls[q]?.getD []).length ≤ 1000000000 := by omega
          generalize (ls[q]?.getD []) = x at *
          generalize (ls.take q).flatten = acc at *
          have HF := Lib.hid hft
          have hql : (q : Int) < ls.length := by omega
          clear hft
          go_wp2_with (at_builtin; go_loud (refine wpList_append_rd rfl _ _ rfl w.heap.size hb.size _ acc rfl hr _ x rfl hrd hlen2 ?_); intro v3 w3 hr3 hg3; have hb3 := grown_below hr hb hb.size hg3)
          exact ⟨⟨q + 1, by omega, by go_num, by rw [HF.out]; exact hr3, hb3⟩, by simp [intOf]; omega⟩
        · have hqq : q = ls.length := by omega
          have hql : ¬ (q : Int) < ls.length := by omega
          rw [hqq, List.take_length] at hr
          clear hf hgr
          go_wp2
          go_ret
          exact ⟨_, rfl, hr, hb⟩
end Go.Proofs.YtfohemgfiidokaaGreatDoor
