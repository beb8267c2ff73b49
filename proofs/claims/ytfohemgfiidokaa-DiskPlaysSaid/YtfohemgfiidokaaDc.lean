/- (*file).stands, settle; (*Disk).may, New, Off, Fuse of cells. -/
import Derived.Test.YtfohemgfiidokaaDb
namespace Go.Proofs.Ytfohemgfiidokaa
open Go.RowKit Go.Sort

theorem RowO.shape {w : World} {B : Nat} {v : Value} {xs : List Int} (h : RowO w B v xs) : ∃ p cap, v = .slice p xs.length cap := by
  obtain ⟨-, ⟨h1, h2⟩ | ⟨g, cap, cur, h1, -⟩⟩ := h
  · exact ⟨none, 0, by rw [h1, h2]⟩
  · exact ⟨_, cap, h1⟩
theorem frozen_keep {w w' : World} {D o : Nat} {f : Bool} (h : w.frozen? ⟨D, o, none⟩ = f) (hb : Below w.heap.size w w') (hD : D < w.heap.size) : w'.frozen? ⟨D, o, none⟩ = f :=
  (World.frozen?_of_block (hb.block D hD)).trans h
/-- what stands in a file -/
def standsF (s : List Int) (l : List Chg) : List Int := keptF s 9223372036854775807 l

theorem stands_c (D o : Nat) (sv lv : Value) (s : List Int) (l : List Chg) (w : World) (c0 : w.cell? ⟨D, o, none⟩ = some sv) (c1 : w.cell? ⟨D, o + 1, none⟩ = some lv)
    (hs : RdB w sv s) (hl : LooseAt w lv l) (hL : s.length + sizes l ≤ 1000000000) (hn : l.length ≤ 1000000000) :
    Calls Try.prog 31 #[.pointer (some ⟨D, o, none⟩)] w fun e w' => ∃ v', e = .returned v' ∧ RowO w' w.heap.size v' (standsF s l) ∧ Below w.heap.size w w' := by
  have kk := kept_c D o sv lv s l 9223372036854775807 w c0 c1 hs hl hL hn (by omega) (by omega)
  go_enter Try.func31, Try.ntmps31
  go_wp2_with (go_at_call 43; with_reducible refine kk.mono ?_; rintro e w1 ⟨v', rfl, hr, hb⟩)
  go_ret
  exact ⟨_, rfl, hr, hb⟩

theorem settle_c (D o : Nat) (sv lv : Value) (s : List Int) (l : List Chg) (u : Int) (w : World) (c0 : w.cell? ⟨D, o, none⟩ = some sv) (c1 : w.cell? ⟨D, o + 1, none⟩ = some lv)
    (f0 : w.frozen? ⟨D, o, none⟩ = false) (f1 : w.frozen? ⟨D, o + 1, none⟩ = false)
    (hs : RdB w sv s) (hl : LooseAt w lv l) (hL : s.length + sizes l ≤ 1000000000) (hn : l.length ≤ 1000000000) (hu : -9223372036854775808 ≤ u) (hu' : u ≤ 9223372036854775807) :
    Calls Try.prog 36 #[.pointer (some ⟨D, o, none⟩), .int .i64 u] w fun e w' => ∃ v' w1, e = .returned undef ∧ RowO w1 w.heap.size v' (keptF s u l) ∧ Below w.heap.size w w1 ∧ w' = (w1.setCell ⟨D, o, none⟩ v').setCell ⟨D, o + 1, none⟩ (.slice none 0 0) := by
  have kk := kept_c D o sv lv s l u w c0 c1 hs hl hL hn hu hu'
  have hD := block_lt_of_cell c0
  go_enter Try.func36, Try.ntmps36
  go_wp2_with (go_at_call 43; with_reducible refine kk.mono ?_; rintro e w1 ⟨v', rfl, hr, hb⟩; have d0 : w1.cell? ⟨D, o, none⟩ = some sv := (hb.cell (block_lt_of_cell c0)).trans c0; have d1 : w1.cell? ⟨D, o + 1, none⟩ = some lv := (hb.cell (block_lt_of_cell c1)).trans c1; have e0 := frozen_keep f0 hb hD; have e1 := frozen_keep f1 hb hD; obtain ⟨p, cap, rfl⟩ := hr.shape)
  go_end0
  exact ⟨_, _, rfl, hr, hb, rfl⟩

theorem may_nil (f : Int) (w : World) : Calls Try.prog 33 #[.pointer none, .int .i64 f] w fun e w' => e = .returned (.int .i64 2) ∧ Below w.heap.size w w' := by
  go_enter Try.func33, Try.ntmps33
  go_wp2
  go_ret
  exact ⟨rfl, Below.refl _ _⟩
def mayv (off : Bool) (f : Int) : Int := if off then 8 else if f < 0 ∨ 2 ≤ f then 1 else 0
theorem may_c (D : Nat) (off : Bool) (f : Int) (w : World) (c : w.cell? ⟨D, 5, none⟩ = some (.bool off)) : Calls Try.prog 33 #[.pointer (some ⟨D, 0, none⟩), .int .i64 f] w fun e w' => e = .returned (.int .i64 (mayv off f)) ∧ w' = w := by
  unfold mayv
  cases off
  · by_cases h0 : f < 0
    · go_enter Try.func33, Try.ntmps33
      go_wp2
      go_ret
      exact ⟨by simp, rfl⟩
    · by_cases h1 : 2 ≤ f
      · go_enter Try.func33, Try.ntmps33
        go_wp2
        go_ret
        exact ⟨by simp, rfl⟩
      · go_enter Try.func33, Try.ntmps33
        go_wp2
        go_ret
        exact ⟨by simp, rfl⟩
  · go_enter Try.func33, Try.ntmps33
    go_wp2
    go_ret
    exact ⟨rfl, rfl⟩
end Go.Proofs.Ytfohemgfiidokaa
