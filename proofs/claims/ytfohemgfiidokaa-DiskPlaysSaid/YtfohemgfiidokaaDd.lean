/- (*Disk).Room, Read; what no disk answers. -/
import Derived.Test.YtfohemgfiidokaaDc
import Derived.Deep.RegionWith
namespace Go.Proofs.Ytfohemgfiidokaa
open Go.RowKit Go.Sort

theorem after_call {w W w1 : World} (h : Below w.heap.size w W) (hb : Below W.heap.size W w1) : Below w.heap.size w w1 := bel_call h hb

set_option maxRecDepth 100000 in
set_option maxHeartbeats 1600000 in
theorem room_c (D n0 n1 : Nat) (most : Int) (w : World) (cm : w.cell? ⟨D, 4, none⟩ = some (.int .i64 most)) (hm0 : 0 ≤ most) (hm1 : most ≤ 4194304) (h0 : n0 ≤ 1000000000) (h1 : n1 ≤ 1000000000)
    (ka : ∀ W, Below w.heap.size w W → Calls Try.prog 31 #[.pointer (some ⟨D, 0, none⟩)] W fun e w' => ∃ p cap, e = .returned (.slice p n0 cap) ∧ Below W.heap.size W w')
    (kb : ∀ W, Below w.heap.size w W → Calls Try.prog 31 #[.pointer (some ⟨D, 2, none⟩)] W fun e w' => ∃ p cap, e = .returned (.slice p n1 cap) ∧ Below W.heap.size W w') :
    Calls Try.prog 13 #[.pointer (some ⟨D, 0, none⟩)] w fun e w' => e = .returned (.int .i64 (max 0 (most - n0 - n1))) ∧ Below w.heap.size w w' := by
  have hbd : Below w.heap.size w w.drew := (Below.refl _ _).drew
  have ka0 := ka _ hbd
  have kb0 := kb _ hbd
  have g1 : IntKind.i64.wrap (most - n0) = most - n0 := by rw [IntKind.wrap_i64]; omega
  have g2 : IntKind.i64.wrap (most - n0 - n1) = most - n0 - n1 := by rw [IntKind.wrap_i64]; omega
  go_enter Try.func13, Try.ntmps13
  go_upto_region 3 with fail
  go_region_with (first
    | (go_at_call 31; with_reducible refine ka0.mono ?_; rintro e w1 ⟨p1, cap1, rfl, hb1⟩; have hB1 := after_call hbd hb1; have kb1 := kb _ hB1; have cm1 := (hB1.cell (block_lt_of_cell cm)).trans cm)
    | (go_at_call 31; with_reducible refine kb0.mono ?_; rintro e w2 ⟨p2, cap2, rfl, hb2⟩; have hB2 := after_call hbd hb2; have ka1 := ka _ hB2; have cm1 := (hB2.cell (block_lt_of_cell cm)).trans cm)
    | (go_at_call 31; with_reducible refine kb1.mono ?_; rintro e w3 ⟨p3, cap3, rfl, hb3⟩; have hB3 := after_call hB1 hb3; have cm2 := (hB3.cell (block_lt_of_cell cm)).trans cm)
    | (go_at_call 31; with_reducible refine ka1.mono ?_; rintro e w4 ⟨p4, cap4, rfl, hb4⟩; have hB4 := after_call hB2 hb4; have cm2 := (hB4.cell (block_lt_of_cell cm)).trans cm))
  all_goals go_wp2
  all_goals go_ret
  all_goals refine ⟨congrArg (fun z : Int => Ending.returned (.int .i64 z)) ?_, ?_⟩
  all_goals first | omega | exact hB3 | exact hB4

theorem room_nil (w : World) : Calls Try.prog 13 #[.pointer none] w fun e w' => e = .returned (.int .i64 0) ∧ Below w.heap.size w w' := by
  go_enter Try.func13, Try.ntmps13
  go_wp2
  go_ret
  exact ⟨rfl, Below.refl _ _⟩
theorem read_nil (f : Int) (w : World) : Calls Try.prog 21 #[.pointer none, .int .i64 f] w fun e w' => e = .returned (.tuple #[.slice none 0 0, .int .i64 2]) ∧ Below w.heap.size w w' := by
  have km := may_nil f
  go_enter Try.func21, Try.ntmps21
  go_wp2_with (go_at_call 33; with_reducible refine (km _).mono ?_; rintro e w1 ⟨rfl, hb1⟩)
  go_ret2
  exact ⟨rfl, hb1⟩
theorem fuse_nil (n : Int) (w : World) : Calls Try.prog 22 #[.pointer none, .int .i64 n] w fun e w' => e = .returned (.int .i64 2) ∧ Below w.heap.size w w' := by
  have km := may_nil 0
  go_enter Try.func22, Try.ntmps22
  go_wp2_with (go_at_call 33; with_reducible refine (km _).mono ?_; rintro e w1 ⟨rfl, hb1⟩)
  go_ret
  exact ⟨rfl, hb1⟩
theorem off_nil (w : World) : Calls Try.prog 17 #[.pointer none] w fun e w' => e = .returned (.int .i64 2) ∧ Below w.heap.size w w' := by
  have km := may_nil 0
  go_enter Try.func17, Try.ntmps17
  go_wp2_with (go_at_call 33; with_reducible refine (km _).mono ?_; rintro e w1 ⟨rfl, hb1⟩)
  go_ret
  exact ⟨rfl, hb1⟩
theorem on_nil (v : Value) (w : World) : Calls Try.prog 18 #[.pointer none, v] w fun e w' => e = .returned (.int .i64 2) ∧ Below w.heap.size w w' := by
  go_enter Try.func18, Try.ntmps18
  go_wp2
  go_ret
  exact ⟨rfl, Below.refl _ _⟩
theorem write_nil (f : Int) (p : Option Addr) (n cap : Nat) (w : World) : Calls Try.prog 16 #[.pointer none, .int .i64 f, .slice p n cap] w fun e w' => e = .returned (.int .i64 2) ∧ Below w.heap.size w w' := by
  have km := may_nil f
  go_enter Try.func16, Try.ntmps16
  go_wp2_with (go_at_call 33; with_reducible refine (km _).mono ?_; rintro e w1 ⟨rfl, hb1⟩)
  go_ret
  exact ⟨rfl, bel_call (bel_alloc (bel_alloc (bel_alloc (Below.refl _ _) _) _) _) hb1⟩
theorem cut_nil (f n : Int) (w : World) : Calls Try.prog 23 #[.pointer none, .int .i64 f, .int .i64 n] w fun e w' => e = .returned (.int .i64 2) ∧ Below w.heap.size w w' := by
  have km := may_nil f
  go_enter Try.func23, Try.ntmps23
  go_wp2_with (go_at_call 33; with_reducible refine (km _).mono ?_; rintro e w1 ⟨rfl, hb1⟩)
  go_ret
  exact ⟨rfl, bel_call (bel_alloc (bel_alloc (bel_alloc (Below.refl _ _) _) _) _) hb1⟩
theorem sync_nil (f : Int) (w : World) : Calls Try.prog 15 #[.pointer none, .int .i64 f] w fun e w' => e = .returned (.int .i64 2) ∧ Below w.heap.size w w' := by
  have km := may_nil f
  go_enter Try.func15, Try.ntmps15
  go_wp2_with (go_at_call 33; with_reducible refine (km _).mono ?_; rintro e w1 ⟨rfl, hb1⟩)
  go_ret
  exact ⟨rfl, bel_call (bel_alloc (bel_alloc (Below.refl _ _) _) _) hb1⟩
end Go.Proofs.Ytfohemgfiidokaa
