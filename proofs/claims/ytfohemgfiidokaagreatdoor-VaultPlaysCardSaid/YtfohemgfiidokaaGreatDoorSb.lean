/- Words turned round. -/
import Derived.Test.YtfohemgfiidokaaGreatDoorSa
namespace Go.Proofs.YtfohemgfiidokaaGreatDoor
open Go.RowKit Go.Sort
theorem ret_int {k : IntKind} {a b : Int} (h : a = b) : Ending.returned (.int k a) = .returned (.int k b) := by rw [h]
theorem rotl2_c (x : Int) (w : World) : Calls Tryz.prog 114 #[.int .u32 x, .int .i64 (-2)] w fun e w' => e = .returned (.int .u32 (rr x 2)) ∧ w = w' := by
  have ha : bits .and .u64 (IntKind.u64.wrap (-2)) 31 = 30 := by decide
  go_enter Tryz.func114, Tryz.ntmps114
  go_wp2
  go_ret
  exact ⟨rfl, rfl⟩
theorem right2_c (x : Int) (w : World) : Calls Tryz.prog 113 #[.int .u32 x, .int .i64 2] w fun e w' => e = .returned (.int .u32 (rr x 2)) ∧ w = w' := by
  have k := rotl2_c x w
  go_enter Tryz.func113, Tryz.ntmps113
  go_wp2_with (go_at_call 114; with_reducible refine k.mono ?_; rintro e w1 ⟨rfl, rfl⟩)
  go_ret
  exact ⟨rfl, rfl⟩
theorem rright2_c (x : Int) (w : World) : Calls Tryz.prog 109 #[.int .u32 x, .int .u64 2] w fun e w' => e = .returned (.int .u32 (rr x 2)) ∧ w = w' := by
  go_enter Tryz.func109, Tryz.ntmps109
  go_wp2
  go_ret
  exact ⟨ret_int (or_comm32 _ _), rfl⟩
theorem rotl6_c (x : Int) (w : World) : Calls Tryz.prog 114 #[.int .u32 x, .int .i64 (-6)] w fun e w' => e = .returned (.int .u32 (rr x 6)) ∧ w = w' := by
  have ha : bits .and .u64 (IntKind.u64.wrap (-6)) 31 = 26 := by decide
  go_enter Tryz.func114, Tryz.ntmps114
  go_wp2
  go_ret
  exact ⟨rfl, rfl⟩
theorem right6_c (x : Int) (w : World) : Calls Tryz.prog 113 #[.int .u32 x, .int .i64 6] w fun e w' => e = .returned (.int .u32 (rr x 6)) ∧ w = w' := by
  have k := rotl6_c x w
  go_enter Tryz.func113, Tryz.ntmps113
  go_wp2_with (go_at_call 114; with_reducible refine k.mono ?_; rintro e w1 ⟨rfl, rfl⟩)
  go_ret
  exact ⟨rfl, rfl⟩
theorem rright6_c (x : Int) (w : World) : Calls Tryz.prog 109 #[.int .u32 x, .int .u64 6] w fun e w' => e = .returned (.int .u32 (rr x 6)) ∧ w = w' := by
  go_enter Tryz.func109, Tryz.ntmps109
  go_wp2
  go_ret
  exact ⟨ret_int (or_comm32 _ _), rfl⟩
theorem rotl7_c (x : Int) (w : World) : Calls Tryz.prog 114 #[.int .u32 x, .int .i64 (-7)] w fun e w' => e = .returned (.int .u32 (rr x 7)) ∧ w = w' := by
  have ha : bits .and .u64 (IntKind.u64.wrap (-7)) 31 = 25 := by decide
  go_enter Tryz.func114, Tryz.ntmps114
  go_wp2
  go_ret
  exact ⟨rfl, rfl⟩
theorem right7_c (x : Int) (w : World) : Calls Tryz.prog 113 #[.int .u32 x, .int .i64 7] w fun e w' => e = .returned (.int .u32 (rr x 7)) ∧ w = w' := by
  have k := rotl7_c x w
  go_enter Tryz.func113, Tryz.ntmps113
  go_wp2_with (go_at_call 114; with_reducible refine k.mono ?_; rintro e w1 ⟨rfl, rfl⟩)
  go_ret
  exact ⟨rfl, rfl⟩
theorem rright7_c (x : Int) (w : World) : Calls Tryz.prog 109 #[.int .u32 x, .int .u64 7] w fun e w' => e = .returned (.int .u32 (rr x 7)) ∧ w = w' := by
  go_enter Tryz.func109, Tryz.ntmps109
  go_wp2
  go_ret
  exact ⟨ret_int (or_comm32 _ _), rfl⟩
theorem rotl11_c (x : Int) (w : World) : Calls Tryz.prog 114 #[.int .u32 x, .int .i64 (-11)] w fun e w' => e = .returned (.int .u32 (rr x 11)) ∧ w = w' := by
  have ha : bits .and .u64 (IntKind.u64.wrap (-11)) 31 = 21 := by decide
  go_enter Tryz.func114, Tryz.ntmps114
  go_wp2
  go_ret
  exact ⟨rfl, rfl⟩
theorem right11_c (x : Int) (w : World) : Calls Tryz.prog 113 #[.int .u32 x, .int .i64 11] w fun e w' => e = .returned (.int .u32 (rr x 11)) ∧ w = w' := by
  have k := rotl11_c x w
  go_enter Tryz.func113, Tryz.ntmps113
  go_wp2_with (go_at_call 114; with_reducible refine k.mono ?_; rintro e w1 ⟨rfl, rfl⟩)
  go_ret
  exact ⟨rfl, rfl⟩
theorem rright11_c (x : Int) (w : World) : Calls Tryz.prog 109 #[.int .u32 x, .int .u64 11] w fun e w' => e = .returned (.int .u32 (rr x 11)) ∧ w = w' := by
  go_enter Tryz.func109, Tryz.ntmps109
  go_wp2
  go_ret
  exact ⟨ret_int (or_comm32 _ _), rfl⟩
theorem rotl13_c (x : Int) (w : World) : Calls Tryz.prog 114 #[.int .u32 x, .int .i64 (-13)] w fun e w' => e = .returned (.int .u32 (rr x 13)) ∧ w = w' := by
  have ha : bits .and .u64 (IntKind.u64.wrap (-13)) 31 = 19 := by decide
  go_enter Tryz.func114, Tryz.ntmps114
  go_wp2
  go_ret
  exact ⟨rfl, rfl⟩
theorem right13_c (x : Int) (w : World) : Calls Tryz.prog 113 #[.int .u32 x, .int .i64 13] w fun e w' => e = .returned (.int .u32 (rr x 13)) ∧ w = w' := by
  have k := rotl13_c x w
  go_enter Tryz.func113, Tryz.ntmps113
  go_wp2_with (go_at_call 114; with_reducible refine k.mono ?_; rintro e w1 ⟨rfl, rfl⟩)
  go_ret
  exact ⟨rfl, rfl⟩
theorem rright13_c (x : Int) (w : World) : Calls Tryz.prog 109 #[.int .u32 x, .int .u64 13] w fun e w' => e = .returned (.int .u32 (rr x 13)) ∧ w = w' := by
  go_enter Tryz.func109, Tryz.ntmps109
  go_wp2
  go_ret
  exact ⟨ret_int (or_comm32 _ _), rfl⟩
theorem rotl17_c (x : Int) (w : World) : Calls Tryz.prog 114 #[.int .u32 x, .int .i64 (-17)] w fun e w' => e = .returned (.int .u32 (rr x 17)) ∧ w = w' := by
  have ha : bits .and .u64 (IntKind.u64.wrap (-17)) 31 = 15 := by decide
  go_enter Tryz.func114, Tryz.ntmps114
  go_wp2
  go_ret
  exact ⟨rfl, rfl⟩
theorem right17_c (x : Int) (w : World) : Calls Tryz.prog 113 #[.int .u32 x, .int .i64 17] w fun e w' => e = .returned (.int .u32 (rr x 17)) ∧ w = w' := by
  have k := rotl17_c x w
  go_enter Tryz.func113, Tryz.ntmps113
  go_wp2_with (go_at_call 114; with_reducible refine k.mono ?_; rintro e w1 ⟨rfl, rfl⟩)
  go_ret
  exact ⟨rfl, rfl⟩
theorem rright17_c (x : Int) (w : World) : Calls Tryz.prog 109 #[.int .u32 x, .int .u64 17] w fun e w' => e = .returned (.int .u32 (rr x 17)) ∧ w = w' := by
  go_enter Tryz.func109, Tryz.ntmps109
  go_wp2
  go_ret
  exact ⟨ret_int (or_comm32 _ _), rfl⟩
theorem rotl18_c (x : Int) (w : World) : Calls Tryz.prog 114 #[.int .u32 x, .int .i64 (-18)] w fun e w' => e = .returned (.int .u32 (rr x 18)) ∧ w = w' := by
  have ha : bits .and .u64 (IntKind.u64.wrap (-18)) 31 = 14 := by decide
  go_enter Tryz.func114, Tryz.ntmps114
  go_wp2
  go_ret
  exact ⟨rfl, rfl⟩
theorem right18_c (x : Int) (w : World) : Calls Tryz.prog 113 #[.int .u32 x, .int .i64 18] w fun e w' => e = .returned (.int .u32 (rr x 18)) ∧ w = w' := by
  have k := rotl18_c x w
  go_enter Tryz.func113, Tryz.ntmps113
  go_wp2_with (go_at_call 114; with_reducible refine k.mono ?_; rintro e w1 ⟨rfl, rfl⟩)
  go_ret
  exact ⟨rfl, rfl⟩
theorem rright18_c (x : Int) (w : World) : Calls Tryz.prog 109 #[.int .u32 x, .int .u64 18] w fun e w' => e = .returned (.int .u32 (rr x 18)) ∧ w = w' := by
  go_enter Tryz.func109, Tryz.ntmps109
  go_wp2
  go_ret
  exact ⟨ret_int (or_comm32 _ _), rfl⟩
theorem rotl19_c (x : Int) (w : World) : Calls Tryz.prog 114 #[.int .u32 x, .int .i64 (-19)] w fun e w' => e = .returned (.int .u32 (rr x 19)) ∧ w = w' := by
  have ha : bits .and .u64 (IntKind.u64.wrap (-19)) 31 = 13 := by decide
  go_enter Tryz.func114, Tryz.ntmps114
  go_wp2
  go_ret
  exact ⟨rfl, rfl⟩
theorem right19_c (x : Int) (w : World) : Calls Tryz.prog 113 #[.int .u32 x, .int .i64 19] w fun e w' => e = .returned (.int .u32 (rr x 19)) ∧ w = w' := by
  have k := rotl19_c x w
  go_enter Tryz.func113, Tryz.ntmps113
  go_wp2_with (go_at_call 114; with_reducible refine k.mono ?_; rintro e w1 ⟨rfl, rfl⟩)
  go_ret
  exact ⟨rfl, rfl⟩
theorem rright19_c (x : Int) (w : World) : Calls Tryz.prog 109 #[.int .u32 x, .int .u64 19] w fun e w' => e = .returned (.int .u32 (rr x 19)) ∧ w = w' := by
  go_enter Tryz.func109, Tryz.ntmps109
  go_wp2
  go_ret
  exact ⟨ret_int (or_comm32 _ _), rfl⟩
theorem rotl22_c (x : Int) (w : World) : Calls Tryz.prog 114 #[.int .u32 x, .int .i64 (-22)] w fun e w' => e = .returned (.int .u32 (rr x 22)) ∧ w = w' := by
  have ha : bits .and .u64 (IntKind.u64.wrap (-22)) 31 = 10 := by decide
  go_enter Tryz.func114, Tryz.ntmps114
  go_wp2
  go_ret
  exact ⟨rfl, rfl⟩
theorem right22_c (x : Int) (w : World) : Calls Tryz.prog 113 #[.int .u32 x, .int .i64 22] w fun e w' => e = .returned (.int .u32 (rr x 22)) ∧ w = w' := by
  have k := rotl22_c x w
  go_enter Tryz.func113, Tryz.ntmps113
  go_wp2_with (go_at_call 114; with_reducible refine k.mono ?_; rintro e w1 ⟨rfl, rfl⟩)
  go_ret
  exact ⟨rfl, rfl⟩
theorem rright22_c (x : Int) (w : World) : Calls Tryz.prog 109 #[.int .u32 x, .int .u64 22] w fun e w' => e = .returned (.int .u32 (rr x 22)) ∧ w = w' := by
  go_enter Tryz.func109, Tryz.ntmps109
  go_wp2
  go_ret
  exact ⟨ret_int (or_comm32 _ _), rfl⟩
theorem rotl25_c (x : Int) (w : World) : Calls Tryz.prog 114 #[.int .u32 x, .int .i64 (-25)] w fun e w' => e = .returned (.int .u32 (rr x 25)) ∧ w = w' := by
  have ha : bits .and .u64 (IntKind.u64.wrap (-25)) 31 = 7 := by decide
  go_enter Tryz.func114, Tryz.ntmps114
  go_wp2
  go_ret
  exact ⟨rfl, rfl⟩
theorem right25_c (x : Int) (w : World) : Calls Tryz.prog 113 #[.int .u32 x, .int .i64 25] w fun e w' => e = .returned (.int .u32 (rr x 25)) ∧ w = w' := by
  have k := rotl25_c x w
  go_enter Tryz.func113, Tryz.ntmps113
  go_wp2_with (go_at_call 114; with_reducible refine k.mono ?_; rintro e w1 ⟨rfl, rfl⟩)
  go_ret
  exact ⟨rfl, rfl⟩
theorem rright25_c (x : Int) (w : World) : Calls Tryz.prog 109 #[.int .u32 x, .int .u64 25] w fun e w' => e = .returned (.int .u32 (rr x 25)) ∧ w = w' := by
  go_enter Tryz.func109, Tryz.ntmps109
  go_wp2
  go_ret
  exact ⟨ret_int (or_comm32 _ _), rfl⟩
end Go.Proofs.YtfohemgfiidokaaGreatDoor
