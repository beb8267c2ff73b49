/- The walk of DiskNil. -/
import Derived.Test.YtfohemgfiidokaaFr
namespace Go.Proofs.Ytfohemgfiidokaa.diskNil
open Go.RowKit Go.Sort

set_option maxRecDepth 100000 in
set_option maxHeartbeats 1600000 in
theorem walk (f n : Int) (v : Value) (xs : List Int) (hv : ∃ p cap, v = .slice p xs.length cap) (w : World) :
    Calls Try.prog 7 #[.int .i64 f, .int .i64 n, v] w fun e w' => e = .returned (.bool true) ∧ Below w.heap.size w w' := by
  obtain ⟨p, cap, rfl⟩ := hv
  by_cases hl : 4096 < xs.length
  · have hl' : (4096 : Int) < xs.length := by omega
    go_enter Try.func7, Try.ntmps7
    go_wp2_with (go_at_call 9; refine (works_c _).mono ?_; rintro e w1 ⟨rfl, hb1⟩)
    go_ret
    exact ⟨rfl, hb1⟩
  · have hl' : ¬ (4096 : Int) < xs.length := by omega
    go_enter Try.func7, Try.ntmps7
    go_wp2_with fail
    refine (read_nil f _).mono ?_
    rintro e w1 ⟨rfl, hb1⟩
    go_wp2_with fail
    refine (write_nil f _ _ _ _).mono ?_
    rintro e w2 ⟨rfl, hb2⟩
    go_wp2_with fail
    refine (cut_nil f n _).mono ?_
    rintro e w3 ⟨rfl, hb3⟩
    go_wp2_with fail
    refine (sync_nil f _).mono ?_
    rintro e w4 ⟨rfl, hb4⟩
    go_wp2_with fail
    refine (fuse_nil n _).mono ?_
    rintro e w5 ⟨rfl, hb5⟩
    go_wp2_with fail
    refine (off_nil _).mono ?_
    rintro e w6 ⟨rfl, hb6⟩
    go_wp2_with fail
    refine (on_nil _ _).mono ?_
    rintro e w7 ⟨rfl, hb7⟩
    go_wp2_with fail
    refine (room_nil _).mono ?_
    rintro e w8 ⟨rfl, hb8⟩
    go_wp2_with fail
    refine (works_c _).mono ?_
    rintro e w9 ⟨rfl, hb9⟩
    go_wp2_with fail
    go_ret
    have hbb := bel_call (bel_call (bel_call (bel_call (bel_call hb1 hb2) hb3) hb4) hb5) hb6
    exact ⟨rfl, bel_call (bel_call (bel_call (bel_alloc hbb _) hb7) hb8) hb9⟩
end Go.Proofs.Ytfohemgfiidokaa.diskNil
