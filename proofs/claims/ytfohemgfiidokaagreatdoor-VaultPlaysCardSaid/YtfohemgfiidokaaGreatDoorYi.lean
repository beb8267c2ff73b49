/- vault's all: it does things one after the other, up to the first error. -/
import Derived.Test.YtfohemgfiidokaaGreatDoorYh
namespace Go.Proofs.YtfohemgfiidokaaGreatDoor
open Go.RowKit Go.Sort

set_option maxRecDepth 100000 in
theorem all_begin (g cap : Nat) (x : Value) (w : World) (J : Nat → World → Prop) (E : Int → World → Prop)
    (c0 : ∀ W, J 0 W → W.cell? ⟨g, 0, none⟩ = some (.func (.func 72) #[] #[x]))
    (s0 : ∀ W, J 0 W → Calls Tryz.prog 72 #[x] W fun e W' => ∃ r, e = .returned (.int .i64 r) ∧ (r = 0 → J 1 W') ∧ (r ≠ 0 → E r W'))
    (c1 : ∀ W, J 1 W → W.cell? ⟨g, 1, none⟩ = some (.func (.func 73) #[] #[x]))
    (s1 : ∀ W, J 1 W → Calls Tryz.prog 73 #[x] W fun e W' => ∃ r, e = .returned (.int .i64 r) ∧ (r = 0 → J 2 W') ∧ (r ≠ 0 → E r W'))
    (c2 : ∀ W, J 2 W → W.cell? ⟨g, 2, none⟩ = some (.func (.func 74) #[] #[x]))
    (s2 : ∀ W, J 2 W → Calls Tryz.prog 74 #[x] W fun e W' => ∃ r, e = .returned (.int .i64 r) ∧ (r = 0 → J 3 W') ∧ (r ≠ 0 → E r W'))
    (c3 : ∀ W, J 3 W → W.cell? ⟨g, 3, none⟩ = some (.func (.func 75) #[] #[x]))
    (s3 : ∀ W, J 3 W → Calls Tryz.prog 75 #[x] W fun e W' => ∃ r, e = .returned (.int .i64 r) ∧ (r = 0 → J 4 W') ∧ (r ≠ 0 → E r W'))
    (h0 : J 0 w) :
    Calls Tryz.prog 31 #[.slice (some ⟨g, 0, none⟩) 4 cap] w fun e w' => ∃ r, e = .returned (.int .i64 r) ∧ (r = 0 → J 4 w') ∧ (r ≠ 0 → E r w') := by
  go_enter Tryz.func31, Tryz.ntmps31
  go_upto_region 2 with fail
  go_loopw [8] (fun i wr => ∃ k : Nat, k ≤ 4 ∧ i = .int .i64 k ∧ J k wr) (fun i _ => 4 - (intOf i).toNat)
  case atStart => exact ⟨0, by omega, rfl, h0⟩
  case round =>
    obtain ⟨k, hk, rfl, hJ⟩ := hrel
    rcases k with _ | _ | _ | _ | k
    · have hc := c0 wr hJ
      have hs := s0 wr hJ
      go_upto_region 5 with (go_at_call 72; with_reducible refine hs.mono ?_; rintro e w1 ⟨r, rfl, hz, hnz⟩)
      by_cases hr : r = 0
      · have hj := hz hr
        subst hr
        clear hz hnz hs
        go_wp2
        exact ⟨⟨1, by omega, by go_num, hj⟩, by simp [intOf]⟩
      · have he := hnz hr
        have hq : (r == 0) = false := by rw [beq_eq_false_iff_ne]; exact hr
        have HR := Lib.hid hr
        clear hz hnz hs hr
        go_wp2
        go_ret
        exact ⟨_, rfl, fun e => absurd e HR.out, fun _ => he⟩
    · have hc := c1 wr hJ
      have hs := s1 wr hJ
      go_upto_region 5 with (go_at_call 73; with_reducible refine hs.mono ?_; rintro e w1 ⟨r, rfl, hz, hnz⟩)
      by_cases hr : r = 0
      · have hj := hz hr
        subst hr
        clear hz hnz hs
        go_wp2
        exact ⟨⟨2, by omega, by go_num, hj⟩, by simp [intOf]⟩
      · have he := hnz hr
        have hq : (r == 0) = false := by rw [beq_eq_false_iff_ne]; exact hr
        have HR := Lib.hid hr
        clear hz hnz hs hr
        go_wp2
        go_ret
        exact ⟨_, rfl, fun e => absurd e HR.out, fun _ => he⟩
    · have hc := c2 wr hJ
      have hs := s2 wr hJ
      go_upto_region 5 with (go_at_call 74; with_reducible refine hs.mono ?_; rintro e w1 ⟨r, rfl, hz, hnz⟩)
      by_cases hr : r = 0
      · have hj := hz hr
        subst hr
        clear hz hnz hs
        go_wp2
        exact ⟨⟨3, by omega, by go_num, hj⟩, by simp [intOf]⟩
      · have he := hnz hr
        have hq : (r == 0) = false := by rw [beq_eq_false_iff_ne]; exact hr
        have HR := Lib.hid hr
        clear hz hnz hs hr
        go_wp2
        go_ret
        exact ⟨_, rfl, fun e => absurd e HR.out, fun _ => he⟩
    · have hc := c3 wr hJ
      have hs := s3 wr hJ
      go_upto_region 5 with (go_at_call 75; with_reducible refine hs.mono ?_; rintro e w1 ⟨r, rfl, hz, hnz⟩)
      by_cases hr : r = 0
      · have hj := hz hr
        subst hr
        clear hz hnz hs
        go_wp2
        exact ⟨⟨4, by omega, by go_num, hj⟩, by simp [intOf]⟩
      · have he := hnz hr
        have hq : (r == 0) = false := by rw [beq_eq_false_iff_ne]; exact hr
        have HR := Lib.hid hr
        clear hz hnz hs hr
        go_wp2
        go_ret
        exact ⟨_, rfl, fun e => absurd e HR.out, fun _ => he⟩
    · obtain rfl : k = 0 := by omega
      have HJ := Lib.hid hJ
      clear hJ
      go_wp2
      go_ret
      exact ⟨0, rfl, fun _ => HJ.out, fun e => absurd rfl e⟩

set_option maxRecDepth 100000 in
theorem all_open (g cap : Nat) (x y : Value) (w : World) (J : Nat → World → Prop) (E : Int → World → Prop)
    (c0 : ∀ W, J 0 W → W.cell? ⟨g, 0, none⟩ = some (.func (.func 32) #[] #[x, y]))
    (s0 : ∀ W, J 0 W → Calls Tryz.prog 32 #[x, y] W fun e W' => ∃ r, e = .returned (.int .i64 r) ∧ (r = 0 → J 1 W') ∧ (r ≠ 0 → E r W'))
    (c1 : ∀ W, J 1 W → W.cell? ⟨g, 1, none⟩ = some (.func (.func 34) #[] #[x, y]))
    (s1 : ∀ W, J 1 W → Calls Tryz.prog 34 #[x, y] W fun e W' => ∃ r, e = .returned (.int .i64 r) ∧ (r = 0 → J 2 W') ∧ (r ≠ 0 → E r W'))
    (c2 : ∀ W, J 2 W → W.cell? ⟨g, 2, none⟩ = some (.func (.func 36) #[] #[x, y]))
    (s2 : ∀ W, J 2 W → Calls Tryz.prog 36 #[x, y] W fun e W' => ∃ r, e = .returned (.int .i64 r) ∧ (r = 0 → J 3 W') ∧ (r ≠ 0 → E r W'))
    (h0 : J 0 w) :
    Calls Tryz.prog 31 #[.slice (some ⟨g, 0, none⟩) 3 cap] w fun e w' => ∃ r, e = .returned (.int .i64 r) ∧ (r = 0 → J 3 w') ∧ (r ≠ 0 → E r w') := by
  go_enter Tryz.func31, Tryz.ntmps31
  go_upto_region 2 with fail
  go_loopw [8] (fun i wr => ∃ k : Nat, k ≤ 3 ∧ i = .int .i64 k ∧ J k wr) (fun i _ => 3 - (intOf i).toNat)
  case atStart => exact ⟨0, by omega, rfl, h0⟩
  case round =>
    obtain ⟨k, hk, rfl, hJ⟩ := hrel
    rcases k with _ | _ | _ | k
    · have hc := c0 wr hJ
      have hs := s0 wr hJ
      go_upto_region 5 with (go_at_call 32; with_reducible refine hs.mono ?_; rintro e w1 ⟨r, rfl, hz, hnz⟩)
      by_cases hr : r = 0
      · have hj := hz hr
        subst hr
        clear hz hnz hs
        go_wp2
        exact ⟨⟨1, by omega, by go_num, hj⟩, by simp [intOf]⟩
      · have he := hnz hr
        have hq : (r == 0) = false := by rw [beq_eq_false_iff_ne]; exact hr
        have HR := Lib.hid hr
        clear hz hnz hs hr
        go_wp2
        go_ret
        exact ⟨_, rfl, fun e => absurd e HR.out, fun _ => he⟩
    · have hc := c1 wr hJ
      have hs := s1 wr hJ
      go_upto_region 5 with (go_at_call 34; with_reducible refine hs.mono ?_; rintro e w1 ⟨r, rfl, hz, hnz⟩)
      by_cases hr : r = 0
      · have hj := hz hr
        subst hr
        clear hz hnz hs
        go_wp2
        exact ⟨⟨2, by omega, by go_num, hj⟩, by simp [intOf]⟩
      · have he := hnz hr
        have hq : (r == 0) = false := by rw [beq_eq_false_iff_ne]; exact hr
        have HR := Lib.hid hr
        clear hz hnz hs hr
        go_wp2
        go_ret
        exact ⟨_, rfl, fun e => absurd e HR.out, fun _ => he⟩
    · have hc := c2 wr hJ
      have hs := s2 wr hJ
      go_upto_region 5 with (go_at_call 36; with_reducible refine hs.mono ?_; rintro e w1 ⟨r, rfl, hz, hnz⟩)
      by_cases hr : r = 0
      · have hj := hz hr
        subst hr
        clear hz hnz hs
        go_wp2
        exact ⟨⟨3, by omega, by go_num, hj⟩, by simp [intOf]⟩
      · have he := hnz hr
        have hq : (r == 0) = false := by rw [beq_eq_false_iff_ne]; exact hr
        have HR := Lib.hid hr
        clear hz hnz hs hr
        go_wp2
        go_ret
        exact ⟨_, rfl, fun e => absurd e HR.out, fun _ => he⟩
    · obtain rfl : k = 0 := by omega
      have HJ := Lib.hid hJ
      clear hJ
      go_wp2
      go_ret
      exact ⟨0, rfl, fun _ => HJ.out, fun e => absurd rfl e⟩

set_option maxRecDepth 100000 in
theorem all_add (g cap : Nat) (x y z : Value) (w : World) (J : Nat → World → Prop) (E : Int → World → Prop)
    (c0 : ∀ W, J 0 W → W.cell? ⟨g, 0, none⟩ = some (.func (.func 40) #[] #[x, y]))
    (s0 : ∀ W, J 0 W → Calls Tryz.prog 40 #[x, y] W fun e W' => ∃ r, e = .returned (.int .i64 r) ∧ (r = 0 → J 1 W') ∧ (r ≠ 0 → E r W'))
    (c1 : ∀ W, J 1 W → W.cell? ⟨g, 1, none⟩ = some (.func (.func 42) #[] #[x]))
    (s1 : ∀ W, J 1 W → Calls Tryz.prog 42 #[x] W fun e W' => ∃ r, e = .returned (.int .i64 r) ∧ (r = 0 → J 2 W') ∧ (r ≠ 0 → E r W'))
    (c2 : ∀ W, J 2 W → W.cell? ⟨g, 2, none⟩ = some (.func (.func 43) #[] #[x, z]))
    (s2 : ∀ W, J 2 W → Calls Tryz.prog 43 #[x, z] W fun e W' => ∃ r, e = .returned (.int .i64 r) ∧ (r = 0 → J 3 W') ∧ (r ≠ 0 → E r W'))
    (h0 : J 0 w) :
    Calls Tryz.prog 31 #[.slice (some ⟨g, 0, none⟩) 3 cap] w fun e w' => ∃ r, e = .returned (.int .i64 r) ∧ (r = 0 → J 3 w') ∧ (r ≠ 0 → E r w') := by
  go_enter Tryz.func31, Tryz.ntmps31
  go_upto_region 2 with fail
  go_loopw [8] (fun i wr => ∃ k : Nat, k ≤ 3 ∧ i = .int .i64 k ∧ J k wr) (fun i _ => 3 - (intOf i).toNat)
  case atStart => exact ⟨0, by omega, rfl, h0⟩
  case round =>
    obtain ⟨k, hk, rfl, hJ⟩ := hrel
    rcases k with _ | _ | _ | k
    · have hc := c0 wr hJ
      have hs := s0 wr hJ
      go_upto_region 5 with (go_at_call 40; with_reducible refine hs.mono ?_; rintro e w1 ⟨r, rfl, hz, hnz⟩)
      by_cases hr : r = 0
      · have hj := hz hr
        subst hr
        clear hz hnz hs
        go_wp2
        exact ⟨⟨1, by omega, by go_num, hj⟩, by simp [intOf]⟩
      · have he := hnz hr
        have hq : (r == 0) = false := by rw [beq_eq_false_iff_ne]; exact hr
        have HR := Lib.hid hr
        clear hz hnz hs hr
        go_wp2
        go_ret
        exact ⟨_, rfl, fun e => absurd e HR.out, fun _ => he⟩
    · have hc := c1 wr hJ
      have hs := s1 wr hJ
      go_upto_region 5 with (go_at_call 42; with_reducible refine hs.mono ?_; rintro e w1 ⟨r, rfl, hz, hnz⟩)
      by_cases hr : r = 0
      · have hj := hz hr
        subst hr
        clear hz hnz hs
        go_wp2
        exact ⟨⟨2, by omega, by go_num, hj⟩, by simp [intOf]⟩
      · have he := hnz hr
        have hq : (r == 0) = false := by rw [beq_eq_false_iff_ne]; exact hr
        have HR := Lib.hid hr
        clear hz hnz hs hr
        go_wp2
        go_ret
        exact ⟨_, rfl, fun e => absurd e HR.out, fun _ => he⟩
    · have hc := c2 wr hJ
      have hs := s2 wr hJ
      go_upto_region 5 with (go_at_call 43; with_reducible refine hs.mono ?_; rintro e w1 ⟨r, rfl, hz, hnz⟩)
      by_cases hr : r = 0
      · have hj := hz hr
        subst hr
        clear hz hnz hs
        go_wp2
        exact ⟨⟨3, by omega, by go_num, hj⟩, by simp [intOf]⟩
      · have he := hnz hr
        have hq : (r == 0) = false := by rw [beq_eq_false_iff_ne]; exact hr
        have HR := Lib.hid hr
        clear hz hnz hs hr
        go_wp2
        go_ret
        exact ⟨_, rfl, fun e => absurd e HR.out, fun _ => he⟩
    · obtain rfl : k = 0 := by omega
      have HJ := Lib.hid hJ
      clear hJ
      go_wp2
      go_ret
      exact ⟨0, rfl, fun _ => HJ.out, fun e => absurd rfl e⟩

set_option maxRecDepth 100000 in
theorem all_comp (g cap : Nat) (x y z u : Value) (w : World) (J : Nat → World → Prop) (E : Int → World → Prop)
    (c0 : ∀ W, J 0 W → W.cell? ⟨g, 0, none⟩ = some (.func (.func 48) #[] #[x, y]))
    (s0 : ∀ W, J 0 W → Calls Tryz.prog 48 #[x, y] W fun e W' => ∃ r, e = .returned (.int .i64 r) ∧ (r = 0 → J 1 W') ∧ (r ≠ 0 → E r W'))
    (c1 : ∀ W, J 1 W → W.cell? ⟨g, 1, none⟩ = some (.func (.func 49) #[] #[x, y, z]))
    (s1 : ∀ W, J 1 W → Calls Tryz.prog 49 #[x, y, z] W fun e W' => ∃ r, e = .returned (.int .i64 r) ∧ (r = 0 → J 2 W') ∧ (r ≠ 0 → E r W'))
    (c2 : ∀ W, J 2 W → W.cell? ⟨g, 2, none⟩ = some (.func (.func 50) #[] #[x, y]))
    (s2 : ∀ W, J 2 W → Calls Tryz.prog 50 #[x, y] W fun e W' => ∃ r, e = .returned (.int .i64 r) ∧ (r = 0 → J 3 W') ∧ (r ≠ 0 → E r W'))
    (c3 : ∀ W, J 3 W → W.cell? ⟨g, 3, none⟩ = some (.func (.func 51) #[] #[x]))
    (s3 : ∀ W, J 3 W → Calls Tryz.prog 51 #[x] W fun e W' => ∃ r, e = .returned (.int .i64 r) ∧ (r = 0 → J 4 W') ∧ (r ≠ 0 → E r W'))
    (c4 : ∀ W, J 4 W → W.cell? ⟨g, 4, none⟩ = some (.func (.func 53) #[] #[y, x, u]))
    (s4 : ∀ W, J 4 W → Calls Tryz.prog 53 #[y, x, u] W fun e W' => ∃ r, e = .returned (.int .i64 r) ∧ (r = 0 → J 5 W') ∧ (r ≠ 0 → E r W'))
    (h0 : J 0 w) :
    Calls Tryz.prog 31 #[.slice (some ⟨g, 0, none⟩) 5 cap] w fun e w' => ∃ r, e = .returned (.int .i64 r) ∧ (r = 0 → J 5 w') ∧ (r ≠ 0 → E r w') := by
  go_enter Tryz.func31, Tryz.ntmps31
  go_upto_region 2 with fail
  go_loopw [8] (fun i wr => ∃ k : Nat, k ≤ 5 ∧ i = .int .i64 k ∧ J k wr) (fun i _ => 5 - (intOf i).toNat)
  case atStart => exact ⟨0, by omega, rfl, h0⟩
  case round =>
    obtain ⟨k, hk, rfl, hJ⟩ := hrel
    rcases k with _ | _ | _ | _ | _ | k
    · have hc := c0 wr hJ
      have hs := s0 wr hJ
      go_upto_region 5 with (go_at_call 48; with_reducible refine hs.mono ?_; rintro e w1 ⟨r, rfl, hz, hnz⟩)
      by_cases hr : r = 0
      · have hj := hz hr
        subst hr
        clear hz hnz hs
        go_wp2
        exact ⟨⟨1, by omega, by go_num, hj⟩, by simp [intOf]⟩
      · have he := hnz hr
        have hq : (r == 0) = false := by rw [beq_eq_false_iff_ne]; exact hr
        have HR := Lib.hid hr
        clear hz hnz hs hr
        go_wp2
        go_ret
        exact ⟨_, rfl, fun e => absurd e HR.out, fun _ => he⟩
    · have hc := c1 wr hJ
      have hs := s1 wr hJ
      go_upto_region 5 with (go_at_call 49; with_reducible refine hs.mono ?_; rintro e w1 ⟨r, rfl, hz, hnz⟩)
      by_cases hr : r = 0
      · have hj := hz hr
        subst hr
        clear hz hnz hs
        go_wp2
        exact ⟨⟨2, by omega, by go_num, hj⟩, by simp [intOf]⟩
      · have he := hnz hr
        have hq : (r == 0) = false := by rw [beq_eq_false_iff_ne]; exact hr
        have HR := Lib.hid hr
        clear hz hnz hs hr
        go_wp2
        go_ret
        exact ⟨_, rfl, fun e => absurd e HR.out, fun _ => he⟩
    · have hc := c2 wr hJ
      have hs := s2 wr hJ
      go_upto_region 5 with (go_at_call 50; with_reducible refine hs.mono ?_; rintro e w1 ⟨r, rfl, hz, hnz⟩)
      by_cases hr : r = 0
      · have hj := hz hr
        subst hr
        clear hz hnz hs
        go_wp2
        exact ⟨⟨3, by omega, by go_num, hj⟩, by simp [intOf]⟩
      · have he := hnz hr
        have hq : (r == 0) = false := by rw [beq_eq_false_iff_ne]; exact hr
        have HR := Lib.hid hr
        clear hz hnz hs hr
        go_wp2
        go_ret
        exact ⟨_, rfl, fun e => absurd e HR.out, fun _ => he⟩
    · have hc := c3 wr hJ
      have hs := s3 wr hJ
      go_upto_region 5 with (go_at_call 51; with_reducible refine hs.mono ?_; rintro e w1 ⟨r, rfl, hz, hnz⟩)
      by_cases hr : r = 0
      · have hj := hz hr
        subst hr
        clear hz hnz hs
        go_wp2
        exact ⟨⟨4, by omega, by go_num, hj⟩, by simp [intOf]⟩
      · have he := hnz hr
        have hq : (r == 0) = false := by rw [beq_eq_false_iff_ne]; exact hr
        have HR := Lib.hid hr
        clear hz hnz hs hr
        go_wp2
        go_ret
        exact ⟨_, rfl, fun e => absurd e HR.out, fun _ => he⟩
    · have hc := c4 wr hJ
      have hs := s4 wr hJ
      go_upto_region 5 with (go_at_call 53; with_reducible refine hs.mono ?_; rintro e w1 ⟨r, rfl, hz, hnz⟩)
      by_cases hr : r = 0
      · have hj := hz hr
        subst hr
        clear hz hnz hs
        go_wp2
        exact ⟨⟨5, by omega, by go_num, hj⟩, by simp [intOf]⟩
      · have he := hnz hr
        have hq : (r == 0) = false := by rw [beq_eq_false_iff_ne]; exact hr
        have HR := Lib.hid hr
        clear hz hnz hs hr
        go_wp2
        go_ret
        exact ⟨_, rfl, fun e => absurd e HR.out, fun _ => he⟩
    · obtain rfl : k = 0 := by omega
      have HJ := Lib.hid hJ
      clear hJ
      go_wp2
      go_ret
      exact ⟨0, rfl, fun _ => HJ.out, fun e => absurd rfl e⟩

end Go.Proofs.YtfohemgfiidokaaGreatDoor
