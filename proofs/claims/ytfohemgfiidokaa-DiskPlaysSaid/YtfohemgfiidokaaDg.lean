/- (*Disk).goes: what a call of a file does, unless the power goes. -/
import Derived.Test.YtfohemgfiidokaaDf
namespace Go.Proofs.Ytfohemgfiidokaa
open Go.RowKit Go.Sort

set_option maxRecDepth 100000 in
theorem goes_35 {w : World} {ρ : Nat → Nat} {B D : Nat} {d : Dk} (h : DiskAt w ρ B D d) (x y : Value) (K : World → Prop) (lf : Int) (g1 : IntKind.i64.wrap (d.left - 1) = lf) (hb : (d.fused && d.left == 0) = false)
    (hk : Calls Try.prog 35 #[x, y] (w.setCell ⟨D, 7, none⟩ (.int .i64 lf)) fun e w' => e = .returned undef ∧ K w') :
    Calls Try.prog 34 #[.pointer (some ⟨D, 0, none⟩), .func (.func 35) #[] #[x, y]] w fun e w' => e = .returned (.int .i64 0) ∧ K w' := by
  have c6 := h.fused
  have c7 := h.left
  have z7 := h.fz 7
  generalize hf : d.fused = fu at c6 hb
  cases fu
  · go_enter Try.func34, Try.ntmps34
    go_wp2_with (go_at_call 35; with_reducible refine hk.mono ?_; rintro e w1 ⟨rfl, hK⟩)
    go_ret
    exact ⟨rfl, hK⟩
  · have hz : (d.left == 0) = false := by simpa using hb
    go_enter Try.func34, Try.ntmps34
    go_wp2_with (go_at_call 35; with_reducible refine hk.mono ?_; rintro e w1 ⟨rfl, hK⟩)
    go_ret
    exact ⟨rfl, hK⟩
set_option maxRecDepth 100000 in
theorem goes_burns_35 {w : World} {ρ : Nat → Nat} {B D : Nat} {d : Dk} (h : DiskAt w ρ B D d) (x y : Value) (hf : d.fused = true) (hl : d.left = 0) :
    Calls Try.prog 34 #[.pointer (some ⟨D, 0, none⟩), .func (.func 35) #[] #[x, y]] w fun e w' => e = .returned (.int .i64 8) ∧ w' = w.setCell ⟨D, 5, none⟩ (.bool true) := by
  have c5 := h.off
  have c6 := h.fused
  have c7 := h.left
  have z5 := h.fz 5
  rw [hf] at c6
  rw [hl] at c7
  clear hf hl
  go_enter Try.func34, Try.ntmps34
  go_wp2
  go_ret
  exact ⟨rfl, rfl⟩

set_option maxRecDepth 100000 in
theorem goes_37 {w : World} {ρ : Nat → Nat} {B D : Nat} {d : Dk} (h : DiskAt w ρ B D d) (x y z : Value) (K : World → Prop) (lf : Int) (g1 : IntKind.i64.wrap (d.left - 1) = lf) (hb : (d.fused && d.left == 0) = false)
    (hk : Calls Try.prog 37 #[x, y, z] (w.setCell ⟨D, 7, none⟩ (.int .i64 lf)) fun e w' => e = .returned undef ∧ K w') :
    Calls Try.prog 34 #[.pointer (some ⟨D, 0, none⟩), .func (.func 37) #[] #[x, y, z]] w fun e w' => e = .returned (.int .i64 0) ∧ K w' := by
  have c6 := h.fused
  have c7 := h.left
  have z7 := h.fz 7
  generalize hf : d.fused = fu at c6 hb
  cases fu
  · go_enter Try.func34, Try.ntmps34
    go_wp2_with (go_at_call 37; with_reducible refine hk.mono ?_; rintro e w1 ⟨rfl, hK⟩)
    go_ret
    exact ⟨rfl, hK⟩
  · have hz : (d.left == 0) = false := by simpa using hb
    go_enter Try.func34, Try.ntmps34
    go_wp2_with (go_at_call 37; with_reducible refine hk.mono ?_; rintro e w1 ⟨rfl, hK⟩)
    go_ret
    exact ⟨rfl, hK⟩
set_option maxRecDepth 100000 in
theorem goes_burns_37 {w : World} {ρ : Nat → Nat} {B D : Nat} {d : Dk} (h : DiskAt w ρ B D d) (x y z : Value) (hf : d.fused = true) (hl : d.left = 0) :
    Calls Try.prog 34 #[.pointer (some ⟨D, 0, none⟩), .func (.func 37) #[] #[x, y, z]] w fun e w' => e = .returned (.int .i64 8) ∧ w' = w.setCell ⟨D, 5, none⟩ (.bool true) := by
  have c5 := h.off
  have c6 := h.fused
  have c7 := h.left
  have z5 := h.fz 5
  rw [hf] at c6
  rw [hl] at c7
  clear hf hl
  go_enter Try.func34, Try.ntmps34
  go_wp2
  go_ret
  exact ⟨rfl, rfl⟩

set_option maxRecDepth 100000 in
theorem goes_39 {w : World} {ρ : Nat → Nat} {B D : Nat} {d : Dk} (h : DiskAt w ρ B D d) (x y z : Value) (K : World → Prop) (lf : Int) (g1 : IntKind.i64.wrap (d.left - 1) = lf) (hb : (d.fused && d.left == 0) = false)
    (hk : Calls Try.prog 39 #[x, y, z] (w.setCell ⟨D, 7, none⟩ (.int .i64 lf)) fun e w' => e = .returned undef ∧ K w') :
    Calls Try.prog 34 #[.pointer (some ⟨D, 0, none⟩), .func (.func 39) #[] #[x, y, z]] w fun e w' => e = .returned (.int .i64 0) ∧ K w' := by
  have c6 := h.fused
  have c7 := h.left
  have z7 := h.fz 7
  generalize hf : d.fused = fu at c6 hb
  cases fu
  · go_enter Try.func34, Try.ntmps34
    go_wp2_with (go_at_call 39; with_reducible refine hk.mono ?_; rintro e w1 ⟨rfl, hK⟩)
    go_ret
    exact ⟨rfl, hK⟩
  · have hz : (d.left == 0) = false := by simpa using hb
    go_enter Try.func34, Try.ntmps34
    go_wp2_with (go_at_call 39; with_reducible refine hk.mono ?_; rintro e w1 ⟨rfl, hK⟩)
    go_ret
    exact ⟨rfl, hK⟩
set_option maxRecDepth 100000 in
theorem goes_burns_39 {w : World} {ρ : Nat → Nat} {B D : Nat} {d : Dk} (h : DiskAt w ρ B D d) (x y z : Value) (hf : d.fused = true) (hl : d.left = 0) :
    Calls Try.prog 34 #[.pointer (some ⟨D, 0, none⟩), .func (.func 39) #[] #[x, y, z]] w fun e w' => e = .returned (.int .i64 8) ∧ w' = w.setCell ⟨D, 5, none⟩ (.bool true) := by
  have c5 := h.off
  have c6 := h.fused
  have c7 := h.left
  have z5 := h.fz 5
  rw [hf] at c6
  rw [hl] at c7
  clear hf hl
  go_enter Try.func34, Try.ntmps34
  go_wp2
  go_ret
  exact ⟨rfl, rfl⟩
end Go.Proofs.Ytfohemgfiidokaa
