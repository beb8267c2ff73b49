/- (*Disk).Sync where the power goes, or where it may not be; On of a disk that is on. -/
import Derived.Test.YtfohemgfiidokaaDl
namespace Go.Proofs.Ytfohemgfiidokaa
open Go.RowKit Go.Sort

set_option maxRecDepth 100000 in
theorem sync_burn {w : World} {ρ : Nat → Nat} {B D : Nat} {d : Dk} (h : DiskAt w ρ B D d) (f : Nat) (hf : f < 2) (hoff : d.off = false) (hfu : d.fused = true) (hl : d.left = 0) :
    Calls Try.prog 15 #[.pointer (some ⟨D, 0, none⟩), .int .i64 f] w fun e w' => e = .returned (.int .i64 8) ∧ DiskAt w' ρ B D { d with off := true } ∧ Mv ρ ρ w w' := by
  have hlt := h.lt
  have hB := h.base
  have hmf : ∀ (fn : Fn) (first cap : Array Value) (w : World), (Instr.makeFunc fn first cap).run Try.prog w = .ok (.func fn first cap) w := fun _ _ _ _ => rfl
  generalize hW : (w.alloc (.cells #[.pointer (some ⟨D, 0, none⟩)] 25)).alloc (.cells #[.int .i64 f] 3) = W
  have hbW : Below w.heap.size w W := by rw [← hW]; exact bel_alloc (bel_alloc (Below.refl _ _) _) _
  have cd : W.cell? ⟨w.heap.size, 0, none⟩ = some (.pointer (some ⟨D, 0, none⟩)) := by rw [← hW]; simp [go_sem]
  have cf : W.cell? ⟨w.heap.size + 1, 0, none⟩ = some (.int .i64 f) := by rw [← hW]; simp [go_sem]
  have hd := h.keep hbW
  have km := may_c D d.off f W hd.off
  rw [hoff, show mayv false f = 0 by unfold mayv; rw [if_neg (by simp), if_neg (by omega)]] at km
  have kg := goes_burns_35 hd (.pointer (some ⟨w.heap.size, 0, none⟩)) (.pointer (some ⟨w.heap.size + 1, 0, none⟩)) hfu hl
  have hd2 := hd.setOff true
  clear hoff hfu hl
  go_enter Try.func15, Try.ntmps15
  go_wp2_with (first | (go_at_call 33; with_reducible refine km.mono ?_; rintro e w1 ⟨rfl, rfl⟩) | (go_at_call 34; with_reducible refine kg.mono ?_; rintro e w2 ⟨rfl, rfl⟩))
  go_ret
  exact ⟨rfl, hd2, (Mv.ofBelow ρ hbW).set h.role 5 _⟩
set_option maxRecDepth 100000 in
theorem sync_no {w : World} {ρ : Nat → Nat} {B D : Nat} {d : Dk} (h : DiskAt w ρ B D d) (f : Int) (hm : mayv d.off f ≠ 0) :
    Calls Try.prog 15 #[.pointer (some ⟨D, 0, none⟩), .int .i64 f] w fun e w' => e = .returned (.int .i64 (mayv d.off f)) ∧ Below w.heap.size w w' := by
  generalize hW : (w.alloc (.cells #[.pointer (some ⟨D, 0, none⟩)] 25)).alloc (.cells #[.int .i64 f] 3) = W
  have hbW : Below w.heap.size w W := by rw [← hW]; exact bel_alloc (bel_alloc (Below.refl _ _) _) _
  have cd : W.cell? ⟨w.heap.size, 0, none⟩ = some (.pointer (some ⟨D, 0, none⟩)) := by rw [← hW]; simp [go_sem]
  have cf : W.cell? ⟨w.heap.size + 1, 0, none⟩ = some (.int .i64 f) := by rw [← hW]; simp [go_sem]
  have hd := h.keep hbW
  have km := may_c D d.off f W hd.off
  generalize mayv d.off f = z at km hm
  go_enter Try.func15, Try.ntmps15
  go_wp2_with (first | (go_at_call 33; with_reducible refine km.mono ?_; rintro e w1 ⟨rfl, rfl⟩))
  go_ret
  exact ⟨rfl, hbW⟩
theorem on_no {w : World} {ρ : Nat → Nat} {B D : Nat} {d : Dk} (h : DiskAt w ρ B D d) (v : Value) (hoff : d.off = false) :
    Calls Try.prog 18 #[.pointer (some ⟨D, 0, none⟩), v] w fun e w' => e = .returned (.int .i64 3) ∧ w' = w := by
  have c5 : w.cell? ⟨D, 5, none⟩ = some (.bool false) := by rw [← hoff]; exact h.off
  clear hoff
  go_enter Try.func18, Try.ntmps18
  go_wp2
  go_ret
  exact ⟨rfl, rfl⟩
end Go.Proofs.Ytfohemgfiidokaa
