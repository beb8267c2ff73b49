/- (*Disk).Cut, from its closure's contract. -/
import Derived.Test.YtfohemgfiidokaaDm
import Derived.Deep.RegionHeld3
import Derived.Deep.Cut
import Derived.Deep.QuietTactic
import Derived.BigQuiet
namespace Go.Proofs.Ytfohemgfiidokaa
open Go.RowKit Go.Sort

theorem below_drewN (w : World) (n : Nat) : Below w.heap.size w (w.drewN n) := ⟨rfl, rfl, rfl, Nat.le_refl _, fun _ _ => rfl⟩

set_option maxRecDepth 100000 in
theorem cut_no {w : World} {ρ : Nat → Nat} {B D : Nat} {d : Dk} (h : DiskAt w ρ B D d) (f : Int) (n : Int) (hm : mayv d.off f ≠ 0) :
    Calls Try.prog 23 #[.pointer (some ⟨D, 0, none⟩), .int .i64 f, .int .i64 n] w fun e w' => e = .returned (.int .i64 (mayv d.off f)) ∧ Below w.heap.size w w' := by
  generalize hz : mayv d.off f = z at hm ⊢
  have HZ := Lib.hid hz
  clear hz
  go_enter Try.func23, Try.ntmps23
  go_upto_region 1 with fail
  refine wp_gen (fun W => Below w.heap.size w W ∧ W.cell? ⟨w.heap.size, 0, none⟩ = some (.pointer (some ⟨D, 0, none⟩)) ∧ W.cell? ⟨w.heap.size + 1, 0, none⟩ = some (.int .i64 f) ∧ W.cell? ⟨w.heap.size + 1 + 1, 0, none⟩ = some (.int .i64 n)) ⟨bel_alloc (bel_alloc (bel_alloc (Below.refl _ _) _) _) _, by simp [go_sem], by simp [go_sem], by simp [go_sem]⟩ ?_
  rintro W ⟨hbW, cd, cf, cn⟩
  have hd := h.keep hbW
  have km := may_c D d.off f W hd.off
  rw [HZ.out] at km
  go_wp2_with (go_at_call 33; with_reducible refine km.mono ?_; rintro e w1 ⟨rfl, rfl⟩)
  go_ret
  exact ⟨rfl, hbW⟩
set_option maxRecDepth 100000 in
set_option maxHeartbeats 1600000 in
theorem cut_w {w : World} {ρ : Nat → Nat} {B D : Nat} {d : Dk} (h : DiskAt w ρ B D d) (f : Nat) (hf : f < 2) (n : Int) (hn : 0 ≤ n) (hs : Small (d.file f)) (hns : n ≤ (d.file f).stands.length) (hoff : d.off = false) (r : Int) (K : World → Prop)
    (kc : ∀ W : World, Below w.heap.size w W → W.cell? ⟨w.heap.size, 0, none⟩ = some (.pointer (some ⟨D, 0, none⟩)) → W.cell? ⟨w.heap.size + 1, 0, none⟩ = some (.int .i64 f) → W.cell? ⟨w.heap.size + 1 + 1, 0, none⟩ = some (.int .i64 n) →
      Calls Try.prog 34 #[.pointer (some ⟨D, 0, none⟩), .func (.func 39) #[] #[.pointer (some ⟨w.heap.size, 0, none⟩), .pointer (some ⟨w.heap.size + 1, 0, none⟩), .pointer (some ⟨w.heap.size + 1 + 1, 0, none⟩)]] W fun e w' => e = .returned (.int .i64 r) ∧ K w') :
    Calls Try.prog 23 #[.pointer (some ⟨D, 0, none⟩), .int .i64 f, .int .i64 n] w fun e w' => e = .returned (.int .i64 r) ∧ K w' := by
  have hlt := h.lt
  have hB := h.base
  have hmf : ∀ (fn : Fn) (first cap : Array Value) (w : World), (Instr.makeFunc fn first cap).run Try.prog w = .ok (.func fn first cap) w := fun _ _ _ _ => rfl
  go_enter Try.func23, Try.ntmps23
  go_upto_region 1 with fail
  refine wp_gen (fun W => Below w.heap.size w W ∧ W.cell? ⟨w.heap.size, 0, none⟩ = some (.pointer (some ⟨D, 0, none⟩)) ∧ W.cell? ⟨w.heap.size + 1, 0, none⟩ = some (.int .i64 f) ∧ W.cell? ⟨w.heap.size + 1 + 1, 0, none⟩ = some (.int .i64 n)) ⟨bel_alloc (bel_alloc (bel_alloc (Below.refl _ _) _) _) _, by simp [go_sem], by simp [go_sem], by simp [go_sem]⟩ ?_
  rintro W ⟨hbW, cd, cf, cn⟩
  have hd := h.keep hbW
  have km := may_c D d.off f W hd.off
  rw [hoff, show mayv false f = 0 by unfold mayv; rw [if_neg (by simp), if_neg (by omega)]] at km
  have f0 : (0 : Int) ≤ f := by omega
  have f1 : (f : Int) < 2 := by omega
  have n0 : decide (n < 0) = false := decide_eq_false (by omega)
  have hdd : DiskAt W.drew ρ B D d := hd.keep ((Below.refl _ _).drew)
  have ks := stands_at (hdd.file f hf) hs
  rw [Nat.mul_comm 2 f] at ks
  have hns' : ¬ (((d.file f).stands.length : Nat) : Int) < n := by omega
  have hKK : ∀ w2, Below W.heap.size W w2 → Calls Try.prog 34 #[.pointer (some ⟨D, 0, none⟩), .func (.func 39) #[] #[.pointer (some ⟨w.heap.size, 0, none⟩), .pointer (some ⟨w.heap.size + 1, 0, none⟩), .pointer (some ⟨w.heap.size + 1 + 1, 0, none⟩)]] w2 fun e w' => e = .returned (.int .i64 r) ∧ K w' := fun w2 hb2 =>
    kc w2 (bel_call hbW hb2) ((hb2.cell (block_lt_of_cell cd)).trans cd) ((hb2.cell (block_lt_of_cell cf)).trans cf) ((hb2.cell (block_lt_of_cell cn)).trans cn)
  have HKK := Lib.hid hKK
  clear hKK kc
  go_upto_region 4 with (go_at_call 33; with_reducible refine km.mono ?_; rintro e w1 ⟨rfl, hw1⟩; subst hw1)
  go_region_held3 (fun w' => w'.cell? ⟨w.heap.size, 0, none⟩ = some (.pointer (some ⟨D, 0, none⟩)) ∧ w'.cell? ⟨w.heap.size + 1, 0, none⟩ = some (.int .i64 f) ∧ w'.cell? ⟨w.heap.size + 1 + 1, 0, none⟩ = some (.int .i64 n))
    (first | exact ⟨cd, cf, cn⟩ | exact ⟨e1, e2, e3⟩)
    (first | (go_at_call 31; with_reducible refine ks.mono ?_; rintro e w2 ⟨v', rfl, hr, hb2⟩; obtain ⟨p, cap, rfl⟩ := hr.shape; have hb3 := bel_call ((Below.refl _ _).drew) hb2; have e1 := (hb3.cell (block_lt_of_cell cd)).trans cd; have e2 := (hb3.cell (block_lt_of_cell cf)).trans cf; have e3 := (hb3.cell (block_lt_of_cell cn)).trans cn; have kk := HKK.out _ hb3) | fail)
  all_goals (go_wp2_with (go_at_call 34; with_reducible refine kk.mono ?_; rintro e w3 ⟨rfl, hK⟩))
  all_goals go_ret
  all_goals exact ⟨rfl, hK⟩
set_option maxRecDepth 100000 in
set_option maxHeartbeats 1600000 in
theorem cut_arg {w : World} {ρ : Nat → Nat} {B D : Nat} {d : Dk} (h : DiskAt w ρ B D d) (f : Nat) (hf : f < 2) (n : Int) (hs : Small (d.file f)) (hn : 0 ≤ n) (hns : (d.file f).stands.length < n) (hoff : d.off = false) :
    Calls Try.prog 23 #[.pointer (some ⟨D, 0, none⟩), .int .i64 f, .int .i64 n] w fun e w' => e = .returned (.int .i64 1) ∧ Below w.heap.size w w' := by
  have hlt := h.lt
  have hB := h.base
  have hmf : ∀ (fn : Fn) (first cap : Array Value) (w : World), (Instr.makeFunc fn first cap).run Try.prog w = .ok (.func fn first cap) w := fun _ _ _ _ => rfl
  go_enter Try.func23, Try.ntmps23
  go_upto_region 1 with fail
  refine wp_gen (fun W => Below w.heap.size w W ∧ W.cell? ⟨w.heap.size, 0, none⟩ = some (.pointer (some ⟨D, 0, none⟩)) ∧ W.cell? ⟨w.heap.size + 1, 0, none⟩ = some (.int .i64 f) ∧ W.cell? ⟨w.heap.size + 1 + 1, 0, none⟩ = some (.int .i64 n)) ⟨bel_alloc (bel_alloc (bel_alloc (Below.refl _ _) _) _) _, by simp [go_sem], by simp [go_sem], by simp [go_sem]⟩ ?_
  rintro W ⟨hbW, cd, cf, cn⟩
  have hd := h.keep hbW
  have km := may_c D d.off f W hd.off
  rw [hoff, show mayv false f = 0 by unfold mayv; rw [if_neg (by simp), if_neg (by omega)]] at km
  have f0 : (0 : Int) ≤ f := by omega
  have f1 : (f : Int) < 2 := by omega
  have n0 : decide (n < 0) = false := decide_eq_false (by omega)
  have hdd : DiskAt W.drew ρ B D d := hd.keep ((Below.refl _ _).drew)
  have ks := stands_at (hdd.file f hf) hs
  rw [Nat.mul_comm 2 f] at ks
  have hns' : (((d.file f).stands.length : Nat) : Int) < n := by omega
  go_upto_region 4 with (go_at_call 33; with_reducible refine km.mono ?_; rintro e w1 ⟨rfl, hw1⟩; subst hw1)
  go_region_held3 (fun w' => w'.cell? ⟨w.heap.size, 0, none⟩ = some (.pointer (some ⟨D, 0, none⟩)) ∧ w'.cell? ⟨w.heap.size + 1, 0, none⟩ = some (.int .i64 f) ∧ w'.cell? ⟨w.heap.size + 1 + 1, 0, none⟩ = some (.int .i64 n))
    (first | exact ⟨cd, cf, cn⟩ | exact ⟨e1, e2, e3⟩)
    (first | (go_at_call 31; with_reducible refine ks.mono ?_; rintro e w2 ⟨v', rfl, hr, hb2⟩; obtain ⟨p, cap, rfl⟩ := hr.shape; have hb3 := bel_call ((Below.refl _ _).drew) hb2; have e1 := (hb3.cell (block_lt_of_cell cd)).trans cd; have e2 := (hb3.cell (block_lt_of_cell cf)).trans cf; have e3 := (hb3.cell (block_lt_of_cell cn)).trans cn) | fail)
  all_goals (go_wp2_with fail)
  all_goals go_ret
  all_goals exact ⟨rfl, bel_call hbW hb3⟩
set_option maxRecDepth 100000 in
set_option maxHeartbeats 1600000 in
theorem cut_neg {w : World} {ρ : Nat → Nat} {B D : Nat} {d : Dk} (h : DiskAt w ρ B D d) (f : Nat) (hf : f < 2) (n : Int) (hn : n < 0) (hoff : d.off = false) :
    Calls Try.prog 23 #[.pointer (some ⟨D, 0, none⟩), .int .i64 f, .int .i64 n] w fun e w' => e = .returned (.int .i64 1) ∧ Below w.heap.size w w' := by
  have hlt := h.lt
  have hB := h.base
  have hmf : ∀ (fn : Fn) (first cap : Array Value) (w : World), (Instr.makeFunc fn first cap).run Try.prog w = .ok (.func fn first cap) w := fun _ _ _ _ => rfl
  go_enter Try.func23, Try.ntmps23
  go_upto_region 1 with fail
  refine wp_gen (fun W => Below w.heap.size w W ∧ W.cell? ⟨w.heap.size, 0, none⟩ = some (.pointer (some ⟨D, 0, none⟩)) ∧ W.cell? ⟨w.heap.size + 1, 0, none⟩ = some (.int .i64 f) ∧ W.cell? ⟨w.heap.size + 1 + 1, 0, none⟩ = some (.int .i64 n)) ⟨bel_alloc (bel_alloc (bel_alloc (Below.refl _ _) _) _) _, by simp [go_sem], by simp [go_sem], by simp [go_sem]⟩ ?_
  rintro W ⟨hbW, cd, cf, cn⟩
  have hd := h.keep hbW
  have km := may_c D d.off f W hd.off
  rw [hoff, show mayv false f = 0 by unfold mayv; rw [if_neg (by simp), if_neg (by omega)]] at km
  have f0 : (0 : Int) ≤ f := by omega
  have f1 : (f : Int) < 2 := by omega
  have n0 : decide (n < 0) = true := decide_eq_true hn
  go_upto_region 4 with (go_at_call 33; with_reducible refine km.mono ?_; rintro e w1 ⟨rfl, hw1⟩; subst hw1)
  go_quiet (fail)
  all_goals (go_wp2_with fail)
  all_goals go_ret
  all_goals exact ⟨rfl, bel_call hbW (below_drewN _ _)⟩
end Go.Proofs.Ytfohemgfiidokaa
