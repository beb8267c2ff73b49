/- (*Disk).Write, from its closure's contract. -/
import Derived.Test.YtfohemgfiidokaaDm
import Derived.Deep.RegionHeld3
import Derived.Deep.Cut
import Derived.Deep.QuietTactic
import Derived.BigQuiet
namespace Go.Proofs.Ytfohemgfiidokaa
open Go.RowKit Go.Sort

set_option maxRecDepth 100000 in
theorem write_no {w : World} {ρ : Nat → Nat} {B D : Nat} {d : Dk} (h : DiskAt w ρ B D d) (f : Int) (p : Option Addr) (len cap : Nat) (hm : mayv d.off f ≠ 0) :
    Calls Try.prog 16 #[.pointer (some ⟨D, 0, none⟩), .int .i64 f, .slice p len cap] w fun e w' => e = .returned (.int .i64 (mayv d.off f)) ∧ Below w.heap.size w w' := by
  generalize hz : mayv d.off f = z at hm ⊢
  have HZ := Lib.hid hz
  clear hz
  go_enter Try.func16, Try.ntmps16
  go_upto_region 1 with fail
  refine wp_gen (fun W => Below w.heap.size w W ∧ W.cell? ⟨w.heap.size, 0, none⟩ = some (.pointer (some ⟨D, 0, none⟩)) ∧ W.cell? ⟨w.heap.size + 1, 0, none⟩ = some (.int .i64 f) ∧ W.cell? ⟨w.heap.size + 1 + 1, 0, none⟩ = some (.slice p len cap)) ⟨bel_alloc (bel_alloc (bel_alloc (Below.refl _ _) _) _) _, by simp [go_sem], by simp [go_sem], by simp [go_sem]⟩ ?_
  rintro W ⟨hbW, cd, cf, cn⟩
  have hd := h.keep hbW
  have km := may_c D d.off f W hd.off
  rw [HZ.out] at km
  go_wp2_with (go_at_call 33; with_reducible refine km.mono ?_; rintro e w1 ⟨rfl, rfl⟩)
  go_ret
  exact ⟨rfl, hbW⟩
set_option maxRecDepth 100000 in
set_option maxHeartbeats 1600000 in
theorem write_w {w : World} {ρ : Nat → Nat} {B D : Nat} {d : Dk} (h : DiskAt w ρ B D d) (f : Nat) (hf : f < 2) (p : Option Addr) (len cap : Nat) (h0 : Small d.f0) (h1 : Small d.f1) (hm0 : 0 ≤ d.most) (hm1 : d.most ≤ 4194304) (hroom : (len : Int) ≤ roomF d) (hoff : d.off = false) (r : Int) (K : World → Prop)
    (kc : ∀ W : World, Below w.heap.size w W → W.cell? ⟨w.heap.size, 0, none⟩ = some (.pointer (some ⟨D, 0, none⟩)) → W.cell? ⟨w.heap.size + 1, 0, none⟩ = some (.int .i64 f) → W.cell? ⟨w.heap.size + 1 + 1, 0, none⟩ = some (.slice p len cap) →
      Calls Try.prog 34 #[.pointer (some ⟨D, 0, none⟩), .func (.func 37) #[] #[.pointer (some ⟨w.heap.size, 0, none⟩), .pointer (some ⟨w.heap.size + 1, 0, none⟩), .pointer (some ⟨w.heap.size + 1 + 1, 0, none⟩)]] W fun e w' => e = .returned (.int .i64 r) ∧ K w') :
    Calls Try.prog 16 #[.pointer (some ⟨D, 0, none⟩), .int .i64 f, .slice p len cap] w fun e w' => e = .returned (.int .i64 r) ∧ K w' := by
  have hlt := h.lt
  have hB := h.base
  have hmf : ∀ (fn : Fn) (first cap : Array Value) (w : World), (Instr.makeFunc fn first cap).run Try.prog w = .ok (.func fn first cap) w := fun _ _ _ _ => rfl
  go_enter Try.func16, Try.ntmps16
  go_upto_region 1 with fail
  refine wp_gen (fun W => Below w.heap.size w W ∧ W.cell? ⟨w.heap.size, 0, none⟩ = some (.pointer (some ⟨D, 0, none⟩)) ∧ W.cell? ⟨w.heap.size + 1, 0, none⟩ = some (.int .i64 f) ∧ W.cell? ⟨w.heap.size + 1 + 1, 0, none⟩ = some (.slice p len cap)) ⟨bel_alloc (bel_alloc (bel_alloc (Below.refl _ _) _) _) _, by simp [go_sem], by simp [go_sem], by simp [go_sem]⟩ ?_
  rintro W ⟨hbW, cd, cf, cn⟩
  have hd := h.keep hbW
  have km := may_c D d.off f W hd.off
  rw [hoff, show mayv false f = 0 by unfold mayv; rw [if_neg (by simp), if_neg (by omega)]] at km
  have f0 : (0 : Int) ≤ f := by omega
  have f1 : (f : Int) < 2 := by omega
  have hdd : DiskAt W.drew ρ B D d := hd.keep ((Below.refl _ _).drew)
  have ks := room_at hdd h0 h1 hm0 hm1
  have hns' : ¬ roomF d < (len : Int) := by omega
  generalize roomF d = rm at ks hns'
  have hKK : ∀ w2, Below W.heap.size W w2 → Calls Try.prog 34 #[.pointer (some ⟨D, 0, none⟩), .func (.func 37) #[] #[.pointer (some ⟨w.heap.size, 0, none⟩), .pointer (some ⟨w.heap.size + 1, 0, none⟩), .pointer (some ⟨w.heap.size + 1 + 1, 0, none⟩)]] w2 fun e w' => e = .returned (.int .i64 r) ∧ K w' := fun w2 hb2 =>
    kc w2 (bel_call hbW hb2) ((hb2.cell (block_lt_of_cell cd)).trans cd) ((hb2.cell (block_lt_of_cell cf)).trans cf) ((hb2.cell (block_lt_of_cell cn)).trans cn)
  have HKK := Lib.hid hKK
  clear hKK kc
  go_upto_region 4 with (go_at_call 33; with_reducible refine km.mono ?_; rintro e w1 ⟨rfl, hw1⟩; subst hw1)
  go_region_held3 (fun w' => w'.cell? ⟨w.heap.size, 0, none⟩ = some (.pointer (some ⟨D, 0, none⟩)) ∧ w'.cell? ⟨w.heap.size + 1, 0, none⟩ = some (.int .i64 f) ∧ w'.cell? ⟨w.heap.size + 1 + 1, 0, none⟩ = some (.slice p len cap))
    (first | exact ⟨cd, cf, cn⟩ | exact ⟨e1, e2, e3⟩)
    (first | (go_at_call 13; with_reducible refine ks.mono ?_; rintro e w2 ⟨rfl, hb2⟩; have hb3 := bel_call ((Below.refl _ _).drew) hb2; have e1 := (hb3.cell (block_lt_of_cell cd)).trans cd; have e2 := (hb3.cell (block_lt_of_cell cf)).trans cf; have e3 := (hb3.cell (block_lt_of_cell cn)).trans cn; have kk := HKK.out _ hb3) | fail)
  all_goals (go_wp2_with (go_at_call 34; with_reducible refine kk.mono ?_; rintro e w3 ⟨rfl, hK⟩))
  all_goals go_ret
  all_goals exact ⟨rfl, hK⟩
set_option maxRecDepth 100000 in
set_option maxHeartbeats 1600000 in
theorem write_full {w : World} {ρ : Nat → Nat} {B D : Nat} {d : Dk} (h : DiskAt w ρ B D d) (f : Nat) (hf : f < 2) (p : Option Addr) (len cap : Nat) (h0 : Small d.f0) (h1 : Small d.f1) (hm0 : 0 ≤ d.most) (hm1 : d.most ≤ 4194304) (hroom : roomF d < (len : Int)) (hoff : d.off = false) :
    Calls Try.prog 16 #[.pointer (some ⟨D, 0, none⟩), .int .i64 f, .slice p len cap] w fun e w' => e = .returned (.int .i64 7) ∧ Below w.heap.size w w' := by
  have hlt := h.lt
  have hB := h.base
  have hmf : ∀ (fn : Fn) (first cap : Array Value) (w : World), (Instr.makeFunc fn first cap).run Try.prog w = .ok (.func fn first cap) w := fun _ _ _ _ => rfl
  go_enter Try.func16, Try.ntmps16
  go_upto_region 1 with fail
  refine wp_gen (fun W => Below w.heap.size w W ∧ W.cell? ⟨w.heap.size, 0, none⟩ = some (.pointer (some ⟨D, 0, none⟩)) ∧ W.cell? ⟨w.heap.size + 1, 0, none⟩ = some (.int .i64 f) ∧ W.cell? ⟨w.heap.size + 1 + 1, 0, none⟩ = some (.slice p len cap)) ⟨bel_alloc (bel_alloc (bel_alloc (Below.refl _ _) _) _) _, by simp [go_sem], by simp [go_sem], by simp [go_sem]⟩ ?_
  rintro W ⟨hbW, cd, cf, cn⟩
  have hd := h.keep hbW
  have km := may_c D d.off f W hd.off
  rw [hoff, show mayv false f = 0 by unfold mayv; rw [if_neg (by simp), if_neg (by omega)]] at km
  have f0 : (0 : Int) ≤ f := by omega
  have f1 : (f : Int) < 2 := by omega
  have hdd : DiskAt W.drew ρ B D d := hd.keep ((Below.refl _ _).drew)
  have ks := room_at hdd h0 h1 hm0 hm1
  have hns' : roomF d < (len : Int) := by omega
  generalize roomF d = rm at ks hns'
  go_upto_region 4 with (go_at_call 33; with_reducible refine km.mono ?_; rintro e w1 ⟨rfl, hw1⟩; subst hw1)
  go_region_held3 (fun w' => w'.cell? ⟨w.heap.size, 0, none⟩ = some (.pointer (some ⟨D, 0, none⟩)) ∧ w'.cell? ⟨w.heap.size + 1, 0, none⟩ = some (.int .i64 f) ∧ w'.cell? ⟨w.heap.size + 1 + 1, 0, none⟩ = some (.slice p len cap))
    (first | exact ⟨cd, cf, cn⟩ | exact ⟨e1, e2, e3⟩)
    (first | (go_at_call 13; with_reducible refine ks.mono ?_; rintro e w2 ⟨rfl, hb2⟩; have hb3 := bel_call ((Below.refl _ _).drew) hb2; have e1 := (hb3.cell (block_lt_of_cell cd)).trans cd; have e2 := (hb3.cell (block_lt_of_cell cf)).trans cf; have e3 := (hb3.cell (block_lt_of_cell cn)).trans cn) | fail)
  all_goals (go_wp2_with fail)
  all_goals go_ret
  all_goals exact ⟨rfl, bel_call hbW hb3⟩
end Go.Proofs.Ytfohemgfiidokaa
