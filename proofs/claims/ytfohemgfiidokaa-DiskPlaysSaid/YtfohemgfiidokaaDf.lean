/- (*Disk).Read, Room, Off, Fuse, New of a disk in memory. -/
import Derived.Test.YtfohemgfiidokaaDe
namespace Go.Proofs.Ytfohemgfiidokaa
open Go.RowKit Go.Sort

/-- what no file is greater than -/
def Small (F : Fil) : Prop := F.s.length + sizes F.l ≤ 500000000 ∧ F.l.length ≤ 1000000000
def Fil.stands (F : Fil) : List Int := standsF F.s F.l
theorem done_len (c : Chg) (b : List Int) (u : Int) : (c.done b u).length ≤ b.length + c.size := by
  cases c with
  | wr c => simp only [Chg.done, Chg.size, List.length_append, List.length_take]; omega
  | ct k => simp only [Chg.done, Chg.size, List.length_take]; omega
theorem kept_len : ∀ (l : List Chg) (b : List Int) (u : Int), (keptF b u l).length ≤ b.length + sizes l
  | [], b, u => by simp [keptF, sizes]
  | c :: t, b, u => by
    simp only [keptF, sizes]
    split
    · omega
    · have h1 := kept_len t (c.done b u) (u - c.units)
      have h2 := done_len c b u
      omega
theorem stands_at {w : World} {ρ : Nat → Nat} {B D f : Nat} {F : Fil} (h : FilAt w ρ B D f F) (hs : Small F) :
    Calls Try.prog 31 #[.pointer (some ⟨D, 2 * f, none⟩)] w fun e w' => ∃ v', e = .returned v' ∧ RowO w' w.heap.size v' F.stands ∧ Below w.heap.size w w' := by
  obtain ⟨sv, lv, h1, h2, h3, h4⟩ := h
  exact stands_c D (2 * f) sv lv F.s F.l w h1 h2 h3.rdb h4.at (by have := hs.1; omega) hs.2

def roomF (d : Dk) : Int := max 0 (d.most - d.f0.stands.length - d.f1.stands.length)
theorem room_at {w : World} {ρ : Nat → Nat} {B D : Nat} {d : Dk} (h : DiskAt w ρ B D d) (h0 : Small d.f0) (h1 : Small d.f1) (hm0 : 0 ≤ d.most) (hm1 : d.most ≤ 4194304) :
    Calls Try.prog 13 #[.pointer (some ⟨D, 0, none⟩)] w fun e w' => e = .returned (.int .i64 (roomF d)) ∧ Below w.heap.size w w' := by
  have l0 := kept_len d.f0.l d.f0.s 9223372036854775807
  have l1 := kept_len d.f1.l d.f1.s 9223372036854775807
  refine room_c D d.f0.stands.length d.f1.stands.length d.most w h.most hm0 hm1 (by have := h0.1; unfold Fil.stands standsF; omega) (by have := h1.1; unfold Fil.stands standsF; omega) (fun W hW => ?_) (fun W hW => ?_)
  · refine (stands_at (h.keep hW).f0 h0).mono fun e w' ⟨v', he, hr, hb⟩ => ?_
    obtain ⟨p, cap, hv⟩ := hr.shape
    exact ⟨p, cap, by rw [he, hv], hb⟩
  · refine (stands_at (h.keep hW).f1 h1).mono fun e w' ⟨v', he, hr, hb⟩ => ?_
    obtain ⟨p, cap, hv⟩ := hr.shape
    exact ⟨p, cap, by rw [he, hv], hb⟩

set_option maxRecDepth 100000 in
theorem read_at {w : World} {ρ : Nat → Nat} {B D : Nat} {d : Dk} (h : DiskAt w ρ B D d) (f : Nat) (F : Fil) (hF : FilAt w ρ B D f F) (hf : f < 2) (hs : Small F) (hoff : d.off = false) :
    Calls Try.prog 21 #[.pointer (some ⟨D, 0, none⟩), .int .i64 f] w fun e w' => ∃ v', e = .returned (.tuple #[v', .int .i64 0]) ∧ RowO w' w.heap.size v' F.stands ∧ Below w.heap.size w w' := by
  have km := may_c D d.off f w h.off
  rw [hoff, show mayv false f = 0 by unfold mayv; rw [if_neg (by simp), if_neg (by omega)]] at km
  have ks := stands_at hF hs
  rw [Nat.mul_comm 2 f] at ks
  have f0 : (0 : Int) ≤ f := by omega
  have f1 : (f : Int) < 2 := by omega
  go_enter Try.func21, Try.ntmps21
  go_wp2_with (first | (go_at_call 33; with_reducible refine km.mono ?_; rintro e w1 ⟨rfl, rfl⟩) | (go_at_call 31; with_reducible refine ks.mono ?_; rintro e w2 ⟨v', rfl, hr, hb⟩))
  go_ret2
  exact ⟨_, rfl, hr, hb⟩
/-- a call of a disk that is off, or of no file -/
theorem read_no {w : World} {ρ : Nat → Nat} {B D : Nat} {d : Dk} (h : DiskAt w ρ B D d) (f : Int) (hm : mayv d.off f ≠ 0) :
    Calls Try.prog 21 #[.pointer (some ⟨D, 0, none⟩), .int .i64 f] w fun e w' => e = .returned (.tuple #[.slice none 0 0, .int .i64 (mayv d.off f)]) ∧ w' = w := by
  have km := may_c D d.off f w h.off
  generalize mayv d.off f = z at km hm
  go_enter Try.func21, Try.ntmps21
  go_wp2_with (first | (go_at_call 33; with_reducible refine km.mono ?_; rintro e w1 ⟨rfl, rfl⟩))
  go_ret2
  exact ⟨rfl, rfl⟩
theorem off_at {w : World} {ρ : Nat → Nat} {B D : Nat} {d : Dk} (h : DiskAt w ρ B D d) (hoff : d.off = false) :
    Calls Try.prog 17 #[.pointer (some ⟨D, 0, none⟩)] w fun e w' => e = .returned (.int .i64 0) ∧ w' = w.setCell ⟨D, 5, none⟩ (.bool true) := by
  have km := may_c D d.off 0 w h.off
  rw [hoff, show mayv false 0 = 0 from rfl] at km
  have c5 := h.off
  have z5 := h.fz 5
  go_enter Try.func17, Try.ntmps17
  go_wp2_with (first | (go_at_call 33; with_reducible refine km.mono ?_; rintro e w1 ⟨rfl, rfl⟩))
  go_ret
  exact ⟨rfl, rfl⟩
theorem off_no {w : World} {ρ : Nat → Nat} {B D : Nat} {d : Dk} (h : DiskAt w ρ B D d) (hoff : d.off = true) :
    Calls Try.prog 17 #[.pointer (some ⟨D, 0, none⟩)] w fun e w' => e = .returned (.int .i64 8) ∧ w' = w := by
  have km := may_c D d.off 0 w h.off
  rw [hoff, show mayv true 0 = 8 from rfl] at km
  go_enter Try.func17, Try.ntmps17
  go_wp2_with (first | (go_at_call 33; with_reducible refine km.mono ?_; rintro e w1 ⟨rfl, rfl⟩))
  go_ret
  exact ⟨rfl, rfl⟩
theorem fuse_at {w : World} {ρ : Nat → Nat} {B D : Nat} {d : Dk} (h : DiskAt w ρ B D d) (n : Int) (hoff : d.off = false) :
    Calls Try.prog 22 #[.pointer (some ⟨D, 0, none⟩), .int .i64 n] w fun e w' => e = .returned (.int .i64 0) ∧ w' = (w.setCell ⟨D, 6, none⟩ (.bool (decide (0 ≤ n)))).setCell ⟨D, 7, none⟩ (.int .i64 n) := by
  have km := may_c D d.off 0 w h.off
  rw [hoff, show mayv false 0 = 0 from rfl] at km
  have c6 := h.fused
  have z6 := h.fz 6
  have c7 := h.left
  have z7 := h.fz 7
  go_enter Try.func22, Try.ntmps22
  go_wp2_with (first | (go_at_call 33; with_reducible refine km.mono ?_; rintro e w1 ⟨rfl, rfl⟩))
  go_ret
  exact ⟨rfl, rfl⟩
theorem fuse_no {w : World} {ρ : Nat → Nat} {B D : Nat} {d : Dk} (h : DiskAt w ρ B D d) (n : Int) (hoff : d.off = true) :
    Calls Try.prog 22 #[.pointer (some ⟨D, 0, none⟩), .int .i64 n] w fun e w' => e = .returned (.int .i64 8) ∧ w' = w := by
  have km := may_c D d.off 0 w h.off
  rw [hoff, show mayv true 0 = 8 from rfl] at km
  go_enter Try.func22, Try.ntmps22
  go_wp2_with (first | (go_at_call 33; with_reducible refine km.mono ?_; rintro e w1 ⟨rfl, rfl⟩))
  go_ret
  exact ⟨rfl, rfl⟩
/-- the role of one block -/
def roleAt (D r : Nat) : Nat → Nat := fun k => if k = D then r else 0
theorem new_at (most : Int) (w : World) (h0 : 1 ≤ most) (h1 : most ≤ 4194304) :
    Calls Try.prog 10 #[.int .i64 most] w fun e w' => e = .returned (.tuple #[.pointer (some ⟨w.heap.size, 0, none⟩), .int .i64 0]) ∧ DiskAt w' (roleAt w.heap.size 1) w.heap.size w.heap.size ⟨⟨[], []⟩, ⟨[], []⟩, most, false, false, 0⟩ ∧ Below w.heap.size w w' := by
  go_enter Try.func10, Try.ntmps10
  go_wp2
  go_ret2
  refine ⟨rfl, ?_, bel_alloc (Below.refl _ _) _⟩
  have hc : ∀ o u, (#[Value.slice none 0 0, .slice none 0 0, .slice none 0 0, .slice none 0 0, .int .i64 most, .bool false, .bool false, .int .i64 0] : Array Value)[o]? = some u → (w.alloc (.cells #[.slice none 0 0, .slice none 0 0, .slice none 0 0, .slice none 0 0, .int .i64 most, .bool false, .bool false, .int .i64 0] 60)).cell? ⟨w.heap.size, o, none⟩ = some u := fun o u hu => by
    rw [cell_of_row _ _ o _ _ _ (heap_alloc_new _ _)]; exact hu
  have hlo : ∀ r, LoR (w.alloc (.cells #[.slice none 0 0, .slice none 0 0, .slice none 0 0, .slice none 0 0, .int .i64 most, .bool false, .bool false, .int .i64 0] 60)) (roleAt w.heap.size 1) w.heap.size r (.slice none 0 0) [] := fun r => ⟨[], World.ownsRow_nil _ _ _ _, fun g hg => by simp [Value.ownBlock] at hg, fun j hj => by simp at hj⟩
  refine ⟨Nat.le_refl _, by simp [roleAt], fun k hk => ?_, ⟨.slice none 0 0, .slice none 0 0, hc 0 _ rfl, hc 1 _ rfl, .inl ⟨rfl, rfl⟩, hlo _⟩, ⟨.slice none 0 0, .slice none 0 0, hc 2 _ rfl, hc 3 _ rfl, .inl ⟨rfl, rfl⟩, hlo _⟩, hc 4 _ rfl, hc 5 _ rfl, hc 6 _ rfl, hc 7 _ rfl, fun o => frozen_of_row _ _ o _ _ (heap_alloc_new _ _)⟩
  simp at hk
  unfold roleAt
  rw [if_neg (by omega)]
theorem new_no (most : Int) (w : World) (h : most < 1 ∨ 4194304 < most) :
    Calls Try.prog 10 #[.int .i64 most] w fun e w' => e = .returned (.tuple #[.pointer none, .int .i64 1]) ∧ w' = w := by
  by_cases h0 : most < 1
  · go_enter Try.func10, Try.ntmps10
    go_wp2
    go_ret2
    exact ⟨rfl, rfl⟩
  · have h1 : 4194304 < most := by omega
    go_enter Try.func10, Try.ntmps10
    go_wp2
    go_ret2
    exact ⟨rfl, rfl⟩
end Go.Proofs.Ytfohemgfiidokaa
