/- (*Disk).On. -/
import Derived.Test.YtfohemgfiidokaaDh
namespace Go.Proofs.Ytfohemgfiidokaa
open Go.RowKit Go.Sort

/-- the first k files settled -/
def Dk.on (d : Dk) (pk : Nat → Int) : Nat → Dk
  | 0 => d
  | k + 1 => (d.on pk k).setFile k ⟨keptF (d.file k).s (pk k) (d.file k).l, []⟩
theorem on_off (d : Dk) (pk : Nat → Int) : ∀ k, (d.on pk k).off = d.off ∧ (d.on pk k).fused = d.fused
  | 0 => ⟨rfl, rfl⟩
  | k + 1 => by
    have := on_off d pk k
    rcases k with _ | k <;> exact this

set_option maxRecDepth 100000 in
set_option maxHeartbeats 1600000 in
theorem on_at {w : World} {ρ : Nat → Nat} {B D : Nat} {d : Dk} (p : Option Addr) (len cap : Nat) (pk : Nat → Int) (h : DiskAt w ρ B D d) (h0 : Small d.f0) (h1 : Small d.f1) (hoff : d.off = true)
    (hp : ∀ i, i < 2 → i < len → ∃ g o, p = some ⟨g, o, none⟩ ∧ w.cell? ⟨g, o + i, none⟩ = some (.int .i64 (pk i)) ∧ ρ g = 0) (hp0 : ∀ i, i < 2 → len ≤ i → pk i = 0)
    (hb0 : ∀ i, i < 2 → -9223372036854775808 ≤ pk i) (hb1 : ∀ i, i < 2 → pk i ≤ 9223372036854775807) :
    Calls Try.prog 18 #[.pointer (some ⟨D, 0, none⟩), .slice p len cap] w fun e w' => e = .returned (.int .i64 0) ∧ DiskAt w' ρ B D { d.on pk 2 with off := false, fused := false } ∧ Mv ρ ρ w w' := by
  have c5 : w.cell? ⟨D, 5, none⟩ = some (.bool true) := by rw [← hoff]; exact h.off
  have HB := Lib.hid hb0; have HB1 := Lib.hid hb1; have HP := Lib.hid hp; have HP0 := Lib.hid hp0
  clear hb0 hb1 hp hp0 hoff
  go_enter Try.func18, Try.ntmps18
  go_upto_region 6 with fail
  go_loopw [16] (fun i wr => ∃ k : Nat, k ≤ 2 ∧ i = .int .i64 k ∧ DiskAt wr ρ B D (d.on pk k) ∧ Mv ρ ρ w wr) (fun i _ => 2 - (intOf i).toNat)
  case atStart => exact ⟨0, by omega, rfl, h, Mv.refl _ _⟩
  case round =>
    obtain ⟨k, hk, rfl, hd, hb⟩ := hrel
    by_cases hlt : k < 2
    · have hk0 : (0 : Int) ≤ k := by omega
      have hk2 : (k : Int) < 2 := by omega
      have hfile : (d.on pk k).file k = d.file k := by rcases k with _ | _ | k <;> first | rfl | omega
      have hsm : Small (d.file k) := by rcases k with _ | k; exact h0; exact h1
      have ks := settle_at (hd.file k hlt) (by rw [hfile]; exact hsm) hd.fz (pk k) (HB.out k hlt) (HB1.out k hlt)
      rw [Nat.mul_comm 2 k, hfile] at ks
      by_cases hl : k < len
      · obtain ⟨g, o, rfl, hc, hg⟩ := HP.out k hlt hl
        have hc' : wr.cell? ⟨g, o + k, none⟩ = some (.int .i64 (pk k)) := (World.cell?_of_block (hb.block g (block_lt_of_cell hc) (.inl hg))).trans hc
        have hkl : (k : Int) < len := by omega
        go_wp2_with (go_at_call 36; with_reducible refine ks.mono ?_; rintro e w1 ⟨rfl, hS⟩)
        go_roundw
        case rel =>
          obtain ⟨r1, r2⟩ := hd.settled hlt hS
          exact ⟨k + 1, by omega, by go_num, r1, hb.trans r2⟩
        case measure => simp [intOf]; omega
      · have hkl : ¬ (k : Int) < len := by omega
        have hz := HP0.out k hlt (by omega)
        rw [hz] at ks
        go_wp2_with (go_at_call 36; with_reducible refine ks.mono ?_; rintro e w1 ⟨rfl, hS⟩)
        go_roundw
        case rel =>
          obtain ⟨r1, r2⟩ := hd.settled hlt hS
          have e2 : (d.on pk k).setFile k ⟨keptF (d.file k).s 0 (d.file k).l, []⟩ = d.on pk (k + 1) := by show _ = (d.on pk k).setFile k ⟨keptF (d.file k).s (pk k) (d.file k).l, []⟩; rw [hz]
          rw [e2] at r1
          exact ⟨k + 1, by omega, by go_num, r1, hb.trans r2⟩
        case measure => simp [intOf]; omega
    · have hk2 : k = 2 := by omega
      subst hk2
      have d5 := hd.off
      have z5 := hd.fz 5
      have d6 := hd.fused
      have z6 := hd.fz 6
      go_wp2
      go_ret
      exact ⟨rfl, (hd.setOff false).setFused false, (hb.set h.role _ _).set h.role _ _⟩
end Go.Proofs.Ytfohemgfiidokaa
