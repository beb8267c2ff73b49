/- The document's disk: Room, Read, New, Sync, On. -/
import Derived.Test.YtfohemgfiidokaaRb
import Derived.Laws.IdiomStrings
namespace Go.Proofs.Ytfohemgfiidokaa
open Go.RowKit Go.Sort diskKeeps

theorem RefAt.keepN {w : World} {ρ : Nat → Nat} {R : Nat} {d : Rk} (h : RefAt w ρ R d) (n : Nat) : RefAt (w.drewN n) ρ R d := h.keep (below_drewN w n)
def ROk (d : Rk) : Prop := Small d.f0 ∧ Small d.f1 ∧ 0 ≤ d.most ∧ d.most ≤ 4194304 ∧ d.left ≤ 9223372036854775807
theorem ROk.file {d : Rk} (h : ROk d) (f : Nat) : Small (d.file f) := by rcases f with _ | f; exact h.1; exact h.2.1
def rroomF (d : Rk) : Int := max 0 (d.most - (rstands d.f0).length - (rstands d.f1).length)
set_option maxRecDepth 100000 in
set_option maxHeartbeats 1600000 in
theorem rroom_c {w : World} {ρ : Nat → Nat} {R : Nat} {d : Rk} (h : RefAt w ρ R d) (ok : ROk d) : Calls Try.prog 14 #[.pointer (some ⟨R, 0, none⟩)] w fun e w' => e = .returned (.int .i64 (rroomF d)) ∧ ∃ n, w' = w.drewN n := by
  have k0 := fun n => rstands_c (h.keepN n) 0 (by omega) (ok.file 0)
  have k1 := fun n => rstands_c (h.keepN n) 1 (by omega) (ok.file 1)
  have l0 := rkept_len d.f0 1099511627776
  have l1 := rkept_len d.f1 1099511627776
  have s0 := ok.1.1
  have s1 := ok.2.1.1
  have m0 := ok.2.2.1
  have m1 := ok.2.2.2.1
  unfold rroomF
  have hz0 := strOfNums_size (rstands d.f0)
  have hz1 := strOfNums_size (rstands d.f1)
  have e0 : (rstands d.f0).length ≤ 500000000 := by unfold rstands; omega
  have e1 : (rstands d.f1).length ≤ 500000000 := by unfold rstands; omega
  change ∀ n, Calls Try.prog 32 #[.pointer (some ⟨R, 0, none⟩), .int .i64 0] (w.drewN n) fun e w' => e = .returned (.string (strOfNums (rstands d.f0))) ∧ ∃ m, w' = (w.drewN n).drewN m at k0
  change ∀ n, Calls Try.prog 32 #[.pointer (some ⟨R, 0, none⟩), .int .i64 1] (w.drewN n) fun e w' => e = .returned (.string (strOfNums (rstands d.f1))) ∧ ∃ m, w' = (w.drewN n).drewN m at k1
  generalize rstands d.f0 = X0 at *
  generalize rstands d.f1 = X1 at *
  have c4 := h.most
  generalize d.most = most at *
  have g1 : IntKind.i64.wrap (most - X0.length) = most - X0.length := by rw [IntKind.wrap_i64]; omega
  have g2 : IntKind.i64.wrap (most - X0.length - X1.length) = most - X0.length - X1.length := by rw [IntKind.wrap_i64]; omega
  have K := Lib.hid (And.intro k0 k1)
  clear k0 k1 h ok s0 s1 l0 l1
  go_enter Try.func14, Try.ntmps14
  go_wp2_with fail
  by_cases hr : 0 < most - (X0.length : Int) - (X1.length : Int)
  · go_quiet (first | (go_at_call_of 32 (Value.int .i64 0); exact Calls.quiet_of (K.out.1 _)) | (go_at_call_of 32 (Value.int .i64 1); exact Calls.quiet_of (K.out.2 _)))
    clear g1 g2
    go_wp2_with fail
    go_ret
    exact ⟨congrArg (fun z : Int => Ending.returned (.int .i64 z)) (by omega), _, rfl⟩
  · go_quiet (first | (go_at_call_of 32 (Value.int .i64 0); exact Calls.quiet_of (K.out.1 _)) | (go_at_call_of 32 (Value.int .i64 1); exact Calls.quiet_of (K.out.2 _)))
    clear g1 g2
    go_wp2_with fail
    go_ret
    exact ⟨congrArg (fun z : Int => Ending.returned (.int .i64 z)) (by omega), _, rfl⟩

/-- a slice whose text is s -/
def TxtB (w : World) (v : Value) (s : ByteArray) : Prop := ∀ W, Below w.heap.size w W → (convert 33 9 v).run Try.prog W = .ok (.string s) W
theorem conv_txt (s : ByteArray) (w : World) : ∃ n c w', (convert 9 33 (.string s)).run Try.prog w = .ok (.slice (some ⟨w.heap.size, 0, none⟩) n c) w' ∧ Below w.heap.size w w' ∧ TxtB w' (.slice (some ⟨w.heap.size, 0, none⟩) n c) s := by
  refine ⟨_, _, _, run_bytes_of_string w 9 33 5 s Try.underlying9 Try.underlying33 Try.underlying5, bel_alloc (Below.refl _ _).drew _, fun W hW => ?_⟩
  have hlen : s.data.toList.length = s.size := Array.length_toList
  have hrow := bytesRow_at s (grownCap w s.size 0 5)
  generalize bytesRow s (grownCap w s.size 0 5) = C at hW hrow
  have hcell : ∀ j, W.cell? ⟨w.heap.size, j, none⟩ = C[j]? := fun j => by
    rw [hW.cell (show w.heap.size < (w.heap.push (.cells C 5 (C.size, C.size + 1))).size by rw [Array.size_push]; omega)]
    exact cell_of_row _ _ _ _ _ _ (heap_alloc_new w.drew _)
  have := run_convert_bytes_back (P := Try.prog) W 33 9 5 ⟨w.heap.size, 0, none⟩ (grownCap w s.size 0 5) s.data.toList Try.underlying33 Try.underlying5 Try.underlying9 (fun j hj => by
    rw [Addr.add_lit, Nat.zero_add, hcell, hrow j (by simpa using hj)]
    simp)
  rw [hlen] at this
  exact this
theorem rread_no {w : World} {ρ : Nat → Nat} {R : Nat} {d : Rk} (h : RefAt w ρ R d) (f : Int) (hm : rmay d.power f ≠ 0) :
    Calls Try.prog 26 #[.pointer (some ⟨R, 0, none⟩), .int .i64 f] w fun e w' => e = .returned (.tuple #[.slice none 0 0, .int .i64 (rmay d.power f)]) ∧ w' = w := by
  have c6 := h.power
  unfold rmay at hm ⊢
  by_cases hp : d.power = false
  · rw [if_pos hp]
    rw [hp] at c6
    clear hp h hm
    go_enter Try.func26, Try.ntmps26
    go_wp2
    go_ret2
    exact ⟨rfl, rfl⟩
  · rw [if_neg hp] at hm ⊢
    rw [show d.power = true by simpa using hp] at c6
    by_cases h0 : f < 0
    · rw [if_pos (.inl h0)]
      clear hm hp h
      go_enter Try.func26, Try.ntmps26
      go_wp2
      go_ret2
      exact ⟨rfl, rfl⟩
    · have h1 : 1 < f := by
        rcases Int.lt_or_le 1 f with e | e
        · exact e
        · rw [if_neg (by omega)] at hm; exact absurd rfl hm
      rw [if_pos (.inr h1)]
      clear hm hp h
      go_enter Try.func26, Try.ntmps26
      go_wp2
      go_ret2
      exact ⟨rfl, rfl⟩
set_option maxRecDepth 100000 in
theorem rread_at {w : World} {ρ : Nat → Nat} {R : Nat} {d : Rk} (h : RefAt w ρ R d) (ok : ROk d) (hp : d.power = true) (f : Nat) (hf : f < 2) :
    Calls Try.prog 26 #[.pointer (some ⟨R, 0, none⟩), .int .i64 f] w fun e w' => ∃ p n c, e = .returned (.tuple #[.slice p n c, .int .i64 0]) ∧ TxtB w' (.slice p n c) (strOfNums (rstands (d.file f))) ∧ Below w.heap.size w w' := by
  have c6 := h.power
  rw [hp] at c6
  have ks := rstands_c h f hf (ok.file f)
  have f0 : (0 : Int) ≤ f := by omega
  have f1 : ¬ 1 < (f : Int) := by omega
  generalize strOfNums (rstands (d.file f)) = X at *
  clear hp
  go_enter Try.func26, Try.ntmps26
  go_wp2_with fail
  refine ks.mono ?_
  rintro e w2 ⟨rfl, n, rfl⟩
  obtain ⟨nn, cc, w3, hcv, hb, ht⟩ := conv_txt X (w.drewN n)
  have HT := Lib.hid (And.intro hb ht)
  clear hb ht
  go_wp2_with fail
  go_ret2
  exact ⟨_, _, _, rfl, HT.out.2, bel_call (below_drewN w n) HT.out.1⟩

def rk0 (most : Int) : Rk := ⟨⟨[], []⟩, ⟨[], []⟩, most, -1, true⟩
theorem rnew_any (most : Int) (w : World) (h0 : 1 ≤ most) (h1 : most ≤ 4194304) :
    Calls Try.prog 11 #[.int .i64 most] w fun e w' => e = .returned (.tuple #[.pointer (some ⟨w.heap.size, 0, none⟩), .int .i64 0]) ∧ (∀ (ρ : Nat → Nat), ρ w.heap.size = 5 → (∀ k, w.heap.size < k → ρ k = 0) → RefAt w' ρ w.heap.size (rk0 most)) ∧ Below w.heap.size w w' := by
  go_enter Try.func11, Try.ntmps11
  go_wp2
  go_ret2
  refine ⟨rfl, fun ρ hρ hf => ?_, bel_alloc (Below.refl _ _) _⟩
  have hc : ∀ o u, (#[Value.string ⟨#[]⟩, .slice none 0 0, .string ⟨#[]⟩, .slice none 0 0, .int .i64 most, .int .i64 (-1), .bool true] : Array Value)[o]? = some u → (w.alloc (.cells #[Value.string ⟨#[]⟩, .slice none 0 0, .string ⟨#[]⟩, .slice none 0 0, .int .i64 most, .int .i64 (-1), .bool true] 66)).cell? ⟨w.heap.size, o, none⟩ = some u := fun o u hu => by
    rw [cell_of_row _ _ o _ _ _ (heap_alloc_new _ _)]; exact hu
  have hlo : ∀ r, RLo (w.alloc (.cells #[Value.string ⟨#[]⟩, .slice none 0 0, .string ⟨#[]⟩, .slice none 0 0, .int .i64 most, .int .i64 (-1), .bool true] 66)) ρ r (.slice none 0 0) [] := fun r => ⟨fun n hn => (by cases hn), World.ownsRow_nil _ _ _ _, fun g hg => by simp [Value.ownBlock] at hg⟩
  exact ⟨hρ, fun k hk => hf k (by simp at hk; omega), ⟨.slice none 0 0, hc 0 _ rfl, hc 1 _ rfl, hlo _⟩, ⟨.slice none 0 0, hc 2 _ rfl, hc 3 _ rfl, hlo _⟩, hc 4 _ rfl, hc 5 _ rfl, hc 6 _ rfl, fun o => frozen_of_row _ _ o _ _ (heap_alloc_new _ _)⟩
theorem rnew_no (most : Int) (w : World) (h : most < 1 ∨ 4194304 < most) :
    Calls Try.prog 11 #[.int .i64 most] w fun e w' => e = .returned (.tuple #[.pointer none, .int .i64 1]) ∧ w' = w := by
  by_cases h0 : most < 1
  · go_enter Try.func11, Try.ntmps11
    go_wp2
    go_ret2
    exact ⟨rfl, rfl⟩
  · have h1 : 4194304 < most := by omega
    go_enter Try.func11, Try.ntmps11
    go_wp2
    go_ret2
    exact ⟨rfl, rfl⟩
end Go.Proofs.Ytfohemgfiidokaa
