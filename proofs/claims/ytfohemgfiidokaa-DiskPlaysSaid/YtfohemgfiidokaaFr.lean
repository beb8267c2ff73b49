/- How slices of bytes that came in are opened. -/
import Derived.Test.YtfohemgfiidokaaRows
import Derived.Test.YtfohemgfiidokaaDu
import Derived.WalkKit
import Derived.ProofKit
import Derived.OpenShut
import Derived.ShutString
import Derived.ChangeOld
import Derived.Below
import Derived.Deep.Slices
import Derived.ChangeSlices
namespace Go.Proofs.Ytfohemgfiidokaa
open Go.ChangeShapes Go.WideShapes Go.ChangeAt Go.RowKit

theorem own : ownKnob Try.prog.godebug = none := by kernel_rfl
theorem laidOut : laidOutB Try.prog = true := by kernel_rfl

theorem addr_plain {w : World} {a : Addr} {v : Value} (h : w.cell? (a.add 0) = some v) : a = ⟨a.block, a.off, none⟩ := by
  obtain ⟨g, o, sp⟩ := a
  rcases sp with _ | sp
  · rfl
  · simp [Addr.add, World.cell?] at h
    split at h <;> simp at h

theorem open_bytes_at {H : Type} {enc : TypeId × Value → H} {w : World} {base fuel : Nat} {spare : Nat → Bool} {held : Bool} {cs : List Value} {x : DataW H × List MemPlace}
    (hf : DataW.trod enc Try.prog w base spare held fuel 33 cs = some x) : ∃ v xs, cs = [v] ∧ RdB w v xs ∧ (∀ b ∈ xs, 0 ≤ b ∧ b < 256) ∧ (x.1 = .nil ∨ ∃ es sp, x.1 = .slice es sp ∧ es.length = xs.length) := by
  rcases open_ints Try.underlying33 Try.underlying5 (by kernel_rfl) hf with ⟨hcs, hx⟩ | ⟨a, len, cap, zs, hcs, hb, hlc, hm, hzl, hx, hel, hw⟩
  · exact ⟨_, [], hcs, .inl ⟨rfl, rfl⟩, (fun b hb => by cases hb), .inl (by rw [hx])⟩
  · have hll : len ≤ zs.length := by rw [hzl]; split <;> omega
    have hl2 : (zs.take len).length = len := by rw [List.length_take]; omega
    refine ⟨_, zs.take len, hcs, .inr ⟨a, a.block, a.off, cap, by rw [hl2], by omega, fun h0 => addr_plain (hel 0 (by omega)), fun j hj => ?_⟩, fun b hbm => ?_, .inr ⟨_, _, by rw [hx], by simp [lits]⟩⟩
    · have h1 := hel j (by omega)
      have hap := addr_plain (hel 0 (by omega))
      rw [hap, Addr.add_lit] at h1
      rw [h1, List.getElem?_take, if_pos (by omega), List.getD_eq_getElem?_getD]
    · have := bounds_u8 (hw b (List.mem_of_mem_take hbm))
      omega

theorem open_bytes {H : Type} {enc : TypeId × Value → H} {w : World} {base b2 : Nat} {spare : Nat → Bool} {held : Bool} {r} {v : Value} {d : DataW H} {ps : List MemPlace}
    (ho : Value.okWide Try.prog w r b2 33 v) (h : DataW.Trod enc Try.prog w base spare held 33 v d ps) : ∃ xs, RdB w v xs ∧ (∀ b ∈ xs, 0 ≤ b ∧ b < 256) := by
  obtain ⟨p, len, cap, rfl⟩ := okWide_slice Try.underlying33 ho
  obtain ⟨fuel, hf⟩ := h
  obtain ⟨v, xs, h1, h2, h3, -⟩ := open_bytes_at (cs := [.slice p len cap]) hf
  injection h1 with h1
  subst h1
  exact ⟨xs, h2, h3⟩
theorem RdB.shape {w : World} {v : Value} {xs : List Int} (h : RdB w v xs) : ∃ p cap, v = .slice p xs.length cap := by
  rcases h with ⟨h1, h2⟩ | ⟨a, g, o, cap, h1, -⟩
  · exact ⟨none, 0, by rw [h1, h2]; rfl⟩
  · exact ⟨_, _, h1⟩
theorem RdB.rdm {w W : World} {v : Value} {xs : List Int} (h : RdB w v xs) (hb : Below w.heap.size w W) (hi : Nat) : RdM w.heap.size hi W v xs := by
  rcases h with h | ⟨a, g, o, cap, h1, h2, h3, h4⟩
  · exact .inl h
  · exact .inr ⟨a, g, o, cap, h1, h2, fun hl => ⟨h3 hl, .inl (block_lt_of_cell (h4 0 hl))⟩, fun j hj => by rw [hb.cell (block_lt_of_cell (h4 j hj))]; exact h4 j hj⟩
end Go.Proofs.Ytfohemgfiidokaa
