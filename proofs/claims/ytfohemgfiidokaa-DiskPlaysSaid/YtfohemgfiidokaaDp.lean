/- What the law's 'stands' answers of a disk that is on. -/
import Derived.Test.YtfohemgfiidokaaDf
import Derived.Laws.BytesArg
namespace Go.Proofs.Ytfohemgfiidokaa
open Go.RowKit Go.Sort

theorem own_text {w : World} {B : Nat} {v : Value} {xs : List Int} (h : RowO w B v xs) : (convert 33 9 v).run Try.prog w = .ok (.string (strOfNums xs)) w := by
  have h0 := h
  rcases h.2 with ⟨h1, h2⟩ | ⟨g, cap, cur, h1, -⟩
  · have hx := List.length_eq_zero_iff.1 h2
    subst hx
    rw [h1]
    exact run_convert_bytes_nil w 33 5 Try.underlying33 Try.underlying5 0 0 9 Try.underlying9
  · rw [h1]
    exact run_convert_bytes_arg w 33 5 Try.underlying33 Try.underlying5 g 0 xs.length cap xs rfl (fun i hi => by
      rw [Nat.zero_add, own_cell h0 h1 i hi]
      simp [u8s, List.getElem?_eq_getElem hi]) 9 Try.underlying9

set_option maxRecDepth 100000 in
theorem stands_law {w : World} {ρ : Nat → Nat} {B D : Nat} {d : Dk} (h : DiskAt w ρ B D d) (f : Nat) (F : Fil) (hF : FilAt w ρ B D f F) (hf : f < 2) (hs : Small F) (hoff : d.off = false) (want : ByteArray) :
    Calls Try.prog 19 #[.pointer (some ⟨D, 0, none⟩), .int .i64 f, .string want] w fun e w' => e = .returned (.bool ((strOfNums F.stands).toList == want.toList)) ∧ Below w.heap.size w w' := by
  have kr := read_at h f F hF hf hs hoff
  go_enter Try.func19, Try.ntmps19
  go_wp2_with (go_at_call 21; with_reducible refine kr.mono ?_; rintro e w1 ⟨v', rfl, hr, hb⟩; have ht := own_text hr)
  go_ret
  exact ⟨rfl, hb⟩
end Go.Proofs.Ytfohemgfiidokaa
