/- How slices of bytes and hashes that came in are opened. -/
import Derived.Test.YtoeooabaofpngaaRows
import Derived.Test.YtoeooabaofpngaaOv
import Derived.WalkKit
import Derived.ProofKit
import Derived.OpenShut
import Derived.ShutString
import Derived.ChangeOld
import Derived.ChangeMaps5
import Derived.Below
import Derived.Deep.Slices
import Derived.ChangeSlices
namespace Go.Proofs.Ytoeooabaofpngaa
open Go.ChangeShapes Go.WideShapes Go.ChangeAt Go.RowKit

theorem own : ownKnob Try.prog.godebug = none := by kernel_rfl
theorem laidOut : laidOutB Try.prog = true := by kernel_rfl

theorem addr_plain {w : World} {a : Addr} {v : Value} (h : w.cell? (a.add 0) = some v) : a = ⟨a.block, a.off, none⟩ := by
  obtain ⟨g, o, sp⟩ := a
  rcases sp with _ | sp
  · rfl
  · simp [Addr.add, World.cell?] at h
    split at h <;> simp at h

theorem open_bytes_at {H : Type} {enc : TypeId × Value → H} {w : World} {base fuel : Nat} {spare : Nat → Bool} {held : Bool} {cs : List Value} {x : DataW H × List MemPlace}
    (hf : DataW.trod enc Try.prog w base spare held fuel 22 cs = some x) : ∃ v xs, cs = [v] ∧ RdB w v xs ∧ Bytes xs ∧ (x.1 = .nil ∨ ∃ es sp, x.1 = .slice es sp ∧ es.length = xs.length) := by
  rcases open_ints Try.underlying22 Try.underlying5 (by kernel_rfl) hf with ⟨hcs, hx⟩ | ⟨a, len, cap, zs, hcs, hb, hlc, hm, hzl, hx, hel, hw⟩
  · exact ⟨_, [], hcs, .inl ⟨rfl, rfl⟩, (fun b hb => by cases hb), .inl (by rw [hx])⟩
  · have hll : len ≤ zs.length := by rw [hzl]; split <;> omega
    have hl2 : (zs.take len).length = len := by rw [List.length_take]; omega
    refine ⟨_, zs.take len, hcs, .inr ⟨a, a.block, a.off, cap, by rw [hl2], by omega, fun h0 => addr_plain (hel 0 (by omega)), fun j hj => ?_⟩, fun b hbm => ?_, .inr ⟨_, _, by rw [hx], by simp [lits]⟩⟩
    · have h1 := hel j (by omega)
      have hap := addr_plain (hel 0 (by omega))
      rw [hap, Addr.add_lit] at h1
      rw [h1, List.getElem?_take, if_pos (by omega), List.getD_eq_getElem?_getD]
    · have := bounds_u8 (hw b (List.mem_of_mem_take hbm))
      omega

theorem open_bytes {H : Type} {enc : TypeId × Value → H} {w : World} {base b2 : Nat} {spare : Nat → Bool} {held : Bool} {r} {v : Value} {d : DataW H} {ps : List MemPlace}
    (ho : Value.okWide Try.prog w r b2 22 v) (h : DataW.Trod enc Try.prog w base spare held 22 v d ps) : ∃ xs, RdB w v xs ∧ Bytes xs := by
  obtain ⟨p, len, cap, rfl⟩ := okWide_slice Try.underlying22 ho
  obtain ⟨fuel, hf⟩ := h
  obtain ⟨v, xs, h1, h2, h3, -⟩ := open_bytes_at (cs := [.slice p len cap]) hf
  injection h1 with h1
  subst h1
  exact ⟨xs, h2, h3⟩
theorem open_intarr {H : Type} {enc : TypeId × Value → H} {P : Program} {w : World} {base : Nat} {spare : Nat → Bool} {held : Bool} {t e : TypeId} {n : Nat} {k : IntKind} {cs : Array Value} {d : DataW H} {ps : List MemPlace}
    (ht : P.underlying t = some (.array n e)) (he : P.underlying e = some (.int k)) (hc : P.cellsOf e = 1) (hct : P.cellsOf t = n) (h : DataW.Trod enc P w base spare held t (.agg cs) d ps) :
    ∃ zs : List Int, cs = (zs.map (Value.int k)).toArray ∧ zs.length = n ∧ ∀ z ∈ zs, (Lit.int k z).wf = true := by
  obtain ⟨fuel, hf⟩ := h
  obtain ⟨xs, m, _, _, hl, hx, hel⟩ := DataW.trod_array ht hf
  obtain ⟨l⟩ := cs
  simp only [Value.cells] at hl hel
  rw [hct] at hl
  have key : ∀ i (hi : i < l.length), ∃ z, l[i] = .int k z ∧ (Lit.int k z).wf = true := by
    intro i hi
    have := hel i (by omega)
    rw [hc, Nat.mul_one, List.getElem?_eq_getElem (by omega)] at this
    obtain ⟨z, hz, _, hw⟩ := DataW.trod_int he this
    rw [List.drop_eq_getElem_cons hi] at hz
    simp only [List.take_succ_cons, List.take_zero, List.cons.injEq, and_true] at hz
    exact ⟨z, hz, hw⟩
  refine ⟨l.map intOf, ?_, by simpa using hl, ?_⟩
  · congr 1
    rw [List.map_map]
    apply List.ext_getElem (by simp)
    intro i h1 h2
    obtain ⟨z, hz, _⟩ := key i h1
    simp [hz, intOf]
  · intro z hz
    obtain ⟨v, hv, rfl⟩ := List.mem_map.1 hz
    obtain ⟨i, hi, rfl⟩ := List.getElem_of_mem hv
    obtain ⟨z, hz, hw⟩ := key i hi
    rw [hz]; exact hw

theorem okWide_agg {P : Program} {w : World} {base n : Nat} {t e : TypeId} {r} {v : Value} (ht : P.underlying t = some (.array n e)) (h : Value.okWide P w r base t v) : ∃ cs, v = .agg cs := by
  cases v <;> simp [Value.okWide, ht] at h
  exact ⟨_, rfl⟩

theorem open_hash {H : Type} {enc : TypeId × Value → H} {w : World} {base b2 : Nat} {spare : Nat → Bool} {held : Bool} {r} {v : Value} {d : DataW H} {ps : List MemPlace}
    (ho : Value.okWide Try.prog w r b2 34 v) (h : DataW.Trod enc Try.prog w base spare held 34 v d ps) : ∃ l, l.length = 32 ∧ Bytes l ∧ v = hsh l := by
  obtain ⟨cs, rfl⟩ := okWide_agg Try.underlying34 ho
  obtain ⟨zs, rfl, hl, hw⟩ := open_intarr (n := 32) Try.underlying34 Try.underlying5 (by kernel_rfl) (by kernel_rfl) h
  exact ⟨zs, hl, fun b hb => bounds_u8 (hw b hb), rfl⟩
end Go.Proofs.Ytoeooabaofpngaa
