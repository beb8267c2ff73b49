/- How an array of integers that came in by value is opened; a number of 256 bits, a hash. -/
import Derived.Test.YtefnlmiephombaaRows
import Derived.Test.YtefnlmiephombaaBigF
import Derived.WalkKit
import Derived.ProofKit
import Derived.OpenShut
import Derived.ShutString
import Derived.ChangeOld
import Derived.Below
namespace Go.Proofs.Ytefnlmiephombaa
open Go.ChangeShapes Go.WideShapes Go.ChangeAt Go.RowKit

theorem own : ownKnob Try.prog.godebug = none := by kernel_rfl
theorem laidOut : laidOutB Try.prog = true := by kernel_rfl

theorem open_intarr {H : Type} {enc : TypeId × Value → H} {P : Program} {w : World} {base : Nat} {spare : Nat → Bool} {held : Bool} {t e : TypeId} {n : Nat} {k : IntKind} {cs : Array Value} {d : DataW H} {ps : List MemPlace}
    (ht : P.underlying t = some (.array n e)) (he : P.underlying e = some (.int k)) (hc : P.cellsOf e = 1) (hct : P.cellsOf t = n) (h : DataW.Trod enc P w base spare held t (.agg cs) d ps) :
    ∃ zs : List Int, cs = (zs.map (Value.int k)).toArray ∧ zs.length = n ∧ ∀ z ∈ zs, (Lit.int k z).wf = true := by
  obtain ⟨fuel, hf⟩ := h
  obtain ⟨xs, m, _, _, hl, hx, hel⟩ := DataW.trod_array ht hf
  obtain ⟨l⟩ := cs
  simp only [Value.cells] at hl hel
  rw [hct] at hl
  have key : ∀ i (hi : i < l.length), ∃ z, l[i] = .int k z ∧ (Lit.int k z).wf = true := by
    intro i hi
    have := hel i (by omega)
    rw [hc, Nat.mul_one, List.getElem?_eq_getElem (by omega)] at this
    obtain ⟨z, hz, _, hw⟩ := DataW.trod_int he this
    rw [List.drop_eq_getElem_cons hi] at hz
    simp only [List.take_succ_cons, List.take_zero, List.cons.injEq, and_true] at hz
    exact ⟨z, hz, hw⟩
  refine ⟨l.map intOf, ?_, by simpa using hl, ?_⟩
  · congr 1
    rw [List.map_map]
    apply List.ext_getElem (by simp)
    intro i h1 h2
    obtain ⟨z, hz, _⟩ := key i h1
    simp [hz, intOf]
  · intro z hz
    obtain ⟨v, hv, rfl⟩ := List.mem_map.1 hz
    obtain ⟨i, hi, rfl⟩ := List.getElem_of_mem hv
    obtain ⟨z, hz, hw⟩ := key i hi
    rw [hz]; exact hw

theorem okWide_agg {P : Program} {w : World} {base n : Nat} {t e : TypeId} {r} {v : Value} (ht : P.underlying t = some (.array n e)) (h : Value.okWide P w r base t v) : ∃ cs, v = .agg cs := by
  cases v <;> simp [Value.okWide, ht] at h
  exact ⟨_, rfl⟩

theorem open_big {H : Type} {enc : TypeId × Value → H} {w : World} {base b2 : Nat} {spare : Nat → Bool} {held : Bool} {r} {v : Value} {d : DataW H} {ps : List MemPlace}
    (ho : Value.okWide Try.prog w r b2 24 v) (h : DataW.Trod enc Try.prog w base spare held 24 v d ps) : ∃ x, 0 ≤ x ∧ x < M ∧ v = big x := by
  obtain ⟨cs, rfl⟩ := okWide_agg Try.underlying24 ho
  obtain ⟨zs, rfl, hl, hw⟩ := open_intarr (n := 4) Try.underlying24 Try.underlying22 (by kernel_rfl) (by kernel_rfl) h
  match zs, hl with
  | [a, b, c, e], _ =>
    have h0 := bounds_u64 (hw a (by simp))
    have h1 := bounds_u64 (hw b (by simp))
    have h2 := bounds_u64 (hw c (by simp))
    have h3 := bounds_u64 (hw e (by simp))
    exact big_of a b c e h0.1 h0.2 h1.1 h1.2 h2.1 h2.2 h3.1 h3.2

theorem open_hash {H : Type} {enc : TypeId × Value → H} {w : World} {base b2 : Nat} {spare : Nat → Bool} {held : Bool} {r} {v : Value} {d : DataW H} {ps : List MemPlace}
    (ho : Value.okWide Try.prog w r b2 42 v) (h : DataW.Trod enc Try.prog w base spare held 42 v d ps) : ∃ l, l.length = 32 ∧ Bytes l ∧ v = hsh l := by
  obtain ⟨cs, rfl⟩ := okWide_agg Try.underlying42 ho
  obtain ⟨zs, rfl, hl, hw⟩ := open_intarr (n := 32) Try.underlying42 Try.underlying5 (by kernel_rfl) (by kernel_rfl) h
  exact ⟨zs, hl, fun b hb => bounds_u8 (hw b hb), rfl⟩
end Go.Proofs.Ytefnlmiephombaa
