/- A row of integers in a block of its own. -/
import Derived.Test.YtefnlmiephombaaRp
namespace Go.Proofs.Ytefnlmiephombaa
open Go.RowKit Go.Sort

/-- block g holds the integers bs, each a cell -/
def RowI (g : Nat) (bs : List Int) (w : World) : Prop := w.heap[g]? = some (.cells (bs.map (Value.int .i64)).toArray 3 (0, 0))

theorem RowI.lt {g : Nat} {bs : List Int} {w : World} (h : RowI g bs w) : g < w.heap.size := by
  by_cases hlt : g < w.heap.size
  · exact hlt
  · unfold RowI at h
    rw [Array.getElem?_eq_none (by omega)] at h; cases h
theorem RowI.below {B g : Nat} {bs : List Int} {w w' : World} (h : RowI g bs w) (hb : Below B w w') (hg : g < B) : RowI g bs w' := by
  unfold RowI; rw [hb.block g hg]; exact h
theorem RowI.call {g : Nat} {bs : List Int} {w w' : World} (h : RowI g bs w) (hb : Below w.heap.size w w') : RowI g bs w' := h.below hb h.lt
theorem RowI.cell {g : Nat} {bs : List Int} {w : World} (h : RowI g bs w) (j : Nat) (hj : j < bs.length) : w.cell? ⟨g, j, none⟩ = some (.int .i64 (bs[j]?.getD 0)) := by
  unfold RowI at h
  simp [World.cell?, h, hj]
theorem RowI.frozen {g : Nat} {bs : List Int} {w : World} (h : RowI g bs w) (j : Nat) : w.frozen? ⟨g, j, none⟩ = false := by
  unfold RowI at h
  simp [World.frozen?, h]
theorem RowI.set {g : Nat} {bs : List Int} {w : World} (h : RowI g bs w) (j : Nat) (v : Int) : RowI g (bs.set j v) (w.setCell ⟨g, j, none⟩ (.int .i64 v)) := by
  have hl := h.lt
  unfold RowI at h ⊢
  have e : (Array.setIfInBounds (List.map (Value.int .i64) bs).toArray j (.int .i64 v)) = (List.map (Value.int .i64) (bs.set j v)).toArray := by
    rw [List.setIfInBounds_toArray, List.map_set]
  rw [← e]
  have h' : w.heap[g] = .cells (bs.map (Value.int .i64)).toArray 3 (0, 0) := by
    rw [Array.getElem?_eq_getElem hl] at h
    injection h
  simp [World.setCell, hl, Array.getElem_modify_self, h']
theorem RowI.owns {g : Nat} {bs : List Int} {w : World} (h : RowI g bs w) (B : Nat) (hB : B ≤ g) (hl : bs.length ≤ 1000000) : w.ownsRow B 3 1 (.slice (some ⟨g, 0, none⟩) bs.length bs.length) bs.length (bs.map (Value.int .i64)) := by
  refine ⟨by simp, .inr ⟨g, bs.length, _, rfl, hB, h, Nat.le_refl _, by unfold maxLen; omega, by simp, ?_⟩⟩
  rw [Nat.mul_one, List.take_of_length_le (by simp)]
theorem RowI.new (w : World) (bs : List Int) : RowI w.heap.size bs (w.alloc (.cells (bs.map (Value.int .i64)).toArray 3)) := heap_alloc_new w _
end Go.Proofs.Ytefnlmiephombaa
