/- Rows of 32 bytes; hashes turned, and as letters. -/
import Derived.Test.YtoeooabaofpngaaDoorUc
import Derived.Laws.CopyOwn
import Derived.Lib.OwnBridge
namespace Go.Proofs.YtoeooabaofpngaaDoor
open Go.RowKit Go.Sort

/-- 32 bytes as a value -/
def hsh (l : List Int) : Value := .agg (l.map (Value.int .u8)).toArray
/-- block g holds the bytes bs, each a cell -/
def RowU (g : Nat) (bs : List Int) (w : World) : Prop := w.heap[g]? = some (.cells (bs.map (Value.int .u8)).toArray 27 (0, 0))
theorem RowU.lt {g : Nat} {bs : List Int} {w : World} (h : RowU g bs w) : g < w.heap.size := by
  by_cases hlt : g < w.heap.size
  · exact hlt
  · unfold RowU at h
    rw [Array.getElem?_eq_none (by omega)] at h; cases h
theorem RowU.below {B g : Nat} {bs : List Int} {w w' : World} (h : RowU g bs w) (hb : Below B w w') (hg : g < B) : RowU g bs w' := by
  unfold RowU; rw [hb.block g hg]; exact h
theorem RowU.call {g : Nat} {bs : List Int} {w w' : World} (h : RowU g bs w) (hb : Below w.heap.size w w') : RowU g bs w' := h.below hb h.lt
theorem RowU.cell {g : Nat} {bs : List Int} {w : World} (h : RowU g bs w) (j : Nat) (hj : j < bs.length) : w.cell? ⟨g, j, none⟩ = some (.int .u8 (bs[j]?.getD 0)) := by
  unfold RowU at h
  simp [World.cell?, h, hj]
theorem RowU.frozen {g : Nat} {bs : List Int} {w : World} (h : RowU g bs w) (j : Nat) : w.frozen? ⟨g, j, none⟩ = false := by
  unfold RowU at h
  simp [World.frozen?, h]
theorem RowU.set {g : Nat} {bs : List Int} {w : World} (h : RowU g bs w) (j : Nat) (v : Int) : RowU g (bs.set j v) (w.setCell ⟨g, j, none⟩ (.int .u8 v)) := by
  have hl := h.lt
  unfold RowU at h ⊢
  have e : (Array.setIfInBounds (List.map (Value.int .u8) bs).toArray j (.int .u8 v)) = (List.map (Value.int .u8) (bs.set j v)).toArray := by
    rw [List.setIfInBounds_toArray, List.map_set]
  rw [← e]
  have h' : w.heap[g] = .cells (bs.map (Value.int .u8)).toArray 27 (0, 0) := by
    rw [Array.getElem?_eq_getElem hl] at h
    injection h
  simp [World.setCell, hl, Array.getElem_modify_self, h']
theorem RowU.new (w : World) (bs : List Int) : RowU w.heap.size bs (w.alloc (.cells (bs.map (Value.int .u8)).toArray 27)) := heap_alloc_new w _
theorem RowU.set_other {g b o : Nat} {bs : List Int} {w : World} (h : RowU g bs w) (hne : g ≠ b) (x : Value) : RowU g bs (w.setCell ⟨b, o, none⟩ x) := by
  unfold RowU at h ⊢
  rw [← h]
  simp [World.setCell, Array.getElem?_modify, Ne.symm hne]
theorem RowU.drew {g : Nat} {bs : List Int} {w : World} (h : RowU g bs w) : RowU g bs w.drew := h
theorem RowU.alloc {g : Nat} {bs : List Int} {w : World} (h : RowU g bs w) (o : Obj) : RowU g bs (w.alloc o) := by
  have := h.lt
  unfold RowU at h ⊢
  rw [Below.heap_alloc _ _ _ (by omega)]; exact h
theorem RowU.setRow_other {g b : Nat} {bs : List Int} {w : World} (h : RowU g bs w) (hne : g ≠ b) (cs : Array Value) : RowU g bs (w.setRow b cs) := by
  unfold RowU at h ⊢
  rw [Go.setRow_other _ _ _ _ hne]; exact h
theorem RowU.rd {g cap : Nat} {bs : List Int} {w : World} (h : RowU g bs w) (hc : bs.length ≤ cap) : RdB w (.slice (some ⟨g, 0, none⟩) bs.length cap) bs :=
  .inr ⟨_, g, 0, cap, rfl, hc, fun _ => rfl, fun j hj => by rw [Nat.zero_add]; exact h.cell j hj⟩
/-- slices.Reverse at a row of 32 bytes -/
theorem rev_c (g cap : Nat) (bs : List Int) (w : World) (h : RowU g bs w) (hl : bs.length ≤ 1000000) :
    Calls Tryd.prog 33 #[.slice (some ⟨g, 0, none⟩) bs.length cap] w fun e w' => e = .returned (.tuple #[]) ∧ RowU g bs.reverse w' ∧ ∀ B w0, Below B w0 w → B ≤ g → Below B w0 w' := by
  have hH : Holds (Value.int .u8) w g 0 bs.toArray := fun j hj => by
    have hj' : j < bs.length := by simpa using hj
    refine ⟨?_, by rw [Nat.zero_add]; exact h.frozen j⟩
    rw [Nat.zero_add, h.cell j hj']
    simp [hj']
  refine (AnyE.slices_Reverse revLays (Value.int .u8) (fun _ => rfl) g 0 cap bs w hH (by omega)).mono ?_
  rintro e w' ⟨rfl, n, rfl⟩
  refine ⟨rfl, ?_, fun B w0 hb hB => Lib.below_putRow hb hB⟩
  unfold RowU at h ⊢
  have hlt : g < w.heap.size := RowU.lt h
  have h' : w.heap[g] = .cells (bs.map (Value.int .u8)).toArray 27 (0, 0) := by
    rw [Array.getElem?_eq_getElem hlt] at h
    injection h
  simp only [putRow, mapBlock, heap_ahead]
  rw [Array.getElem?_eq_getElem (by simpa using hlt), Array.getElem_modify_self, h']
  simp only [onCells]
  congr 2
  unfold putCells
  apply Array.ext
  · simp
  · intro i h1 h2
    have hi : i < bs.length := by simpa using h1
    simp [hi]

set_option maxRecDepth 100000 in
theorem turned_c (hs : List Int) (w : World) (hl : hs.length = 32) (hb : Bytes hs) :
    Calls Tryd.prog 26 #[hsh hs] w fun e w' => e = .returned (.string (strOfNums (hexI hs.reverse))) ∧ Below w.heap.size w w' := by
  have hr := RowU.new w hs
  have kr := rev_c w.heap.size 32 hs _ hr (by omega)
  rw [hl] at kr
  have hrl : hs.reverse.length = 32 := by simp [hl]
  have hbr : Bytes hs.reverse := fun b hb' => hb b (by simpa using hb')
  have HL := Lib.hid hrl
  clear hrl hl
  unfold hsh
  go_enter Tryd.func26, Tryd.ntmps26
  go_wp2_with first
    | (go_at_call 33; with_reducible refine kr.mono ?_; rintro e w1 ⟨rfl, hr1, hB⟩; have hb1 := hB w.heap.size w (bel_alloc (Below.refl _ w) _) (Nat.le_refl _); have krd := hr1.rd (cap := 32) (by have := HL.out; omega); rw [HL.out] at krd)
    | (go_at_call 18; with_reducible refine (hex_c _ _ _ krd hbr (by have := HL.out; omega)).mono ?_; rintro e w2 ⟨rfl, hb2⟩)
  go_ret
  exact ⟨rfl, bel_call hb1 hb2⟩
end Go.Proofs.YtoeooabaofpngaaDoor
