/- Small tools: a block of four cells behind a call; what a drawn region that calls and lays a block keeps. -/
import Derived.Test.YtefnlmiephombaaOrd
import Derived.Deep.DeepCutAuto
import Derived.Deep.RegionHeld3
namespace Go.Proofs.Ytefnlmiephombaa
open Go.RowKit Go.Sort

theorem Cells4.call {w w' : World} {b : Nat} {v : Int} (h : Cells4 w b v) (hb : Below w.heap.size w w') : Cells4 w' b v := h.below hb h.lt

/-- a store into a block that is not older than 'B' -/
theorem bel_set {a w : World} (h : Below a.heap.size a w) (b o : Nat) (hb : a.heap.size ≤ b) (v : Value) : Below a.heap.size a (w.setCell ⟨b, o, none⟩ v) := h.setCell hb v

/-- the four cells of a number in a world behind -/
theorem cells_of_below {W w' : World} {b : Nat} {v : Int} (h : Cells4 W b v) (hb : Below W.heap.size W w') :
    w'.cell? ⟨b, 0, none⟩ = some (.int .u64 (L0 v)) ∧ w'.cell? ⟨b, 1, none⟩ = some (.int .u64 (L1 v)) ∧ w'.cell? ⟨b, 2, none⟩ = some (.int .u64 (L2 v)) ∧ w'.cell? ⟨b, 3, none⟩ = some (.int .u64 (L3 v)) :=
  have k := h.call hb
  ⟨k.c0, k.c1, k.c2, k.c3⟩


theorem cells4_zero (w : World) : Cells4 (w.alloc (.cells #[.int .u64 0, .int .u64 0, .int .u64 0, .int .u64 0] 24)) w.heap.size 0 := cells4_new w 0
theorem cells4_zero' (w : World) (b : Nat) (hb : b = w.heap.size) : Cells4 (w.alloc (.cells #[.int .u64 0, .int .u64 0, .int .u64 0, .int .u64 0] 24)) b 0 := hb ▸ cells4_zero w
theorem cells4_puts {w : World} {b : Nat} {u : Int} (h : Cells4 w b u) (v : Int) :
    Cells4 ((((w.setCell ⟨b, 0, none⟩ (.int .u64 (L0 v))).setCell ⟨b, 1, none⟩ (.int .u64 (L1 v))).setCell ⟨b, 2, none⟩ (.int .u64 (L2 v))).setCell ⟨b, 3, none⟩ (.int .u64 (L3 v))) b v := h.put v
theorem size_al (w : World) (o : Obj) : w.heap.size + 1 = (w.alloc o).heap.size := by simp
theorem size_set4 (w : World) (a b c d : Addr) (u v x y : Value) : w.heap.size = ((((w.setCell a u).setCell b v).setCell c x).setCell d y).heap.size := by simp
end Go.Proofs.Ytefnlmiephombaa
