/- Four cells of a block that hold a number of 256 bits; what keeps them. And: to go on from a world of which only some facts are kept. -/
import Derived.Test.YtefnlmiephombaaOps
import Derived.Lib.QuietBelow
import Derived.Laws.CopyRow
namespace Go.Proofs.Ytefnlmiephombaa
open Go.RowKit

/-- Go on from a world of which only 'Φ' is known. -/
theorem wp_gen {P : Program} {c : Code} {Q : Exit → Act → World → Prop} {a : Act} {W0 : World} (Φ : World → Prop) (h0 : Φ W0) (h : ∀ W, Φ W → c.wp P Q a W) : c.wp P Q a W0 := h W0 h0

theorem bcell {W w1 : World} (hb : Below W.heap.size W w1) : (∀ b o, b < W.heap.size → w1.cell? ⟨b, o, none⟩ = W.cell? ⟨b, o, none⟩) ∧ (∀ b o, b < W.heap.size → w1.frozen? ⟨b, o, none⟩ = W.frozen? ⟨b, o, none⟩) :=
  ⟨fun b o h => hb.cell (p := ⟨b, o, none⟩) h, fun b o h => hb.frozen (p := ⟨b, o, none⟩) h⟩

structure Cells4 (w : World) (b : Nat) (v : Int) : Prop where
  c0 : w.cell? ⟨b, 0, none⟩ = some (.int .u64 (L0 v))
  c1 : w.cell? ⟨b, 1, none⟩ = some (.int .u64 (L1 v))
  c2 : w.cell? ⟨b, 2, none⟩ = some (.int .u64 (L2 v))
  c3 : w.cell? ⟨b, 3, none⟩ = some (.int .u64 (L3 v))
  f0 : w.frozen? ⟨b, 0, none⟩ = false
  f1 : w.frozen? ⟨b, 1, none⟩ = false
  f2 : w.frozen? ⟨b, 2, none⟩ = false
  f3 : w.frozen? ⟨b, 3, none⟩ = false

theorem Cells4.lt {w : World} {b : Nat} {v : Int} (h : Cells4 w b v) : b < w.heap.size := block_lt_of_cell h.c0

/-- the block that a 'box' or a store into a new variable lays -/
theorem cells4_new (w : World) (v : Int) : Cells4 (w.alloc (.cells #[.int .u64 (L0 v), .int .u64 (L1 v), .int .u64 (L2 v), .int .u64 (L3 v)] 24)) w.heap.size v := by
  constructor <;> simp [go_sem]

theorem cells4_new' (w : World) (b : Nat) (v : Int) (hb : b = w.heap.size) : Cells4 (w.alloc (.cells #[.int .u64 (L0 v), .int .u64 (L1 v), .int .u64 (L2 v), .int .u64 (L3 v)] 24)) b v := hb ▸ cells4_new w v
theorem Cells4.below {B : Nat} {w w' : World} {b : Nat} {v : Int} (h : Cells4 w b v) (hb : Below B w w') (hl : b < B) : Cells4 w' b v := by
  constructor
  · rw [hb.cell hl]; exact h.c0
  · rw [hb.cell hl]; exact h.c1
  · rw [hb.cell hl]; exact h.c2
  · rw [hb.cell hl]; exact h.c3
  · rw [hb.frozen hl]; exact h.f0
  · rw [hb.frozen hl]; exact h.f1
  · rw [hb.frozen hl]; exact h.f2
  · rw [hb.frozen hl]; exact h.f3

theorem Cells4.alloc {w : World} {b : Nat} {v : Int} (h : Cells4 w b v) (o : Obj) : Cells4 (w.alloc o) b v :=
  h.below ((Below.refl w.heap.size w).alloc (Nat.le_refl _) o) h.lt
theorem Cells4.drew {w : World} {b : Nat} {v : Int} (h : Cells4 w b v) : Cells4 w.drew b v :=
  h.below (Below.refl w.heap.size w).drew h.lt

/-- a store of all four cells -/
def put4 (w : World) (b : Nat) (v : Int) : World :=
  (((w.setCell ⟨b, 0, none⟩ (.int .u64 (L0 v))).setCell ⟨b, 1, none⟩ (.int .u64 (L1 v))).setCell ⟨b, 2, none⟩ (.int .u64 (L2 v))).setCell ⟨b, 3, none⟩ (.int .u64 (L3 v))

theorem Cells4.put {w : World} {b : Nat} {u : Int} (h : Cells4 w b u) (v : Int) : Cells4 (put4 w b v) b v := by
  obtain ⟨c0, c1, c2, c3, f0, f1, f2, f3⟩ := h
  unfold put4
  constructor <;> simp [go_sem, *]
theorem Cells4.put_other {w : World} {b b' : Nat} {u : Int} (h : Cells4 w b u) (hne : b ≠ b') (v : Int) : Cells4 (put4 w b' v) b u := by
  obtain ⟨c0, c1, c2, c3, f0, f1, f2, f3⟩ := h
  have hne' : b' ≠ b := fun e => hne e.symm
  unfold put4
  constructor <;> simp [go_sem, *]
/-- a store into the lowest cell -/
theorem Cells4.set0 {w : World} {b : Nat} {u : Int} (h : Cells4 w b u) (v : Int) (h1 : L1 v = L1 u) (h2 : L2 v = L2 u) (h3 : L3 v = L3 u) : Cells4 (w.setCell ⟨b, 0, none⟩ (.int .u64 (L0 v))) b v := by
  obtain ⟨c0, c1, c2, c3, f0, f1, f2, f3⟩ := h
  constructor <;> simp [go_sem, *]
theorem Cells4.set1 {w : World} {b : Nat} {u : Int} (h : Cells4 w b u) (v : Int) (h0 : L0 v = L0 u) (h2 : L2 v = L2 u) (h3 : L3 v = L3 u) : Cells4 (w.setCell ⟨b, 1, none⟩ (.int .u64 (L1 v))) b v := by
  obtain ⟨c0, c1, c2, c3, f0, f1, f2, f3⟩ := h
  constructor <;> simp [go_sem, *]
theorem Cells4.set2 {w : World} {b : Nat} {u : Int} (h : Cells4 w b u) (v : Int) (h0 : L0 v = L0 u) (h1 : L1 v = L1 u) (h3 : L3 v = L3 u) : Cells4 (w.setCell ⟨b, 2, none⟩ (.int .u64 (L2 v))) b v := by
  obtain ⟨c0, c1, c2, c3, f0, f1, f2, f3⟩ := h
  constructor <;> simp [go_sem, *]
theorem Cells4.set3 {w : World} {b : Nat} {u : Int} (h : Cells4 w b u) (v : Int) (h0 : L0 v = L0 u) (h1 : L1 v = L1 u) (h2 : L2 v = L2 u) : Cells4 (w.setCell ⟨b, 3, none⟩ (.int .u64 (L3 v))) b v := by
  obtain ⟨c0, c1, c2, c3, f0, f1, f2, f3⟩ := h
  constructor <;> simp [go_sem, *]
theorem Cells4.set_other {w : World} {b b' o : Nat} {u : Int} (h : Cells4 w b u) (hne : b ≠ b') (x : Value) : Cells4 (w.setCell ⟨b', o, none⟩ x) b u := by
  obtain ⟨c0, c1, c2, c3, f0, f1, f2, f3⟩ := h
  have hne' : b' ≠ b := fun e => hne e.symm
  constructor <;> simp [go_sem, *]
theorem put4_size (w : World) (b : Nat) (v : Int) : (put4 w b v).heap.size = w.heap.size := by unfold put4; simp [World.setCell]
theorem below_put4 {B : Nat} {a w : World} (h : Below B a w) {b : Nat} (hb : B ≤ b) (v : Int) : Below B a (put4 w b v) := by
  unfold put4
  exact (((h.setCell (p := ⟨b, 0, none⟩) hb _).setCell (p := ⟨b, 1, none⟩) hb _).setCell (p := ⟨b, 2, none⟩) hb _).setCell (p := ⟨b, 3, none⟩) hb _
/-- the facts on a block in every world of a quiet region's class -/
theorem Cells4.regrown {w : World} {b : Nat} {v : Int} (h : Cells4 w b v) (d : Nat) (os : Array Obj) : Cells4 (Go.Sort.grow (redrawn w d) os) b v :=
  h.below (below_regrown w d os) h.lt
theorem run_storeVar_row {P : Program} (w : World) (g : Nat) (t ty : TypeId) (cur vs : Array Value) (hg : w.heap[g]? = some (.cells cur t (0, 0)))
    (hi : (P.info? ty).map (·.size) = some vs.size) (hc : cur.size = vs.size) (h1 : ∀ v ∈ vs.toList, v.oneCell' = true) :
    (storeVar ty ⟨g, 0, none⟩ (.agg vs)).run P w = .ok () (w.setRow g vs) := by
  have hs : (storeCells ⟨g, 0, none⟩ vs.toList 0).run P w = .ok () (w.setRow g vs) := by
    have := run_storeCells_at (P := P) g 0 t vs.toList 0 cur w hg (by simp [hc]) h1
    simp only [Nat.zero_add, List.take_zero, List.nil_append, Array.length_toList] at this
    rw [List.drop_of_length_le (by simp [hc]), List.append_nil] at this
    exact this
  cases hq : P.info? ty with
  | none => simp [hq] at hi
  | some i =>
    have hs' : i.size = vs.size := by simpa [hq] using hi
    simp [storeVar, Value.cells, sizeOf, typeInfo, hq, hs', hs]

theorem wp_store_row {P : Program} {o : Oper} {a : Act} {w : World} {K : Act → World → Prop} {Q : Exit → Act → World → Prop} (ty : TypeId) (x y : Operand) (ho : o.op = .store ty x y)
    (g : Nat) (hx : a.eval x = .pointer (some ⟨g, 0, none⟩)) (vs : Array Value) (hy : a.eval y = .agg vs) (t : TypeId) (cur : Array Value) (hg : w.heap[g]? = some (.cells cur t (0, 0)))
    (hi : (P.info? ty).map (·.size) = some vs.size) (hc : cur.size = vs.size) (h1 : ∀ v ∈ vs.toList, v.oneCell' = true)
    (h : K (a.put o.dst undef) (w.setRow g vs)) : o.wp P a w K Q := by
  unfold Oper.wp execOp
  simp only [ho, hx, hy, Instr.storeAt, Instr.sureAddr, Sem.run_bind, Sem.run_pure, Result.andThen_ok, run_storeVar_row w g t ty cur vs hg hi hc h1]
  exact h
theorem wpList_store_row {P : Program} {ops : Array Oper} {rest : List Oper} {o : Oper} {a : Act} {w : World} {Q : Exit → Act → World → Prop} (hgd : o.guard = none) (ty : TypeId) (x y : Operand) (ho : o.op = .store ty x y)
    (g : Nat) (hx : a.eval x = .pointer (some ⟨g, 0, none⟩)) (vs : Array Value) (hy : a.eval y = .agg vs) (t : TypeId) (cur : Array Value) (hg : w.heap[g]? = some (.cells cur t (0, 0)))
    (hi : (P.info? ty).map (·.size) = some vs.size) (hc : cur.size = vs.size) (h1 : ∀ v ∈ vs.toList, v.oneCell' = true)
    (h : wpList P ops Q rest (a.put o.dst undef) (w.setRow g vs)) : wpList P ops Q (o :: rest) a w :=
  wpList_plain hgd fun _ hK => wp_store_row ty x y ho g hx vs hy t cur hg hi hc h1 (hK _ _ h)
end Go.Proofs.Ytefnlmiephombaa
