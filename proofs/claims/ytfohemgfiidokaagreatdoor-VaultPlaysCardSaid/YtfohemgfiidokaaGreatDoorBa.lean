/- Rows of bytes. -/
import Derived.Test.YtfohemgfiidokaaGreatDoorProg
import Derived.WalkKit
import Derived.WalkSpells
import Derived.WalkLawsBesides
import Derived.Outline
import Derived.Lib.Hide
import Derived.Lib.SliceRun
import Derived.Sort.Grow
import Derived.Below
import Derived.Deep.Cut
import Derived.Deep.RegionHeld3
import Derived.Deep.QuietTactic
import Derived.BigQuiet
import Derived.Laws.OwnMore
import Derived.Deep.AppendLies
import Derived.Deep.MidRow
import Derived.OwnWalk
namespace Go.Proofs.YtfohemgfiidokaaGreatDoor
open Go.RowKit Go.Sort

theorem bel_alloc {a w : World} (h : Below a.heap.size a w) (o : Obj) : Below a.heap.size a (w.alloc o) := h.alloc h.size o
theorem bel_call {a w w' : World} (h : Below a.heap.size a w) (k : Below w.heap.size w w') : Below a.heap.size a w' := h.trans (k.mono h.size)
theorem wp_gen {P : Program} {c : Code} {Q : Exit → Act → World → Prop} {a : Act} {W0 : World} (Φ : World → Prop) (h0 : Φ W0) (h : ∀ W, Φ W → c.wp P Q a W) : c.wp P Q a W0 := h W0 h0
theorem Tryz.info5 : (Tryz.prog.info? 5).map (fun i => (i.zero, i.size, i.bytes)) = some (some (.int .u8 0), 1, 1) := by kernel_rfl

/-- bytes as cells -/
def u8s (xs : List Int) : List Value := xs.map (Value.int .u8)
/-- a row of bytes of one's own, from block B on -/
def RowO (w : World) (B : Nat) (v : Value) (xs : List Int) : Prop := w.ownsRow B 5 1 v xs.length (u8s xs)
/-- a slice of bytes that may be read -/
def RdB (w : World) (v : Value) (xs : List Int) : Prop :=
  (v = .slice none 0 0 ∧ xs = []) ∨ ∃ a g o cap, v = .slice (some a) xs.length cap ∧ xs.length ≤ cap ∧ (0 < xs.length → a = ⟨g, o, none⟩) ∧ ∀ j, j < xs.length → w.cell? ⟨g, o + j, none⟩ = some (.int .u8 (xs[j]?.getD 0))
theorem u8s_one (xs : List Int) : ∀ u ∈ u8s xs, u.oneCell' = true := by
  intro u hu
  obtain ⟨x, _, rfl⟩ := List.mem_map.1 hu
  rfl
theorem rd_cell {w : World} {a : Addr} {g o : Nat} {xs : List Int} (ha : 0 < xs.length → a = ⟨g, o, none⟩) (h : ∀ j, j < xs.length → w.cell? ⟨g, o + j, none⟩ = some (.int .u8 (xs[j]?.getD 0))) (n : Nat) : ∀ j u, (u8s (xs.take n))[j]? = some u → w.cell? (a.add j) = some u := by
  intro j u hu
  have hj : j < (xs.take n).length := by
    by_cases hlt : j < (xs.take n).length
    · exact hlt
    · rw [List.getElem?_eq_none (by simp [u8s] at hlt ⊢; omega)] at hu; cases hu
  have hj2 : j < xs.length := by rw [List.length_take] at hj; omega
  rw [ha (by omega), Addr.add_lit, h j hj2]
  simp only [u8s, List.getElem?_map] at hu
  rw [List.getElem?_take, if_pos (by rw [List.length_take] at hj; omega), List.getElem?_eq_getElem hj2] at hu
  rw [List.getElem?_eq_getElem hj2]
  simpa using hu
theorem RdB.keep {w w' : World} {v : Value} {xs : List Int} (h : RdB w v xs) (hb : Below w.heap.size w w') : RdB w' v xs := by
  rcases h with h | ⟨a, g, o, cap, h1, h2, h3, h4⟩
  · exact .inl h
  · exact .inr ⟨a, g, o, cap, h1, h2, h3, fun j hj => by rw [hb.cell (block_lt_of_cell (h4 j hj))]; exact h4 j hj⟩

theorem wpList_append_none {P : Program} {w : World} {ops : Array Oper} {rest : List Oper} {o : Oper} {a : Act} {Q : Exit → Act → World → Prop} (hgd : o.guard = none) (s x : Operand) (t : TypeId)
    (ho : o.op = .call { callee := .builtin .append, args := #[s, x], argTypes := #[t, t] })
    (base : Nat) (e : TypeId) (i : TypeInfo) (size : Nat) (ht : P.underlying t = some (.slice e)) (hi : P.info? e = some i)
    (v : Value) (n : Nat) (xs : List Value) (hs : a.eval s = v) (hown : w.ownsRow base e size v n xs) (hx : a.eval x = .slice none 0 0)
    (h : wpList P ops Q rest (a.put o.dst v) w) : wpList P ops Q (o :: rest) a w :=
  wpList_plain hgd fun _ hK => by
    have hr := run_append_owned_none (w := w) (P := P) base t o.type e i size ht hi v n xs hown
    unfold Oper.wp execOp
    simp only [ho, resolve, invoke, builtin, Sem.run_bind, Sem.run_pure, Result.andThen_ok, List.map_toArray, List.map_cons, List.map_nil, hs, hx, hr]
    exact hK _ _ h
theorem ownsRow_alloc {w : World} {B : Nat} {e : TypeId} {size n : Nat} {v : Value} {xs : List Value} (h : w.ownsRow B e size v n xs) (x : Obj) : (w.alloc x).ownsRow B e size v n xs := by
  obtain ⟨h1, h2⟩ := h
  refine ⟨h1, ?_⟩
  rcases h2 with h2 | ⟨g, cap, cur, e1, e2, e3, e4⟩
  · exact .inl h2
  · have hg : g < w.heap.size := by
      by_cases hlt : g < w.heap.size
      · exact hlt
      · rw [Array.getElem?_eq_none (by omega)] at e3; cases e3
    exact .inr ⟨g, cap, cur, e1, e2, by rw [Below.heap_alloc _ _ _ (by omega)]; exact e3, e4⟩
theorem ownsRow_keep {w w' : World} {B : Nat} {e : TypeId} {size n : Nat} {v : Value} {xs : List Value} (h : w.ownsRow B e size v n xs) (hb : Below w.heap.size w w') : w'.ownsRow B e size v n xs := by
  obtain ⟨h1, h2⟩ := h
  refine ⟨h1, ?_⟩
  rcases h2 with h2 | ⟨g, cap, cur, e1, e2, e3, e4⟩
  · exact .inl h2
  · have hg : g < w.heap.size := by
      by_cases hlt : g < w.heap.size
      · exact hlt
      · rw [Array.getElem?_eq_none (by omega)] at e3; cases e3
    exact .inr ⟨g, cap, cur, e1, e2, by rw [hb.block g hg]; exact e3, e4⟩
theorem RowO.keep {w w' : World} {B : Nat} {v : Value} {xs : List Int} (h : RowO w B v xs) (hb : Below w.heap.size w w') : RowO w' B v xs := ownsRow_keep h hb
theorem grown_below {B k : Nat} {W0 wr w1 : World} {v : Value} {xs : List Value} (hown : wr.ownsRow B 5 1 v k xs) (hB : Below B W0 wr) (hBs : B ≤ wr.heap.size) (hgrow : wr.grownBy w1 v.ownBlock) : Below B W0 w1 :=
  hB.grown hgrow hBs fun j hj => (hown.lt j hj).1

/-- what a row is when it is only read -/
theorem RowO.rd {w : World} {B : Nat} {v : Value} {xs : List Int} (h : RowO w B v xs) : RdB w v xs := by
  have h' : w.ownsRow B 5 1 v xs.length (u8s xs) := h
  obtain ⟨h1, h2⟩ := h
  rcases h2 with ⟨rfl, h2⟩ | ⟨g, cap, cur, rfl, e2, e3, e4, e5, e6, e7⟩
  · exact .inl ⟨rfl, List.length_eq_zero_iff.1 h2⟩
  · refine .inr ⟨_, g, 0, cap, rfl, e4, fun _ => rfl, fun j hj => ?_⟩
    rw [Nat.zero_add, h'.cellAt j (by omega)]
    simp [u8s, List.getElem?_eq_getElem hj]

theorem below_drewN (w : World) (n : Nat) : Below w.heap.size w (w.drewN n) := ⟨rfl, rfl, rfl, Nat.le_refl _, fun _ _ => rfl⟩

theorem RowO.down {w : World} {B C : Nat} {v : Value} {xs : List Int} (h : RowO w B v xs) (hc : C ≤ B) : RowO w C v xs := by
  obtain ⟨h1, h2⟩ := h
  refine ⟨h1, ?_⟩
  rcases h2 with h2 | ⟨g, cap, cur, e1, e2, e3⟩
  · exact .inl h2
  · exact .inr ⟨g, cap, cur, e1, by omega, e3⟩
theorem u8s_append (a b : List Int) : u8s a ++ u8s b = u8s (a ++ b) := by simp [u8s]
theorem u8s_snoc (a : List Int) (b : Int) : u8s a ++ [.int .u8 b] = u8s (a ++ [b]) := by simp [u8s]
theorem RdB.some' {w : World} {v : Value} {xs : List Int} (h : RdB w v xs) (hn : 0 < xs.length) : ∃ a cap, v = .slice (some a) xs.length cap ∧ xs.length ≤ cap ∧ ∀ j u, (u8s xs)[j]? = some u → w.cell? (a.add j) = some u := by
  rcases h with ⟨-, rfl⟩ | ⟨a, g, o, cap, rfl, hc, ha, hcell⟩
  · simp at hn
  · have := rd_cell ha hcell xs.length
    rw [List.take_length] at this
    exact ⟨a, cap, rfl, hc, this⟩

theorem rdb_of_row {w : World} {g cap : Nat} {xs : List Int} {t : TypeId} (h : w.heap[g]? = some (.cells (xs.map (Value.int .u8)).toArray t (0, 0))) (hc : xs.length ≤ cap) : RdB w (.slice (some ⟨g, 0, none⟩) xs.length cap) xs :=
  .inr ⟨_, g, 0, cap, rfl, hc, fun _ => rfl, fun j hj => by
    rw [Nat.zero_add]
    simp [World.cell?, h, hj]⟩
/-- a part of a row that may be read -/
theorem rd_part {w : World} {g o j z cap : Nat} {xs : List Int} (h : ∀ q, q < xs.length → w.cell? ⟨g, o + q, none⟩ = some (.int .u8 (xs[q]?.getD 0))) (hj : j + z ≤ xs.length) (hc : z ≤ cap) : RdB w (.slice (some ⟨g, o + j, none⟩) z cap) ((xs.drop j).take z) := by
  have hlen : ((xs.drop j).take z).length = z := by rw [List.length_take, List.length_drop]; omega
  refine .inr ⟨_, g, o + j, cap, by rw [hlen], by omega, fun _ => rfl, fun q hq => ?_⟩
  rw [hlen] at hq
  rw [show o + j + q = o + (j + q) by omega, h (j + q) (by omega), List.getElem?_take, if_pos hq, List.getElem?_drop]

theorem grownBy_refl (w : World) (row : Option Nat) : w.grownBy w row := ⟨rfl, rfl, rfl, Nat.le_refl _, fun _ _ _ => rfl⟩
/-- append of any bytes that may be read, nil too, to a row of one's own -/
theorem wpList_append_rd {w : World} {ops : Array Oper} {rest : List Oper} {o : Oper} {a : Act} {Q : Exit → Act → World → Prop} (hgd : o.guard = none) (s x : Operand)
    (ho : o.op = .call { callee := .builtin .append, args := #[s, x], argTypes := #[40, 40] }) (base : Nat) (hbase : base ≤ w.heap.size)
    (v : Value) (xs : List Int) (hs : a.eval s = v) (hown : RowO w base v xs) (u : Value) (ys : List Int) (hx : a.eval x = u) (hr : RdB w u ys) (hlen : xs.length + ys.length ≤ 1000000000)
    (h : ∀ v' w', RowO w' base v' (xs ++ ys) → w.grownBy w' v.ownBlock → wpList Tryz.prog ops Q rest (a.put o.dst v') w') : wpList Tryz.prog ops Q (o :: rest) a w := by
  obtain ⟨i0, hi, hz0, hz1, hz2⟩ := info_parts Tryz.info5
  rcases hr with ⟨rfl, rfl⟩ | ⟨a', g, of, cap, rfl, hc, ha, hcell⟩
  · refine wpList_append_none hgd s x 40 ho base 5 i0 1 Tryz.underlying40 hi v xs.length (u8s xs) hs hown hx ?_
    exact h v w (by rw [List.append_nil]; exact hown) (grownBy_refl _ _)
  · have hcs := rd_cell ha hcell ys.length
    rw [List.take_length] at hcs
    refine wpList_append_own _ hgd s x 40 ho base 5 i0 (.int .u8 0) 1 1 Tryz.underlying40 hi hz0 hz1 hz2 rfl (by decide) v xs.length (u8s xs) hs hown a' ys.length cap (u8s ys) hx (by simp [u8s]) hcs (u8s_one ys) (by unfold maxLen; omega) (by omega) hbase ?_
    intro v' w1 hown' hgrow _
    refine h v' w1 ?_ hgrow
    unfold RowO
    rw [List.length_append, show u8s (xs ++ ys) = u8s xs ++ u8s ys by simp [u8s]]
    exact hown'
end Go.Proofs.YtfohemgfiidokaaGreatDoor
