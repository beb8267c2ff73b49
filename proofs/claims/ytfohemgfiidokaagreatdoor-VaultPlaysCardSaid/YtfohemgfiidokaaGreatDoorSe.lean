/- The state of a sum: its cells, and what they say. -/
import Derived.Test.YtfohemgfiidokaaGreatDoorSd
import Derived.Laws.IdiomCopy
namespace Go.Proofs.YtfohemgfiidokaaGreatDoor
open Go.RowKit Go.Sort

/-- block g holds these values and is of type T -/
def RowV (T : TypeId) (g : Nat) (vs : List Value) (w : World) : Prop := w.heap[g]? = some (.cells vs.toArray T (0, 0))
theorem RowV.lt {T : TypeId} {g : Nat} {vs : List Value} {w : World} (h : RowV T g vs w) : g < w.heap.size := by
  by_cases hlt : g < w.heap.size
  · exact hlt
  · unfold RowV at h
    rw [Array.getElem?_eq_none (by omega)] at h; cases h
theorem RowV.below {T : TypeId} {B g : Nat} {vs : List Value} {w w' : World} (h : RowV T g vs w) (hb : Below B w w') (hg : g < B) : RowV T g vs w' := by
  unfold RowV; rw [hb.block g hg]; exact h
theorem RowV.call {T : TypeId} {g : Nat} {vs : List Value} {w w' : World} (h : RowV T g vs w) (hb : Below w.heap.size w w') : RowV T g vs w' := h.below hb h.lt
theorem RowV.cell {T : TypeId} {g : Nat} {vs : List Value} {w : World} (h : RowV T g vs w) (j : Nat) : w.cell? ⟨g, j, none⟩ = vs[j]? := by
  unfold RowV at h
  simp [World.cell?, h]
theorem RowV.frozen {T : TypeId} {g : Nat} {vs : List Value} {w : World} (h : RowV T g vs w) (j : Nat) : w.frozen? ⟨g, j, none⟩ = false := by
  unfold RowV at h
  simp [World.frozen?, h]
theorem RowV.set {T : TypeId} {g : Nat} {vs : List Value} {w : World} (h : RowV T g vs w) (j : Nat) (v : Value) : RowV T g (vs.set j v) (w.setCell ⟨g, j, none⟩ v) := by
  have hl := h.lt
  unfold RowV at h ⊢
  have e : (Array.setIfInBounds vs.toArray j v) = (vs.set j v).toArray := by rw [List.setIfInBounds_toArray]
  rw [← e]
  have h' : w.heap[g] = .cells vs.toArray T (0, 0) := by
    rw [Array.getElem?_eq_getElem hl] at h
    injection h
  simp [World.setCell, hl, Array.getElem_modify_self, h']
theorem RowV.new (T : TypeId) (w : World) (vs : List Value) : RowV T w.heap.size vs (w.alloc (.cells vs.toArray T)) := heap_alloc_new w _
theorem RowV.set_other {T : TypeId} {g b o : Nat} {vs : List Value} {w : World} (h : RowV T g vs w) (hne : g ≠ b) (x : Value) : RowV T g vs (w.setCell ⟨b, o, none⟩ x) := by
  unfold RowV at h ⊢
  rw [← h]
  simp [World.setCell, Array.getElem?_modify, Ne.symm hne]
theorem RowV.alloc {T : TypeId} {g : Nat} {vs : List Value} {w : World} (h : RowV T g vs w) (o : Obj) : RowV T g vs (w.alloc o) := by
  have := h.lt
  unfold RowV at h ⊢
  rw [Below.heap_alloc _ _ _ (by omega)]; exact h
theorem RowV.setRow_other {T : TypeId} {g b : Nat} {vs : List Value} {w : World} (h : RowV T g vs w) (hne : g ≠ b) (cs : Array Value) : RowV T g vs (w.setRow b cs) := by
  unfold RowV at h ⊢
  rw [Go.setRow_other _ _ _ _ hne]; exact h
theorem splice_cons {α : Type} (L : List α) (o : Nat) (v : α) (r : List α) (h : o < L.length) : splice (L.set o v) (o + 1) r = splice L o (v :: r) := by
  unfold splice
  have e1 : (L.set o v).take (o + 1) = L.take o ++ [v] := by
    rw [List.take_set, List.take_add_one, List.getElem?_eq_getElem h, Option.toList_some, List.set_append, if_neg (by rw [List.length_take]; omega), List.length_take, Nat.min_eq_left (by omega), Nat.sub_self, List.set_cons_zero]
  rw [e1, List.drop_set_of_lt (by omega)]
  simp [Nat.add_comm, Nat.add_left_comm]
theorem RowV.setCells {T : TypeId} {g : Nat} : ∀ (cs : List Value) (o : Nat) {vs : List Value} {w : World}, RowV T g vs w → o + cs.length ≤ vs.length → RowV T g (splice vs o cs) (w.setCells g o cs)
  | [], o, vs, w, h, _ => by
    have e : splice vs o [] = vs := by simp [splice]
    rw [e]; exact h
  | v :: r, o, vs, w, h, hl => by
    rw [List.length_cons] at hl
    have := RowV.setCells r (o + 1) (h.set o v) (by rw [List.length_set]; omega)
    rw [splice_cons _ _ _ _ (by omega)] at this
    exact this
theorem RowV.setCells_other {T : TypeId} {g b : Nat} {vs : List Value} {w : World} (h : RowV T g vs w) (hne : g ≠ b) (cs : List Value) (o : Nat) : RowV T g vs (w.setCells b o cs) := by
  induction cs generalizing o w with
  | nil => exact h
  | cons v r ih => exact ih (h.set_other hne v) (o + 1)
theorem RowV.there {T : TypeId} {g : Nat} {vs : List Value} {w : World} (h : RowV T g vs w) (o n : Nat) (hn : o + n ≤ vs.length) : w.there g o n := fun j hj => by
  rw [h.cell, h.frozen, List.getElem?_eq_getElem (by omega)]; exact ⟨rfl, rfl⟩
theorem below_setCells {B : Nat} {a : World} (b : Nat) (hb : B ≤ b) : ∀ (vs : List Value) (o : Nat) {w : World}, Below B a w → Below B a (w.setCells b o vs)
  | [], _, _, h => h
  | v :: r, o, _, h => below_setCells b hb r (o + 1) (h.setCell (p := ⟨b, o, none⟩) hb v)
theorem splice_mid {α : Type} (A B C : List α) (r : Nat) (cs : List α) (h : r + cs.length ≤ B.length) : splice (A ++ (B ++ C)) (A.length + r) cs = A ++ (splice B r cs ++ C) := by
  unfold splice
  rw [List.take_length_add_append, List.take_append_of_le_length (by omega), Nat.add_assoc, List.drop_length_add_append, List.drop_append_of_le_length (by omega)]
  simp [List.append_assoc]
theorem splice_map {α β : Type} (f : α → β) (B : List α) (r : Nat) (cs : List α) : splice (B.map f) r (cs.map f) = (splice B r cs).map f := by
  simp [splice, List.map_take, List.map_drop]

/-- the cells of a state -/
def stV (hs pc : List Int) (n : Int) : List Value := [.bool true] ++ (hs.map (Value.int .u32) ++ (pc.map (Value.int .u8) ++ [.int .u64 n]))
theorem stV_len (hs pc : List Int) (n : Int) (hh : hs.length = 8) (hp : pc.length = 64) : (stV hs pc n).length = 74 := by simp [stV, hh, hp]
theorem stV_n (hs pc : List Int) (n : Int) (hh : hs.length = 8) (hp : pc.length = 64) : (stV hs pc n)[73]? = some (.int .u64 n) := by
  unfold stV
  rw [List.getElem?_append_right (by simp), List.getElem?_append_right (by simp [hh]), List.getElem?_append_right (by simp [hh, hp])]
  simp [hh, hp]
theorem stV_h (hs pc : List Int) (n : Int) (j : Nat) (hj : j < hs.length) : (stV hs pc n)[1 + j]? = some (.int .u32 (hs[j]?.getD 0)) := by
  unfold stV
  rw [List.getElem?_append_right (by simp), List.getElem?_append_left (by simp; omega)]
  simp [hj]
theorem stV_p (hs pc : List Int) (n : Int) (j : Nat) (hh : hs.length = 8) (hj : j < pc.length) : (stV hs pc n)[9 + j]? = some (.int .u8 (pc[j]?.getD 0)) := by
  unfold stV
  rw [List.getElem?_append_right (by simp; omega), List.getElem?_append_right (by simp [hh]; try omega), List.getElem?_append_left (by simp [hh]; omega)]
  simp only [List.length_map, List.length_singleton, hh, show 9 + j - 1 - 8 = j by omega, List.getElem?_map, List.getElem?_eq_getElem hj]
  rfl
theorem stV_setn (hs pc : List Int) (n m : Int) (hh : hs.length = 8) (hp : pc.length = 64) : (stV hs pc n).set 73 (.int .u64 m) = stV hs pc m := by
  unfold stV
  rw [List.set_append, if_neg (by simp), List.set_append, if_neg (by simp [hh]), List.set_append, if_neg (by simp [hh, hp])]
  simp [hh, hp]
theorem stV_pc (hs pc ys : List Int) (n : Int) (r : Nat) (hh : hs.length = 8) (h : r + ys.length ≤ pc.length) : splice (stV hs pc n) (9 + r) (ys.map (Value.int .u8)) = stV hs (splice pc r ys) n := by
  have e : stV hs pc n = ([.bool true] ++ hs.map (Value.int .u32)) ++ (pc.map (Value.int .u8) ++ [.int .u64 n]) := by unfold stV; rw [List.append_assoc]
  rw [e, show 9 + r = ([Value.bool true] ++ hs.map (Value.int .u32)).length + r by simp [hh], splice_mid _ _ _ _ _ (by simpa using h), splice_map]
  unfold stV; rw [List.append_assoc]
theorem stV_hs (hs gs pc : List Int) (n : Int) (hh : hs.length = 8) (hg : gs.length = 8) : splice (stV hs pc n) 1 (gs.map (Value.int .u32)) = stV gs pc n := by
  have := splice_mid [Value.bool true] (hs.map (Value.int .u32)) (pc.map (Value.int .u8) ++ [.int .u64 n]) 0 (gs.map (Value.int .u32)) (by simp [hh, hg])
  unfold stV
  rw [show (1 : Nat) = [Value.bool true].length + 0 by rfl, this, splice_map]
  congr 3
  unfold splice
  simp [hh, hg]
theorem stV_one (hs pc : List Int) (n : Int) : ∀ v ∈ stV hs pc n, v.oneCell' = true := by
  intro v hv
  unfold stV at hv
  rcases List.mem_append.1 hv with h | h
  · rw [List.mem_singleton.1 h]; rfl
  rcases List.mem_append.1 h with h | h
  · exact oneCell_map' _ _ v h
  rcases List.mem_append.1 h with h | h
  · exact oneCell_map' _ _ v h
  · rw [List.mem_singleton.1 h]; rfl
/-- what a state says of the bytes so far -/
structure StOk (hs pc : List Int) (n : Int) (xs : List Int) : Prop where
  h : hs = blk xs (xs.length / 64)
  l : pc.length = 64
  b : Bytes pc
  p : pc.take (xs.length % 64) = xs.drop (64 * (xs.length / 64))
  n : n = xs.length
theorem StOk.hl {hs pc xs : List Int} {n : Int} (s : StOk hs pc n xs) : hs.length = 8 := by rw [s.h]; exact blk_len _ _
theorem StOk.hw {hs pc xs : List Int} {n : Int} (s : StOk hs pc n xs) : Wds hs := by rw [s.h]; exact blk_wds _ _
theorem st_zero : StOk h0L (List.replicate 64 0) 0 [] := ⟨rfl, by simp, by intro b hb; simp at hb; omega, by simp, rfl⟩
theorem splice_bytes {pc ys : List Int} (r : Nat) (h : Bytes pc) (hy : Bytes ys) : Bytes (splice pc r ys) := (h.take r).append (hy.append (h.drop _))
/-- some bytes more, and the piece is not full -/
theorem StOk.some {hs pc xs ys : List Int} {n : Int} (s : StOk hs pc n xs) (hy : Bytes ys) (hf : xs.length % 64 + ys.length ≤ 64) (hne : (xs.length + ys.length) % 64 ≠ 0) : StOk hs (splice pc (xs.length % 64) ys) (xs ++ ys).length (xs ++ ys) := by
  have hq : (xs ++ ys).length / 64 = xs.length / 64 := by rw [List.length_append]; omega
  have hr : (xs ++ ys).length % 64 = xs.length % 64 + ys.length := by rw [List.length_append]; omega
  refine ⟨?_, ?_, splice_bytes _ s.b hy, ?_, rfl⟩
  · rw [hq, blk_append _ _ _ (by omega)]; exact s.h
  · rw [length_splice _ _ _ (by rw [s.l]; omega)]; exact s.l
  · rw [hr, hq, List.drop_append_of_le_length (by omega), ← s.p]
    unfold splice
    have hl : (pc.take (xs.length % 64)).length = xs.length % 64 := by rw [List.length_take, s.l]; omega
    rw [← List.append_assoc, List.take_append_of_le_length (by rw [List.length_append]; omega), List.take_of_length_le (by rw [List.length_append]; omega)]
/-- some bytes more, and the piece is full -/
theorem StOk.full {hs pc xs ys : List Int} {n : Int} (s : StOk hs pc n xs) (hy : Bytes ys) (hf : xs.length % 64 + ys.length = 64) : StOk (comp hs (splice pc (xs.length % 64) ys)) (splice pc (xs.length % 64) ys) (xs ++ ys).length (xs ++ ys) := by
  have hq : (xs ++ ys).length / 64 = xs.length / 64 + 1 := by rw [List.length_append]; omega
  have hr : (xs ++ ys).length % 64 = 0 := by rw [List.length_append]; omega
  have hp : splice pc (xs.length % 64) ys = (xs ++ ys).drop (64 * (xs.length / 64)) := by
    rw [List.drop_append_of_le_length (by omega), ← s.p]
    unfold splice
    rw [List.drop_of_length_le (by rw [s.l]; omega), List.append_nil]
  have hl : (splice pc (xs.length % 64) ys).length = 64 := by rw [length_splice _ _ _ (by rw [s.l]; omega)]; exact s.l
  refine ⟨?_, hl, splice_bytes _ s.b hy, ?_, rfl⟩
  · rw [hq]
    show _ = comp (blk (xs ++ ys) (xs.length / 64)) (((xs ++ ys).drop (64 * (xs.length / 64))).take 64)
    rw [blk_append _ _ _ (by omega), ← s.h, ← hp, List.take_of_length_le (by omega)]
  · rw [hr, List.take_zero, List.drop_of_length_le (by rw [hq, List.length_append]; omega)]
end Go.Proofs.YtfohemgfiidokaaGreatDoor
