/- Rows of numbers in blocks of their own; arrays loaded, stored, compared; a drawn region's calls one by one. -/
import Derived.Test.YtfohemgfiidokaaGreatDoorBa
import Derived.Laws.CopyOwn
namespace Go.Proofs.YtfohemgfiidokaaGreatDoor
open Go.RowKit Go.Sort
/-- block g holds numbers of a kind, each a cell, and is of type T -/
def RowT (T : TypeId) (κ : IntKind) (g : Nat) (bs : List Int) (w : World) : Prop := w.heap[g]? = some (.cells (bs.map (Value.int κ)).toArray T (0, 0))
theorem RowT.lt {T : TypeId} {κ : IntKind} {g : Nat} {bs : List Int} {w : World} (h : RowT T κ g bs w) : g < w.heap.size := by
  by_cases hlt : g < w.heap.size
  · exact hlt
  · unfold RowT at h
    rw [Array.getElem?_eq_none (by omega)] at h; cases h
theorem RowT.below {T : TypeId} {κ : IntKind} {B g : Nat} {bs : List Int} {w w' : World} (h : RowT T κ g bs w) (hb : Below B w w') (hg : g < B) : RowT T κ g bs w' := by
  unfold RowT; rw [hb.block g hg]; exact h
theorem RowT.call {T : TypeId} {κ : IntKind} {g : Nat} {bs : List Int} {w w' : World} (h : RowT T κ g bs w) (hb : Below w.heap.size w w') : RowT T κ g bs w' := h.below hb h.lt
theorem RowT.cell {T : TypeId} {κ : IntKind} {g : Nat} {bs : List Int} {w : World} (h : RowT T κ g bs w) (j : Nat) (hj : j < bs.length) : w.cell? ⟨g, j, none⟩ = some (.int κ (bs[j]?.getD 0)) := by
  unfold RowT at h
  simp [World.cell?, h, hj]
theorem RowT.frozen {T : TypeId} {κ : IntKind} {g : Nat} {bs : List Int} {w : World} (h : RowT T κ g bs w) (j : Nat) : w.frozen? ⟨g, j, none⟩ = false := by
  unfold RowT at h
  simp [World.frozen?, h]
theorem RowT.set {T : TypeId} {κ : IntKind} {g : Nat} {bs : List Int} {w : World} (h : RowT T κ g bs w) (j : Nat) (v : Int) : RowT T κ g (bs.set j v) (w.setCell ⟨g, j, none⟩ (.int κ v)) := by
  have hl := h.lt
  unfold RowT at h ⊢
  have e : (Array.setIfInBounds (List.map (Value.int κ) bs).toArray j (.int κ v)) = (List.map (Value.int κ) (bs.set j v)).toArray := by
    rw [List.setIfInBounds_toArray, List.map_set]
  rw [← e]
  have h' : w.heap[g] = .cells (bs.map (Value.int κ)).toArray T (0, 0) := by
    rw [Array.getElem?_eq_getElem hl] at h
    injection h
  simp [World.setCell, hl, Array.getElem_modify_self, h']
theorem RowT.new (T : TypeId) (κ : IntKind) (w : World) (bs : List Int) : RowT T κ w.heap.size bs (w.alloc (.cells (bs.map (Value.int κ)).toArray T)) := heap_alloc_new w _
theorem RowT.set_other {T : TypeId} {κ : IntKind} {g b o : Nat} {bs : List Int} {w : World} (h : RowT T κ g bs w) (hne : g ≠ b) (x : Value) : RowT T κ g bs (w.setCell ⟨b, o, none⟩ x) := by
  unfold RowT at h ⊢
  rw [← h]
  simp [World.setCell, Array.getElem?_modify, Ne.symm hne]
theorem RowT.drew {T : TypeId} {κ : IntKind} {g : Nat} {bs : List Int} {w : World} (h : RowT T κ g bs w) : RowT T κ g bs w.drew := h
theorem RowT.alloc {T : TypeId} {κ : IntKind} {g : Nat} {bs : List Int} {w : World} (h : RowT T κ g bs w) (o : Obj) : RowT T κ g bs (w.alloc o) := by
  have := h.lt
  unfold RowT at h ⊢
  rw [Below.heap_alloc _ _ _ (by omega)]; exact h
theorem RowT.setRow_other {T : TypeId} {κ : IntKind} {g b : Nat} {bs : List Int} {w : World} (h : RowT T κ g bs w) (hne : g ≠ b) (cs : Array Value) : RowT T κ g bs (w.setRow b cs) := by
  unfold RowT at h ⊢
  rw [Go.setRow_other _ _ _ _ hne]; exact h
theorem cell_set_drew {W : World} {g t j : Nat} {v x : Value} (hne : t ≠ j) (h : W.cell? ⟨g, j, none⟩ = some x) : (W.setCell ⟨g, t, none⟩ v).drew.cell? ⟨g, j, none⟩ = some x := by
  show (W.setCell ⟨g, t, none⟩ v).cell? ⟨g, j, none⟩ = some x
  rw [← h]
  simp only [World.setCell, World.cell?, Array.getElem?_modify, if_true]
  cases W.heap[g]? with
  | none => rfl
  | some ob => cases ob <;> simp [Option.map, hne]
theorem oneCell_map (κ : IntKind) (l : List Int) : ∀ v ∈ ((l.map (Value.int κ)).toArray).toList, v.oneCell' = true := by
  intro v hv
  simp only [List.mem_map] at hv
  obtain ⟨x, _, rfl⟩ := hv
  rfl
theorem oneCell_map' (κ : IntKind) (l : List Int) : ∀ v ∈ l.map (Value.int κ), v.oneCell' = true := by
  intro v hv
  obtain ⟨x, _, rfl⟩ := List.mem_map.1 hv
  rfl
theorem map_set_int (κ : IntKind) (l : List Int) (j : Nat) (v : Int) : (l.map (Value.int κ)).toArray.setIfInBounds j (.int κ v) = ((l.set j v).map (Value.int κ)).toArray := by
  rw [List.setIfInBounds_toArray, List.map_set]
theorem run_storeVar_row {P : Program} (w : World) (g : Nat) (t ty : TypeId) (cur vs : Array Value) (hg : w.heap[g]? = some (.cells cur t (0, 0)))
    (hi : (P.info? ty).map (·.size) = some vs.size) (hc : cur.size = vs.size) (h1 : ∀ v ∈ vs.toList, v.oneCell' = true) :
    (storeVar ty ⟨g, 0, none⟩ (.agg vs)).run P w = .ok () (w.setRow g vs) := by
  have hs : (storeCells ⟨g, 0, none⟩ vs.toList 0).run P w = .ok () (w.setRow g vs) := by
    have := run_storeCells_at (P := P) g 0 t vs.toList 0 cur w hg (by simp [hc]) h1
    simp only [Nat.zero_add, List.take_zero, List.nil_append, Array.length_toList] at this
    rw [List.drop_of_length_le (by simp [hc]), List.append_nil] at this
    exact this
  cases hq : P.info? ty with
  | none => simp [hq] at hi
  | some i =>
    have hs' : i.size = vs.size := by simpa [hq] using hi
    simp [storeVar, Value.cells, sizeOf, typeInfo, hq, hs', hs]
theorem wp_store_row {P : Program} {o : Oper} {a : Act} {w : World} {K : Act → World → Prop} {Q : Exit → Act → World → Prop} (ty : TypeId) (x y : Operand) (ho : o.op = .store ty x y)
    (g : Nat) (hx : a.eval x = .pointer (some ⟨g, 0, none⟩)) (vs : Array Value) (hy : a.eval y = .agg vs) (t : TypeId) (cur : Array Value) (hg : w.heap[g]? = some (.cells cur t (0, 0)))
    (hi : (P.info? ty).map (·.size) = some vs.size) (hc : cur.size = vs.size) (h1 : ∀ v ∈ vs.toList, v.oneCell' = true)
    (h : K (a.put o.dst undef) (w.setRow g vs)) : o.wp P a w K Q := by
  unfold Oper.wp execOp
  simp only [ho, hx, hy, Instr.storeAt, Instr.sureAddr, Sem.run_bind, Sem.run_pure, Result.andThen_ok, run_storeVar_row w g t ty cur vs hg hi hc h1]
  exact h
theorem wpList_store_row {P : Program} {ops : Array Oper} {rest : List Oper} {o : Oper} {a : Act} {w : World} {Q : Exit → Act → World → Prop} (hgd : o.guard = none) (ty : TypeId) (x y : Operand) (ho : o.op = .store ty x y)
    (g : Nat) (hx : a.eval x = .pointer (some ⟨g, 0, none⟩)) (vs : Array Value) (hy : a.eval y = .agg vs) (t : TypeId) (cur : Array Value) (hg : w.heap[g]? = some (.cells cur t (0, 0)))
    (hi : (P.info? ty).map (·.size) = some vs.size) (hc : cur.size = vs.size) (h1 : ∀ v ∈ vs.toList, v.oneCell' = true)
    (h : wpList P ops Q rest (a.put o.dst undef) (w.setRow g vs)) : wpList P ops Q (o :: rest) a w :=
  wpList_plain hgd fun _ hK => wp_store_row ty x y ho g hx vs hy t cur hg hi hc h1 (hK _ _ h)
theorem below_setRow {B g : Nat} {a w : World} (h : Below B a w) (hg : B ≤ g) (hl : g < w.heap.size) (cs : Array Value) : Below B a (w.setRow g cs) := by
  refine h.grown (row := some g) ⟨rfl, rfl, rfl, by simp [World.setRow], fun k _ hk => Go.setRow_other _ _ _ _ (fun e => hk (by simp [e]))⟩ (by omega) (fun j e => by cases e; exact hg)

theorem wpList_wanted {P : Program} {ops : Array Oper} {rest : List Oper} {o : Oper} {a : Act} {w : World} {Q : Exit → Act → World → Prop} (hg : Region.wanted o (yielded ops a.tmps) = true)
    (h : ∀ K : Act → World → Prop, (∀ a w, wpList P ops Q rest a w → K a w) → o.wp P a w K Q) : wpList P ops Q (o :: rest) a w :=
  wpList_step fun K hK => by simp only [hg, if_true]; exact h K hK
theorem wpList_load_row_g {P : Program} {ops : Array Oper} {rest : List Oper} {o : Oper} {a : Act} {w : World} {Q : Exit → Act → World → Prop} (ty : TypeId) (x : Operand) (ho : o.op = .load ty x) (hgd : Region.wanted o (yielded ops a.tmps) = true)
    (g : Nat) (hx : a.eval x = .pointer (some ⟨g, 0, none⟩)) (t : TypeId) (cs : Array Value) (fr : Nat × Nat) (d : TypeDesc) (hg : w.heap[g]? = some (.cells cs t fr))
    (hu : P.underlying ty = some d) (hd : (match d with | .struct _ | .array _ _ => true | _ => false) = true) (hi : (P.info? ty).map (·.size) = some cs.size)
    (h : wpList P ops Q rest (a.put o.dst (.agg cs)) w) : wpList P ops Q (o :: rest) a w :=
  wpList_wanted hgd fun _ hK => wp_load_row ty x ho g hx t cs fr d hg hu hd hi (hK _ _ h)
theorem range_of_row {w : World} {g : Nat} {cs : List Value} {t : TypeId} {fr : Nat × Nat} (h : w.heap[g]? = some (.cells cs.toArray t fr)) : w.rangeAt g 0 cs := fun j v hv => by
  rw [Nat.zero_add]
  simp [World.cell?, h, hv]
/-- a row of 32 values that stands -/
theorem range_call {w w' : World} {g : Nat} {cs : List Value} (h : w.rangeAt g 0 cs) (hg : g < w.heap.size) (hb : Below w.heap.size w w') : w'.rangeAt g 0 cs := fun j v hv => by
  rw [hb.cell (p := ⟨g, 0 + j, none⟩) hg]; exact h j v hv
theorem results_row_slot {P : Program} {fn : Func} {p q : Tmp} {ty : TypeId} (h : fn.results = #[.cell p ty, .tmp q]) (tmps : Array Value) (w : World) (g : Nat) (t : TypeId) (cs : Array Value) (fr : Nat × Nat) (d : TypeDesc)
    (hp : tmps.getD p undef = .pointer (some ⟨g, 0, none⟩)) (hg : w.heap[g]? = some (.cells cs t fr))
    (hu : P.underlying ty = some d) (hd : (match d with | .struct _ | .array _ _ => true | _ => false) = true) (hi : (P.info? ty).map (·.size) = some cs.size) (v : Value) (hv : tmps.getD q undef = v) :
    (results fn tmps).run P w = .ok (.tuple #[.agg cs, v]) w := by
  have hp' : tmps[p]?.getD undef = .pointer (some ⟨g, 0, none⟩) := by simpa using hp
  have hv' : tmps[q]?.getD undef = v := by simpa using hv
  simp [results, h, hp', hv', asAddr, run_loadVar_row w g t ty cs fr d hg hu hd hi]
section
variable {P : Program} {ops : Array Oper} {Q : Exit → Act → World → Prop} {md : Region.Mode} {S : World → Prop}
/-- Number i alone may come up. -/
theorem wpAnyH_one (i : Nat) {o : Oper} {fuel : Nat} {listed : Array Bool} {a : Act} {w : World} (hr : Region.ready md ops listed = [i]) (ho : ops[i]? = some o)
    (h : ∀ K' : Act → World → Prop, Shut (∀ a w, S w → (S w → wpAnyH P md ops Q S fuel (listed.setIfInBounds i true) a w) → K' a w) → if Region.wanted o (yielded ops a.tmps) = true then Oper.wp P o a w K' Q else K' (a.put o.dst undef) w) :
    wpAnyH P md ops Q S (fuel + 1) listed a w := by
  refine wpAnyH_all hr (by simp) (fun j hj => ?_)
  obtain rfl : j = i := by simpa using hj
  exact wpOp_step ho (fun K' hK => h K' (fun a w hS hW => hK a w ⟨hS, hW hS⟩))
end
section
variable {P : Program} (w : World)
theorem all_range_eq : ∀ (xs ys : List Int), xs.length = ys.length → ((List.range xs.length).all fun i => xs.getD i 0 == ys.getD i 0) = (xs == ys)
  | [], [], _ => rfl
  | x :: xs, y :: ys, h => by
    have ih := all_range_eq xs ys (by simpa using h)
    rw [List.length_cons, List.range_succ_eq_map, List.all_cons, List.all_map]
    simp only [List.getD_cons_zero, Function.comp_def, List.getD_cons_succ, ih]
    simp [List.cons_beq_cons]
  | [], _ :: _, h => by simp at h
  | _ :: _, [], h => by simp at h

/-- '==' of two arrays of integers -/
theorem run_equalIn_ints (d : Nat) (t e : TypeId) (q : IntKind) (n : Nat) (ht : P.underlying t = some (.array n e)) (he : P.underlying e = some (.int q)) (hsz : ∀ w, (sizeOf e).run P w = .ok 1 w)
    (xs ys : List Int) (hx : xs.length = n) (hy : ys.length = n) :
    (Op.equalIn (d + 2) t (.agg (xs.map (Value.int q)).toArray) (.agg (ys.map (Value.int q)).toArray)).run P w = .ok (xs == ys) w := by
  rw [← all_range_eq xs ys (hx.trans hy.symm), hx, List.range_eq_range', Op.equalIn]
  simp only [Sem.run_bind, run_underlying ht, Result.andThen_ok, hsz, Std.Legacy.Range.forIn_eq_forIn_range', Std.Legacy.Range.size, Nat.sub_zero, Nat.add_sub_cancel, Nat.div_one]
  have hl : ∀ i ∈ List.range' 0 n 1, i < n := fun i hi => by simpa using (List.mem_range'_1.1 hi).2
  generalize List.range' 0 n 1 = l at hl ⊢
  induction l with
  | nil => simp
  | cons i l ih =>
    have hi : i < n := hl i (by simp)
    have px : (part e (xs.map (Value.int q)).toArray (i * 1)).run P w = .ok (.int q (xs.getD i 0)) w := by
      simp [part, isAgg, run_underlying he, List.getD, List.getElem?_eq_getElem (show i < xs.length by omega)]
    have py : (part e (ys.map (Value.int q)).toArray (i * 1)).run P w = .ok (.int q (ys.getD i 0)) w := by
      simp [part, isAgg, run_underlying he, List.getD, List.getElem?_eq_getElem (show i < ys.length by omega)]
    have pe : (Op.equalIn (d + 1) e (.int q (xs.getD i 0)) (.int q (ys.getD i 0))).run P w = .ok (xs.getD i 0 == ys.getD i 0) w := by
      rw [run_equalIn_int w d e q q _ _ he]
    simp only [List.forIn_cons, Sem.run_bind, px, py, pe, Result.andThen_ok, List.all_cons]
    cases hb : (xs.getD i 0 == ys.getD i 0)
    · simp
    · simp only [Bool.not_true, Bool.false_eq_true, if_false, Sem.run_pure, Result.andThen_ok, Bool.true_and]
      exact ih fun j hj => hl j (by simp [hj])

theorem run_eql_ints (t e : TypeId) (q : IntKind) (n : Nat) (ht : P.underlying t = some (.array n e)) (he : P.underlying e = some (.int q)) (hsz : ∀ w, (sizeOf e).run P w = .ok 1 w)
    (xs ys : List Int) (hx : xs.length = n) (hy : ys.length = n) :
    (binOp .eql t (.agg (xs.map (Value.int q)).toArray) (.agg (ys.map (Value.int q)).toArray)).run P w = .ok (.bool (xs == ys)) w := by
  rw [run_eql_struct, run_equalIn_ints w 9998 t e q n ht he hsz xs ys hx hy]
  rfl
theorem run_neq_ints (t e : TypeId) (q : IntKind) (n : Nat) (ht : P.underlying t = some (.array n e)) (he : P.underlying e = some (.int q)) (hsz : ∀ w, (sizeOf e).run P w = .ok 1 w)
    (xs ys : List Int) (hx : xs.length = n) (hy : ys.length = n) :
    (binOp .neq t (.agg (xs.map (Value.int q)).toArray) (.agg (ys.map (Value.int q)).toArray)).run P w = .ok (.bool (!(xs == ys))) w := by
  rw [run_neq_struct, run_equalIn_ints w 9998 t e q n ht he hsz xs ys hx hy]
  rfl
end
end Go.Proofs.YtfohemgfiidokaaGreatDoor
